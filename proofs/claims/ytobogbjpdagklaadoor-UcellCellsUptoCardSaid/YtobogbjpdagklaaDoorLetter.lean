/- ucell: which numbers are letters. -/
import Derived.Test.YtobogbjpdagklaaDoorKinds
namespace Go.Proofs.YtobogbjpdagklaaDoor.Kinds
open Go Go.RowKit Go.Proofs.YtobogbjpdagklaaDoor.Rw

def lowLetter (r : Int) : Bool := decide (48 ≤ r ∧ r ≤ 57 ∨ 65 ≤ r ∧ r ≤ 90 ∨ 97 ≤ r ∧ r ≤ 122)
def excl (r : Int) : Bool := decide (r = 215 ∨ r = 247 ∨ r = 65533 ∨ (8192 ≤ r ∧ r ≤ 8303) ∨ (12288 ≤ r ∧ r ≤ 12351) ∨ (65280 ≤ r ∧ r ≤ 65295))
def letter (r : Int) : Bool := if r < 192 then lowLetter r else if excl r = true then false else if valid r = true then decide (0 < width r) else false
theorem letter_low (r : Int) (h : r < 192) : letter r = lowLetter r := by simp [letter, h]
theorem Letter_low (w : World) (r : Int) (h0 : -2147483648 ≤ r) (h : r < 192) : Calls Tryd.prog 30 #[.int .i32 r] w fun e w' => e = .returned (.bool (lowLetter r)) ∧ w = w' := by
  go_enter Tryd.func30, Tryd.ntmps30
  go_wp2
  all_goals go_ret
  all_goals refine ⟨?_, rfl⟩
  all_goals (refine congrArg (fun b => Ending.returned (.bool b)) ?_; rw [Bool.eq_iff_iff]; simp [lowLetter]; try omega)
theorem letter_excl (r : Int) (h : ¬ r < 192) (he : r = 215 ∨ r = 247 ∨ r = 65533 ∨ (8192 ≤ r ∧ r ≤ 8303) ∨ (12288 ≤ r ∧ r ≤ 12351) ∨ (65280 ≤ r ∧ r ≤ 65295)) : letter r = false := by
  have : excl r = true := by simp only [excl, decide_eq_true_eq]; exact he
  simp [letter, h, this]
theorem letter_incl (r : Int) (h : ¬ r < 192) (he : ¬ (r = 215 ∨ r = 247 ∨ r = 65533 ∨ (8192 ≤ r ∧ r ≤ 8303) ∨ (12288 ≤ r ∧ r ≤ 12351) ∨ (65280 ≤ r ∧ r ≤ 65295))) : letter r = if valid r = true then decide (0 < width r) else false := by
  have : excl r = false := by simp only [excl, decide_eq_false_iff_not]; exact he
  simp [letter, h, this]
set_option maxRecDepth 100000 in
set_option maxHeartbeats 1000000 in
theorem Letter_calls (w : World) (hT : Tabs w) (r : Int) (h0 : -2147483648 ≤ r) (h1 : r ≤ 2147483647) : Calls Tryd.prog 30 #[.int .i32 r] w fun e w' => e = .returned (.bool (letter r)) ∧ Keeps [] w w' := by
  by_cases hlow : r < 192
  · rw [letter_low r hlow]
    exact (Letter_low w r h0 hlow).mono fun e w' h => ⟨h.1, h.2 ▸ Keeps.refl _ _⟩
  · have hV := Is_calls w r h0 h1
    have hW := Width_calls w hT r h0 h1
    have hk0 := Keeps.refl [] w
    have h192 : 192 ≤ r := by omega
    clear hT hlow
    have hL : ∀ b : Bool, Hid (letter r = b) → Ending.returned (.bool b) = Ending.returned (.bool (letter r)) := fun b h => by rw [h.out]
    have HL := Lib.hid hL; clear hL
    cases hv : valid r with
    | false =>
      rw [hv] at hV
      have Hv := Lib.hid hv; clear hv hW
      go_enter Tryd.func30, Tryd.ntmps30
      go_wp2_with (go_at_call 41; refine hV.mono ?_; rintro e w' ⟨rfl, rfl⟩)
      all_goals go_ret
      all_goals refine ⟨?_, hk0⟩
      all_goals try simp only [beq_iff_eq, beq_eq_false_iff_ne, ne_eq] at *
      all_goals first
        | exact HL.out false (by show _ = _; exact letter_excl r (by omega) (by omega))
        | exact HL.out false (by show _ = _; rw [letter_incl r (by omega) (by omega), Hv.out]; rfl)
    | true =>
      rw [hv] at hV
      have Hv := Lib.hid hv; clear hv
      generalize hww : width r = wd at *
      have Hww := Lib.hid hww; clear hww
      go_enter Tryd.func30, Tryd.ntmps30
      go_wp2_with (first | (go_at_call 41; refine hV.mono ?_; rintro e w' ⟨rfl, rfl⟩) | (go_at_call 19; refine hW.mono ?_; rintro e w1 ⟨rfl, hk1⟩))
      all_goals go_ret
      all_goals try simp only [beq_iff_eq, beq_eq_false_iff_ne, ne_eq] at *
      all_goals first
        | exact ⟨HL.out false (by show _ = _; exact letter_excl r (by omega) (by omega)), hk0⟩
        | exact ⟨HL.out _ (by show _ = _; rw [letter_incl r (by omega) (by omega), Hv.out, Hww.out]; rfl), hk1⟩
end Go.Proofs.YtobogbjpdagklaaDoor.Kinds
