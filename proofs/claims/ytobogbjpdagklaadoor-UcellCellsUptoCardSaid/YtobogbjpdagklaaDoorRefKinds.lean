/- lanyardref01: which numbers are runes, controls, letters, how wide a rune is: the same as ucell's. -/
import Derived.Test.YtobogbjpdagklaaDoorLetter
namespace Go.Proofs.YtobogbjpdagklaaDoor.Kinds
open Go Go.RowKit Go.Proofs.YtobogbjpdagklaaDoor.Rw

theorem RfRune_calls (w : World) (r : Int) (h0 : -2147483648 ≤ r) (h1 : r ≤ 2147483647) : Calls Tryd.prog 18 #[.int .i32 r] w fun e w' => e = .returned (.bool (valid r)) ∧ w = w' := by
  go_enter Tryd.func18, Tryd.ntmps18
  go_wp2
  all_goals go_ret
  all_goals refine ⟨?_, rfl⟩
  all_goals (refine congrArg (fun b => Ending.returned (.bool b)) ?_; rw [Bool.eq_iff_iff]; simp [valid]; try omega)
theorem RfControl_calls (w : World) (r : Int) (h0 : -2147483648 ≤ r) (h1 : r ≤ 2147483647) : Calls Tryd.prog 29 #[.int .i32 r] w fun e w' => e = .returned (.bool (ctl r)) ∧ w = w' := by
  go_enter Tryd.func29, Tryd.ntmps29
  go_wp2
  all_goals go_ret
  all_goals refine ⟨?_, rfl⟩
  all_goals (refine congrArg (fun b => Ending.returned (.bool b)) ?_; rw [Bool.eq_iff_iff]; simp [ctl]; try omega)

/-- A list of pairs, flat. -/
def flat (T : List (Int × Int)) : List Int := T.flatMap fun p => [p.1, p.2]
theorem flat_length (T : List (Int × Int)) : (flat T).length = T.length * 2 := by
  induction T with
  | nil => rfl
  | cons p T ih => simp only [flat, List.flatMap_cons, List.length_append, List.length_cons, List.length_nil] at *; omega
theorem flat_at (T : List (Int × Int)) (k : Nat) (hk : k < T.length) : (flat T)[k * 2]? = some T[k].1 ∧ (flat T)[k * 2 + 1]? = some T[k].2 := by
  induction T generalizing k with
  | nil => simp at hk
  | cons p T ih =>
    cases k with
    | zero => simp [flat]
    | succ k =>
      have h := ih k (by simpa using hk)
      simp only [List.getElem_cons_succ]
      constructor
      · rw [show (k + 1) * 2 = (k * 2) + 2 by omega]; simpa [flat] using h.1
      · rw [show (k + 1) * 2 + 1 = (k * 2 + 1) + 2 by omega]; simpa [flat] using h.2
set_option maxRecDepth 100000 in
theorem RfIn_calls (w : World) (g n c : Nat) (T : List (Int × Int)) (hT : Src w (some ⟨g, 0, none⟩) (ns .i32 (flat T))) (hn : (flat T).length = n) (hn2 : n ≤ 100) (r : Int) :
    Calls Tryd.prog 52 #[.int .i32 r, .slice (some ⟨g, 0, none⟩) n c] w fun e w' => e = .returned (.bool (inT T r)) ∧ Keeps [] w w' := by
  have hn3 := hn
  rw [flat_length] at hn3
  have Hn := Lib.hid hn; clear hn
  have cells : ∀ k (hk : k < T.length), w.cell? ⟨g, k * 2, none⟩ = some (.int .i32 T[k].1) ∧ w.cell? ⟨g, k * 2 + 1, none⟩ = some (.int .i32 T[k].2) := fun k hk => by
    have h := flat_at T k hk
    constructor
    · obtain ⟨ad, ha, hc⟩ := hT (k * 2) (.int .i32 T[k].1) (by simp [ns, List.getElem?_map, h.1])
      cases ha; rw [add_at] at hc; simpa using hc
    · obtain ⟨ad, ha, hc⟩ := hT (k * 2 + 1) (.int .i32 T[k].2) (by simp [ns, List.getElem?_map, h.2])
      cases ha; rw [add_at] at hc; simpa using hc
  have HT := Lib.hid cells; clear cells hT
  go_enter Tryd.func52, Tryd.ntmps52
  go_wp2_with fail
  go_loopw [5] (fun i wr => ∃ k : Nat, k ≤ T.length ∧ i = .int .i64 (k * 2 : Nat) ∧ Keeps [] w wr ∧ Hid (inT (T.take k) r = false)) (fun i _ => n - (intOf i).toNat)
  case atStart => exact ⟨0, Nat.zero_le _, rfl, Keeps.refl _ _, by show _ = _; simp [inT]⟩
  case round =>
    obtain ⟨k, hk, rfl, hkr, hno⟩ := hrel
    obtain ⟨m, hm⟩ : ∃ m, m = k * 2 := ⟨_, rfl⟩
    rw [← hm]
    by_cases hlt : k < T.length
    · obtain ⟨a, ha⟩ : ∃ a, a = T[k].1 := ⟨_, rfl⟩
      obtain ⟨b, hb⟩ : ∃ b, b = T[k].2 := ⟨_, rfl⟩
      have c0 : wr.cell? ⟨g, m, none⟩ = some (.int .i32 a) := by rw [ha, hm]; exact hkr.cell (HT.out k hlt).1 (by simp)
      have c1 : wr.cell? ⟨g, m + 1, none⟩ = some (.int .i32 b) := by rw [hb, hm]; exact hkr.cell (HT.out k hlt).2 (by simp)
      have Ha := Lib.hid ha; clear ha
      have Hb := Lib.hid hb; clear hb
      have hmn : m + 1 < n := by omega
      have Hm := Lib.hid hm
      have Hn3 := Lib.hid hn3
      clear hm hn3
      by_cases h1 : a ≤ r
      · by_cases h2 : r ≤ b
        · have hyes := Lib.hid (any_true T k hlt r ⟨by rw [← Ha.out]; exact h1, by rw [← Hb.out]; exact h2⟩)
          go_wp2
          go_ret
          exact ⟨by rw [hyes.out]; rfl, hkr⟩
        · have hnext := Lib.hid (show inT (T.take (k + 1)) r = false by rw [any_snoc T k hlt, hno.out, ← Ha.out, ← Hb.out]; simp; omega)
          go_wp2
          go_roundw
          case rel => exact ⟨k + 1, by omega, by rw [show (((k + 1) * 2 : Nat) : Int) = (m : Int) + 2 by have := Hm.out; omega], hkr, hnext⟩
          case measure => simp [intOf]; omega
      · have hnext := Lib.hid (show inT (T.take (k + 1)) r = false by rw [any_snoc T k hlt, hno.out, ← Ha.out, ← Hb.out]; simp; omega)
        go_wp2
        go_roundw
        case rel => exact ⟨k + 1, by omega, by rw [show (((k + 1) * 2 : Nat) : Int) = (m : Int) + 2 by have := Hm.out; omega], hkr, hnext⟩
        case measure => simp [intOf]; omega
    · obtain rfl : k = T.length := by omega
      have hmn : m = n := by omega
      subst hmn
      clear hm hn3
      go_wp2
      go_ret
      have := hno.out
      rw [List.take_of_length_le (Nat.le_refl _)] at this
      exact ⟨by rw [this]; rfl, hkr⟩
end Go.Proofs.YtobogbjpdagklaaDoor.Kinds
