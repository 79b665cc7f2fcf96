/- ucell.Upper, Lower and lanyardref01's. -/
import Derived.Test.YtobogbjpdagklaaDoorRefKind2
import Derived.Lib.Hide
namespace Go.Proofs.YtobogbjpdagklaaDoor.Kinds
open Go Go.RowKit Go.Proofs.YtobogbjpdagklaaDoor.Rw
def upT : List (Int × Int) := [(97, 122), (224, 246), (248, 254)]
def loT : List (Int × Int) := [(65, 90), (192, 214), (216, 222)]
def upper (r : Int) : Int := if inT upT r = true then r - 32 else r
def lower (r : Int) : Int := if inT loT r = true then r + 32 else r
theorem Upper_calls (w : World) (r : Int) (h0 : -2147483648 ≤ r) (h1 : r ≤ 2147483647) : Calls Tryd.prog 32 #[.int .i32 r] w fun e w' => e = .returned (.int .i32 (upper r)) ∧ w = w' := by
  by_cases h : (97 ≤ r ∧ r ≤ 122) ∨ (224 ≤ r ∧ r ≤ 254 ∧ r ≠ 247)
  · rw [show upper r = r - 32 by unfold upper; rw [if_pos (by simp [inT, upT]; omega)]]
    go_enter Tryd.func32, Tryd.ntmps32
    go_wp2
    all_goals first | (go_ret; exact ⟨rfl, rfl⟩) | (exfalso; simp only [ne_eq, bne_eq_false_iff_eq] at *; omega)
  · rw [show upper r = r by unfold upper; rw [if_neg (by simp [inT, upT]; omega)]]
    go_enter Tryd.func32, Tryd.ntmps32
    go_wp2
    all_goals first | (go_ret; exact ⟨rfl, rfl⟩) | (exfalso; simp only [bne_iff_ne, ne_eq] at *; omega)
theorem Lower_calls (w : World) (r : Int) (h0 : -2147483648 ≤ r) (h1 : r ≤ 2147483647) : Calls Tryd.prog 34 #[.int .i32 r] w fun e w' => e = .returned (.int .i32 (lower r)) ∧ w = w' := by
  by_cases h : (65 ≤ r ∧ r ≤ 90) ∨ (192 ≤ r ∧ r ≤ 222 ∧ r ≠ 215)
  · rw [show lower r = r + 32 by unfold lower; rw [if_pos (by simp [inT, loT]; omega)]]
    go_enter Tryd.func34, Tryd.ntmps34
    go_wp2
    all_goals first | (go_ret; exact ⟨rfl, rfl⟩) | (exfalso; simp only [ne_eq, bne_eq_false_iff_eq] at *; omega)
  · rw [show lower r = r by unfold lower; rw [if_neg (by simp [inT, loT]; omega)]]
    go_enter Tryd.func34, Tryd.ntmps34
    go_wp2
    all_goals first | (go_ret; exact ⟨rfl, rfl⟩) | (exfalso; simp only [bne_iff_ne, ne_eq] at *; omega)
theorem inT_range (T : List (Int × Int)) (r lo hi : Int) (hT : ∀ p ∈ T, lo ≤ p.1 ∧ p.2 ≤ hi) (h : inT T r = true) : lo ≤ r ∧ r ≤ hi := by
  simp only [inT, List.any_eq_true, decide_eq_true_eq] at h
  obtain ⟨p, hp, h1, h2⟩ := h
  have := hT p hp
  omega
theorem RfUpper_calls (w : World) (r : Int) (h0 : -2147483648 ≤ r) (h1 : r ≤ 2147483647) : Calls Tryd.prog 33 #[.int .i32 r] w fun e w' => e = .returned (.int .i32 (upper r)) ∧ Keeps [] w w' := by
  have hL := fun (cs : Array Value) (hc : cs.toList = ns .i32 (flat upT)) => In_new w upT cs 6 6 hc rfl (by decide) r
  cases l : inT upT r with
  | true =>
    rw [show upper r = r - 32 by simp [upper, l]]
    have hr := inT_range upT r 97 254 (by decide) l
    rw [l] at hL
    have HL := Lib.hid hL; clear hL l
    obtain ⟨r1, r2⟩ := hr
    go_enter Tryd.func33, Tryd.ntmps33
    go_wp2_with fail
    refine (HL.out _ rfl).mono ?_
    rintro e w1 ⟨rfl, hk1⟩
    go_wp2
    all_goals go_ret
    all_goals exact ⟨by first | rfl | go_num, hk1⟩
  | false =>
    rw [show upper r = r by simp [upper, l]]
    rw [l] at hL
    have HL := Lib.hid hL; clear hL l
    go_enter Tryd.func33, Tryd.ntmps33
    go_wp2_with fail
    refine (HL.out _ rfl).mono ?_
    rintro e w1 ⟨rfl, hk1⟩
    go_wp2
    all_goals go_ret
    all_goals exact ⟨rfl, hk1⟩
theorem RfLower_calls (w : World) (r : Int) (h0 : -2147483648 ≤ r) (h1 : r ≤ 2147483647) : Calls Tryd.prog 35 #[.int .i32 r] w fun e w' => e = .returned (.int .i32 (lower r)) ∧ Keeps [] w w' := by
  have hL := fun (cs : Array Value) (hc : cs.toList = ns .i32 (flat loT)) => In_new w loT cs 6 6 hc rfl (by decide) r
  cases l : inT loT r with
  | true =>
    rw [show lower r = r + 32 by simp [lower, l]]
    have hr := inT_range loT r 65 222 (by decide) l
    rw [l] at hL
    have HL := Lib.hid hL; clear hL l
    obtain ⟨r1, r2⟩ := hr
    go_enter Tryd.func35, Tryd.ntmps35
    go_wp2_with fail
    refine (HL.out _ rfl).mono ?_
    rintro e w1 ⟨rfl, hk1⟩
    go_wp2
    all_goals go_ret
    all_goals exact ⟨by first | rfl | go_num, hk1⟩
  | false =>
    rw [show lower r = r by simp [lower, l]]
    rw [l] at hL
    have HL := Lib.hid hL; clear hL l
    go_enter Tryd.func35, Tryd.ntmps35
    go_wp2_with fail
    refine (HL.out _ rfl).mono ?_
    rintro e w1 ⟨rfl, hk1⟩
    go_wp2
    all_goals go_ret
    all_goals exact ⟨rfl, hk1⟩
end Go.Proofs.YtobogbjpdagklaaDoor.Kinds
