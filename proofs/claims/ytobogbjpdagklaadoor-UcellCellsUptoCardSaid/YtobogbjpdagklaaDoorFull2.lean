/- utf8.FullRune at every slice of bytes. -/
import Derived.Test.YtobogbjpdagklaaDoorFull
namespace Go.Proofs.YtobogbjpdagklaaDoor.Dec
open Go Go.RowKit Go.Proofs.YtobogbjpdagklaaDoor.Rw
theorem Full_0 (w : World) (A : Option Addr) (c : Nat) : Calls Tryd.prog 48 #[.slice A 0 c] w fun e w' => e = .returned (.bool false) ∧ Keeps [] w w' := by
  go_enter Tryd.func48, Tryd.ntmps48
  go_wp2
  go_ret
  exact ⟨rfl, Keeps.refl _ _⟩
theorem Full_4 (w : World) (hT : UTabs w) (b off n c : Nat) (x : UInt8) (hn : 4 ≤ n) (h0 : w.cell? ⟨b, off, none⟩ = some (.int .u8 x.toNat)) :
    Calls Tryd.prog 48 #[.slice (some ⟨b, off, none⟩) n c] w fun e w' => e = .returned (.bool true) ∧ Keeps [] w w' := by
  have ha : x.toNat < 256 := x.toBitVec.isLt
  have g0 := hT.1 x.toNat ha
  have hA := hT.2
  have hz : ¬ ((n : Int) = 0) := by omega
  have hz0 : (0 : Int) < (n : Int) := by omega
  have n0 : (0 : Int) ≤ (n : Int) := by omega
  have n1 : (1 : Int) ≤ (n : Int) := by omega
  have n2 : (2 : Int) ≤ (n : Int) := by omega
  have n3 : (3 : Int) ≤ (n : Int) := by omega
  have n4 : (4 : Int) ≤ (n : Int) := by omega
  clear hT hA
  rcases Lib.firstT_cases x.toNat with hX | hX | hX | hX | hX | hX | hX | hX | hX <;> rw [hX] at g0
  all_goals clear hX
  all_goals go_enter Tryd.func48, Tryd.ntmps48
  all_goals go_wp2
  all_goals go_ret
  all_goals exact ⟨rfl, Keeps.refl _ _⟩
theorem full_long (l : List UInt8) (h : 4 ≤ l.length) : full l = true := by
  have h0 : ¬ l.length = 0 := by omega
  have h1 : Lib.firstT (l.getD 0 0).toNat % 8 ≤ l.length := by
    rcases Lib.firstT_cases (l.getD 0 0).toNat with hX | hX | hX | hX | hX | hX | hX | hX | hX <;> rw [hX] <;> omega
  simp only [full, if_neg h0, if_pos h1]
theorem Full_calls (w : World) (hT : UTabs w) (A : Option Addr) (c : Nat) (l : List UInt8) (hs : Src w A (bs l)) :
    Calls Tryd.prog 48 #[.slice A l.length c] w fun e w' => e = .returned (.bool (full l)) ∧ Keeps [] w w' := by
  match l, hs with
  | [], _ => exact Full_0 w A c
  | [x], hs =>
    obtain ⟨b, off, rfl⟩ := src_head hs
    exact Full_1 w hT b off c x (src_cell hs 0 _ rfl)
  | [x, y], hs =>
    obtain ⟨b, off, rfl⟩ := src_head hs
    exact Full_2 w hT b off c x y (src_cell hs 0 _ rfl) (src_cell hs 1 _ rfl)
  | [x, y, z], hs =>
    obtain ⟨b, off, rfl⟩ := src_head hs
    exact Full_3 w hT b off c x y z (src_cell hs 0 _ rfl) (src_cell hs 1 _ rfl) (src_cell hs 2 _ rfl)
  | x :: y :: z :: u :: r, hs =>
    obtain ⟨b, off, rfl⟩ := src_head hs
    rw [full_long _ (by simp)]
    exact Full_4 w hT b off _ c x (by simp) (src_cell hs 0 _ rfl)
end Go.Proofs.YtobogbjpdagklaaDoor.Dec
