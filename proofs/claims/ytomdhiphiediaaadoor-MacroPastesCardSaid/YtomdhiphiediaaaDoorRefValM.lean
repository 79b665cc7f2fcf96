/- lanyardref01: value. -/
import Derived.Test.YtomdhiphiediaaaDoorRefHeadM
namespace Go.Proofs.YtomdhiphiediaaaDoor.Dec
open Go Go.RowKit Go.Proofs.YtomdhiphiediaaaDoor.Rw

theorem ret_i32 {a b : Int} (h : a = b) : Ending.returned (.int .i32 a) = .returned (.int .i32 b) := by rw [h]
set_option maxRecDepth 100000 in
theorem Value_calls (w : World) (A : Option Addr) (n c : Nat) (l : List UInt8) (hs : Src w A (bs l)) (hn : 0 < n) (hn4 : n ≤ 4) (hnl : n ≤ l.length) :
    Calls Tryd.prog 43 #[.slice A n c] w fun e w' => e = .returned (.int .i32 ((valueN n (byteN l 0) (byteN l 1) (byteN l 2) (byteN l 3) : Nat) : Int)) ∧ Keeps [] w w' := by
  obtain ⟨b, off, rfl⟩ : ∃ b off, A = some ⟨b, off, none⟩ := by
    cases l with
    | nil => simp at hnl; omega
    | cons x l => exact src_head (xs := bs l) (x := .int .u8 x.toNat) hs
  have hcell : ∀ k, k < l.length → w.cell? ⟨b, off + k, none⟩ = some (.int .u8 (byteN l k : Nat)) := fun k hk => src_cell hs k _ (bs_at l k hk)
  have h0 := hcell 0 (by omega)
  rw [Nat.add_zero] at h0
  have g0 := byteN_lt l 0
  have g1 := byteN_lt l 1
  have g2 := byteN_lt l 2
  have g3 := byteN_lt l 3
  have hcase : n = 1 ∨ n = 2 ∨ n = 3 ∨ n = 4 := by omega
  rcases hcase with rfl | rfl | rfl | rfl
  · clear hcell hs
    generalize byteN l 0 = x0 at *
    go_enter Tryd.func43, Tryd.ntmps43
    go_wp2
    go_ret
    exact ⟨ret_i32 (by simp [valueN]), Keeps.refl _ _⟩
  · have h1 := hcell 1 (by omega)
    clear hcell hs
    generalize byteN l 0 = x0 at *
    generalize byteN l 1 = x1 at *
    go_enter Tryd.func43, Tryd.ntmps43
    go_wp2
    go_quiet (fail)
    go_wp2
    go_ret
    exact ⟨ret_i32 (by simp [valueN]), (Keeps.refl _ _).drewN _⟩
  · have h1 := hcell 1 (by omega)
    have h2 := hcell 2 (by omega)
    clear hcell hs
    generalize byteN l 0 = x0 at *
    generalize byteN l 1 = x1 at *
    generalize byteN l 2 = x2 at *
    go_enter Tryd.func43, Tryd.ntmps43
    go_wp2
    go_quiet (fail)
    go_wp2
    go_ret
    exact ⟨ret_i32 (by simp [valueN]), (Keeps.refl _ _).drewN _⟩
  · have h1 := hcell 1 (by omega)
    have h2 := hcell 2 (by omega)
    have h3 := hcell 3 (by omega)
    clear hcell hs
    generalize byteN l 0 = x0 at *
    generalize byteN l 1 = x1 at *
    generalize byteN l 2 = x2 at *
    generalize byteN l 3 = x3 at *
    go_enter Tryd.func43, Tryd.ntmps43
    go_wp2
    go_quiet (fail)
    go_wp2
    go_ret
    exact ⟨ret_i32 (by simp [valueN]), (Keeps.refl _ _).drewN _⟩

end Go.Proofs.YtomdhiphiediaaaDoor.Dec
