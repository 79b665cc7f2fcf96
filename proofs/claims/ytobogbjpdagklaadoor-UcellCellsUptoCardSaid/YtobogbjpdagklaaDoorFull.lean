/- utf8.FullRune. -/
import Derived.Test.YtobogbjpdagklaaDoorRunes
import Derived.Deep.DeepCutAuto
import Derived.BigRegion
namespace Go.Proofs.YtobogbjpdagklaaDoor.Dec
open Go Go.RowKit Go.Proofs.YtobogbjpdagklaaDoor.Rw

/-- Do the bytes begin with a whole form (or with none)? -/
def full (l : List UInt8) : Bool :=
  let n := l.length
  let x := Lib.firstT (l.getD 0 0).toNat
  if n = 0 then false else if x % 8 ≤ n then true
  else if 1 < n ∧ ((l.getD 1 0).toNat < Lib.accLo (x / 16) ∨ Lib.accHi (x / 16) < (l.getD 1 0).toNat) then true
  else if 2 < n ∧ ((l.getD 2 0).toNat < 128 ∨ 191 < (l.getD 2 0).toNat) then true else false
theorem src_head {w : World} {A : Option Addr} {x : Value} {xs : List Value} (h : Src w A (x :: xs)) : ∃ b off, A = some ⟨b, off, none⟩ := by
  obtain ⟨ad, rfl, hc⟩ := h 0 x rfl
  obtain ⟨b, off, spot⟩ := ad
  refine ⟨b, off, ?_⟩
  have hsp : spot = none := by
    unfold World.cell? at hc
    split at hc
    · split at hc
      · cases hc
      · rename_i h; simp [Addr.add] at h; exact h
    · cases hc
  rw [hsp]
theorem src_cell {w : World} {b off : Nat} {xs : List Value} (h : Src w (some ⟨b, off, none⟩) xs) (j : Nat) (v : Value) (hj : xs[j]? = some v) : w.cell? ⟨b, off + j, none⟩ = some v := by
  obtain ⟨ad, he, hc⟩ := h j v hj
  cases he
  rwa [add_at] at hc
set_option maxRecDepth 100000 in
set_option maxHeartbeats 4000000 in
theorem Full_1 (w : World) (hT : UTabs w) (b off c : Nat) (x : UInt8) (h0 : w.cell? ⟨b, off, none⟩ = some (.int .u8 x.toNat)) :
    Calls Tryd.prog 48 #[.slice (some ⟨b, off, none⟩) 1 c] w fun e w' => e = .returned (.bool (full [x])) ∧ Keeps [] w w' := by
  have ha : x.toNat < 256 := x.toBitVec.isLt
  have g0 := hT.1 x.toNat ha
  have hA := hT.2
  clear hT
  rcases Lib.firstT_cases x.toNat with hX | hX | hX | hX | hX | hX | hX | hX | hX
  · -- 240
    rw [hX] at g0
    rw [show full [x] = true by simp [full, hX]]
    clear hA hX
    go_enter Tryd.func48, Tryd.ntmps48
    go_wp2
    go_ret
    exact ⟨rfl, Keeps.refl _ _⟩
  · -- 241
    rw [hX] at g0
    rw [show full [x] = true by simp [full, hX]]
    clear hA hX
    go_enter Tryd.func48, Tryd.ntmps48
    go_wp2
    go_ret
    exact ⟨rfl, Keeps.refl _ _⟩
  · -- 2
    rw [hX] at g0
    have p0 : w.cell? ⟨3, 0, none⟩ = some (.int .u8 128) := (hA 0 (by omega)).1
    have p1 : w.cell? ⟨3, 1, none⟩ = some (.int .u8 191) := (hA 0 (by omega)).2
    have k0 := (Keeps.refl [] w).alloc (.cells #[.int .u8 128, .int .u8 191] 79)
    have hacc := blk_new w (.cells #[.int .u8 128, .int .u8 191] 79)
    have e0 := k0.cell h0 (by simp)
    rw [show full [x] = false by simp [full, hX, Lib.accLo, Lib.accHi]]
    clear hA hX
    go_enter Tryd.func48, Tryd.ntmps48
    go_upto_region 8 with fail
    generalize w.alloc (.cells #[.int .u8 128, .int .u8 191] 79) = w1 at *
    have a0 := blk_cell hacc 0
    have a1 := blk_cell hacc 1
    clear hacc p0 p1 g0 h0
    go_region
    all_goals go_wp2
    all_goals go_ret
    all_goals exact ⟨rfl, by first | exact k0 | exact k0.drew⟩
  · -- 19
    rw [hX] at g0
    have p0 : w.cell? ⟨3, 2, none⟩ = some (.int .u8 160) := (hA 1 (by omega)).1
    have p1 : w.cell? ⟨3, 3, none⟩ = some (.int .u8 191) := (hA 1 (by omega)).2
    have k0 := (Keeps.refl [] w).alloc (.cells #[.int .u8 160, .int .u8 191] 79)
    have hacc := blk_new w (.cells #[.int .u8 160, .int .u8 191] 79)
    have e0 := k0.cell h0 (by simp)
    rw [show full [x] = false by simp [full, hX, Lib.accLo, Lib.accHi]]
    clear hA hX
    go_enter Tryd.func48, Tryd.ntmps48
    go_upto_region 8 with fail
    generalize w.alloc (.cells #[.int .u8 160, .int .u8 191] 79) = w1 at *
    have a0 := blk_cell hacc 0
    have a1 := blk_cell hacc 1
    clear hacc p0 p1 g0 h0
    go_region
    all_goals go_wp2
    all_goals go_ret
    all_goals exact ⟨rfl, by first | exact k0 | exact k0.drew⟩
  · -- 3
    rw [hX] at g0
    have p0 : w.cell? ⟨3, 0, none⟩ = some (.int .u8 128) := (hA 0 (by omega)).1
    have p1 : w.cell? ⟨3, 1, none⟩ = some (.int .u8 191) := (hA 0 (by omega)).2
    have k0 := (Keeps.refl [] w).alloc (.cells #[.int .u8 128, .int .u8 191] 79)
    have hacc := blk_new w (.cells #[.int .u8 128, .int .u8 191] 79)
    have e0 := k0.cell h0 (by simp)
    rw [show full [x] = false by simp [full, hX, Lib.accLo, Lib.accHi]]
    clear hA hX
    go_enter Tryd.func48, Tryd.ntmps48
    go_upto_region 8 with fail
    generalize w.alloc (.cells #[.int .u8 128, .int .u8 191] 79) = w1 at *
    have a0 := blk_cell hacc 0
    have a1 := blk_cell hacc 1
    clear hacc p0 p1 g0 h0
    go_region
    all_goals go_wp2
    all_goals go_ret
    all_goals exact ⟨rfl, by first | exact k0 | exact k0.drew⟩
  · -- 35
    rw [hX] at g0
    have p0 : w.cell? ⟨3, 4, none⟩ = some (.int .u8 128) := (hA 2 (by omega)).1
    have p1 : w.cell? ⟨3, 5, none⟩ = some (.int .u8 159) := (hA 2 (by omega)).2
    have k0 := (Keeps.refl [] w).alloc (.cells #[.int .u8 128, .int .u8 159] 79)
    have hacc := blk_new w (.cells #[.int .u8 128, .int .u8 159] 79)
    have e0 := k0.cell h0 (by simp)
    rw [show full [x] = false by simp [full, hX, Lib.accLo, Lib.accHi]]
    clear hA hX
    go_enter Tryd.func48, Tryd.ntmps48
    go_upto_region 8 with fail
    generalize w.alloc (.cells #[.int .u8 128, .int .u8 159] 79) = w1 at *
    have a0 := blk_cell hacc 0
    have a1 := blk_cell hacc 1
    clear hacc p0 p1 g0 h0
    go_region
    all_goals go_wp2
    all_goals go_ret
    all_goals exact ⟨rfl, by first | exact k0 | exact k0.drew⟩
  · -- 52
    rw [hX] at g0
    have p0 : w.cell? ⟨3, 6, none⟩ = some (.int .u8 144) := (hA 3 (by omega)).1
    have p1 : w.cell? ⟨3, 7, none⟩ = some (.int .u8 191) := (hA 3 (by omega)).2
    have k0 := (Keeps.refl [] w).alloc (.cells #[.int .u8 144, .int .u8 191] 79)
    have hacc := blk_new w (.cells #[.int .u8 144, .int .u8 191] 79)
    have e0 := k0.cell h0 (by simp)
    rw [show full [x] = false by simp [full, hX, Lib.accLo, Lib.accHi]]
    clear hA hX
    go_enter Tryd.func48, Tryd.ntmps48
    go_upto_region 8 with fail
    generalize w.alloc (.cells #[.int .u8 144, .int .u8 191] 79) = w1 at *
    have a0 := blk_cell hacc 0
    have a1 := blk_cell hacc 1
    clear hacc p0 p1 g0 h0
    go_region
    all_goals go_wp2
    all_goals go_ret
    all_goals exact ⟨rfl, by first | exact k0 | exact k0.drew⟩
  · -- 4
    rw [hX] at g0
    have p0 : w.cell? ⟨3, 0, none⟩ = some (.int .u8 128) := (hA 0 (by omega)).1
    have p1 : w.cell? ⟨3, 1, none⟩ = some (.int .u8 191) := (hA 0 (by omega)).2
    have k0 := (Keeps.refl [] w).alloc (.cells #[.int .u8 128, .int .u8 191] 79)
    have hacc := blk_new w (.cells #[.int .u8 128, .int .u8 191] 79)
    have e0 := k0.cell h0 (by simp)
    rw [show full [x] = false by simp [full, hX, Lib.accLo, Lib.accHi]]
    clear hA hX
    go_enter Tryd.func48, Tryd.ntmps48
    go_upto_region 8 with fail
    generalize w.alloc (.cells #[.int .u8 128, .int .u8 191] 79) = w1 at *
    have a0 := blk_cell hacc 0
    have a1 := blk_cell hacc 1
    clear hacc p0 p1 g0 h0
    go_region
    all_goals go_wp2
    all_goals go_ret
    all_goals exact ⟨rfl, by first | exact k0 | exact k0.drew⟩
  · -- 68
    rw [hX] at g0
    have p0 : w.cell? ⟨3, 8, none⟩ = some (.int .u8 128) := (hA 4 (by omega)).1
    have p1 : w.cell? ⟨3, 9, none⟩ = some (.int .u8 143) := (hA 4 (by omega)).2
    have k0 := (Keeps.refl [] w).alloc (.cells #[.int .u8 128, .int .u8 143] 79)
    have hacc := blk_new w (.cells #[.int .u8 128, .int .u8 143] 79)
    have e0 := k0.cell h0 (by simp)
    rw [show full [x] = false by simp [full, hX, Lib.accLo, Lib.accHi]]
    clear hA hX
    go_enter Tryd.func48, Tryd.ntmps48
    go_upto_region 8 with fail
    generalize w.alloc (.cells #[.int .u8 128, .int .u8 143] 79) = w1 at *
    have a0 := blk_cell hacc 0
    have a1 := blk_cell hacc 1
    clear hacc p0 p1 g0 h0
    go_region
    all_goals go_wp2
    all_goals go_ret
    all_goals exact ⟨rfl, by first | exact k0 | exact k0.drew⟩
set_option maxRecDepth 100000 in
set_option maxHeartbeats 4000000 in
theorem Full_2 (w : World) (hT : UTabs w) (b off c : Nat) (x y : UInt8) (h0 : w.cell? ⟨b, off, none⟩ = some (.int .u8 x.toNat)) (h1 : w.cell? ⟨b, off + 1, none⟩ = some (.int .u8 y.toNat)) :
    Calls Tryd.prog 48 #[.slice (some ⟨b, off, none⟩) 2 c] w fun e w' => e = .returned (.bool (full [x, y])) ∧ Keeps [] w w' := by
  have ha : x.toNat < 256 := x.toBitVec.isLt
  have g0 := hT.1 x.toNat ha
  have hA := hT.2
  clear hT
  have hy : y.toNat < 256 := y.toBitVec.isLt
  rcases Lib.firstT_cases x.toNat with hX | hX | hX | hX | hX | hX | hX | hX | hX
  · -- 240
    rw [hX] at g0
    rw [show full [x, y] = true by simp [full, hX]]
    clear hA hX
    go_enter Tryd.func48, Tryd.ntmps48
    go_wp2
    go_ret
    exact ⟨rfl, Keeps.refl _ _⟩
  · -- 241
    rw [hX] at g0
    rw [show full [x, y] = true by simp [full, hX]]
    clear hA hX
    go_enter Tryd.func48, Tryd.ntmps48
    go_wp2
    go_ret
    exact ⟨rfl, Keeps.refl _ _⟩
  · -- 2
    rw [hX] at g0
    rw [show full [x, y] = true by simp [full, hX]]
    clear hA hX
    go_enter Tryd.func48, Tryd.ntmps48
    go_wp2
    go_ret
    exact ⟨rfl, Keeps.refl _ _⟩
  · -- 19
    rw [hX] at g0
    have p0 : w.cell? ⟨3, 2, none⟩ = some (.int .u8 160) := (hA 1 (by omega)).1
    have p1 : w.cell? ⟨3, 3, none⟩ = some (.int .u8 191) := (hA 1 (by omega)).2
    have k0 := (Keeps.refl [] w).alloc (.cells #[.int .u8 160, .int .u8 191] 79)
    have hacc := blk_new w (.cells #[.int .u8 160, .int .u8 191] 79)
    have e0 := k0.cell h0 (by simp)
    have e1 := k0.cell h1 (by simp)
    by_cases s1 : (y.toNat : Int) < 160
    · have s1n : y.toNat < 160 := by omega
      rw [show full [x, y] = true by simp [full, hX, Lib.accLo, Lib.accHi, s1n] <;> omega]
      clear hA hX
      go_enter Tryd.func48, Tryd.ntmps48
      go_upto_region 8 with fail
      generalize w.alloc (.cells #[.int .u8 160, .int .u8 191] 79) = w1 at *
      have a0 := blk_cell hacc 0
      have a1 := blk_cell hacc 1
      clear hacc p0 p1 g0 h0 h1
      go_region
      all_goals go_wp2
      all_goals try (go_region; all_goals go_wp2)
      all_goals go_ret
      all_goals exact ⟨rfl, by repeat (first | exact k0 | refine Keeps.drew ?_)⟩
    by_cases s2 : (191 : Int) < y.toNat
    · have s2n : 191 < y.toNat := by omega
      rw [show full [x, y] = true by simp [full, hX, Lib.accLo, Lib.accHi, s2n] <;> omega]
      clear hA hX
      go_enter Tryd.func48, Tryd.ntmps48
      go_upto_region 8 with fail
      generalize w.alloc (.cells #[.int .u8 160, .int .u8 191] 79) = w1 at *
      have a0 := blk_cell hacc 0
      have a1 := blk_cell hacc 1
      clear hacc p0 p1 g0 h0 h1
      go_region
      all_goals go_wp2
      all_goals try (go_region; all_goals go_wp2)
      all_goals go_ret
      all_goals exact ⟨rfl, by repeat (first | exact k0 | refine Keeps.drew ?_)⟩
    rw [show full [x, y] = false by simp [full, hX, Lib.accLo, Lib.accHi] <;> omega]
    clear hA hX
    go_enter Tryd.func48, Tryd.ntmps48
    go_upto_region 8 with fail
    generalize w.alloc (.cells #[.int .u8 160, .int .u8 191] 79) = w1 at *
    have a0 := blk_cell hacc 0
    have a1 := blk_cell hacc 1
    clear hacc p0 p1 g0 h0 h1
    go_region
    all_goals go_wp2
    all_goals try (go_region; all_goals go_wp2)
    all_goals go_ret
    all_goals exact ⟨rfl, by repeat (first | exact k0 | refine Keeps.drew ?_)⟩
  · -- 3
    rw [hX] at g0
    have p0 : w.cell? ⟨3, 0, none⟩ = some (.int .u8 128) := (hA 0 (by omega)).1
    have p1 : w.cell? ⟨3, 1, none⟩ = some (.int .u8 191) := (hA 0 (by omega)).2
    have k0 := (Keeps.refl [] w).alloc (.cells #[.int .u8 128, .int .u8 191] 79)
    have hacc := blk_new w (.cells #[.int .u8 128, .int .u8 191] 79)
    have e0 := k0.cell h0 (by simp)
    have e1 := k0.cell h1 (by simp)
    by_cases s1 : (y.toNat : Int) < 128
    · have s1n : y.toNat < 128 := by omega
      rw [show full [x, y] = true by simp [full, hX, Lib.accLo, Lib.accHi, s1n] <;> omega]
      clear hA hX
      go_enter Tryd.func48, Tryd.ntmps48
      go_upto_region 8 with fail
      generalize w.alloc (.cells #[.int .u8 128, .int .u8 191] 79) = w1 at *
      have a0 := blk_cell hacc 0
      have a1 := blk_cell hacc 1
      clear hacc p0 p1 g0 h0 h1
      go_region
      all_goals go_wp2
      all_goals try (go_region; all_goals go_wp2)
      all_goals go_ret
      all_goals exact ⟨rfl, by repeat (first | exact k0 | refine Keeps.drew ?_)⟩
    by_cases s2 : (191 : Int) < y.toNat
    · have s2n : 191 < y.toNat := by omega
      rw [show full [x, y] = true by simp [full, hX, Lib.accLo, Lib.accHi, s2n] <;> omega]
      clear hA hX
      go_enter Tryd.func48, Tryd.ntmps48
      go_upto_region 8 with fail
      generalize w.alloc (.cells #[.int .u8 128, .int .u8 191] 79) = w1 at *
      have a0 := blk_cell hacc 0
      have a1 := blk_cell hacc 1
      clear hacc p0 p1 g0 h0 h1
      go_region
      all_goals go_wp2
      all_goals try (go_region; all_goals go_wp2)
      all_goals go_ret
      all_goals exact ⟨rfl, by repeat (first | exact k0 | refine Keeps.drew ?_)⟩
    rw [show full [x, y] = false by simp [full, hX, Lib.accLo, Lib.accHi] <;> omega]
    clear hA hX
    go_enter Tryd.func48, Tryd.ntmps48
    go_upto_region 8 with fail
    generalize w.alloc (.cells #[.int .u8 128, .int .u8 191] 79) = w1 at *
    have a0 := blk_cell hacc 0
    have a1 := blk_cell hacc 1
    clear hacc p0 p1 g0 h0 h1
    go_region
    all_goals go_wp2
    all_goals try (go_region; all_goals go_wp2)
    all_goals go_ret
    all_goals exact ⟨rfl, by repeat (first | exact k0 | refine Keeps.drew ?_)⟩
  · -- 35
    rw [hX] at g0
    have p0 : w.cell? ⟨3, 4, none⟩ = some (.int .u8 128) := (hA 2 (by omega)).1
    have p1 : w.cell? ⟨3, 5, none⟩ = some (.int .u8 159) := (hA 2 (by omega)).2
    have k0 := (Keeps.refl [] w).alloc (.cells #[.int .u8 128, .int .u8 159] 79)
    have hacc := blk_new w (.cells #[.int .u8 128, .int .u8 159] 79)
    have e0 := k0.cell h0 (by simp)
    have e1 := k0.cell h1 (by simp)
    by_cases s1 : (y.toNat : Int) < 128
    · have s1n : y.toNat < 128 := by omega
      rw [show full [x, y] = true by simp [full, hX, Lib.accLo, Lib.accHi, s1n] <;> omega]
      clear hA hX
      go_enter Tryd.func48, Tryd.ntmps48
      go_upto_region 8 with fail
      generalize w.alloc (.cells #[.int .u8 128, .int .u8 159] 79) = w1 at *
      have a0 := blk_cell hacc 0
      have a1 := blk_cell hacc 1
      clear hacc p0 p1 g0 h0 h1
      go_region
      all_goals go_wp2
      all_goals try (go_region; all_goals go_wp2)
      all_goals go_ret
      all_goals exact ⟨rfl, by repeat (first | exact k0 | refine Keeps.drew ?_)⟩
    by_cases s2 : (159 : Int) < y.toNat
    · have s2n : 159 < y.toNat := by omega
      rw [show full [x, y] = true by simp [full, hX, Lib.accLo, Lib.accHi, s2n] <;> omega]
      clear hA hX
      go_enter Tryd.func48, Tryd.ntmps48
      go_upto_region 8 with fail
      generalize w.alloc (.cells #[.int .u8 128, .int .u8 159] 79) = w1 at *
      have a0 := blk_cell hacc 0
      have a1 := blk_cell hacc 1
      clear hacc p0 p1 g0 h0 h1
      go_region
      all_goals go_wp2
      all_goals try (go_region; all_goals go_wp2)
      all_goals go_ret
      all_goals exact ⟨rfl, by repeat (first | exact k0 | refine Keeps.drew ?_)⟩
    rw [show full [x, y] = false by simp [full, hX, Lib.accLo, Lib.accHi] <;> omega]
    clear hA hX
    go_enter Tryd.func48, Tryd.ntmps48
    go_upto_region 8 with fail
    generalize w.alloc (.cells #[.int .u8 128, .int .u8 159] 79) = w1 at *
    have a0 := blk_cell hacc 0
    have a1 := blk_cell hacc 1
    clear hacc p0 p1 g0 h0 h1
    go_region
    all_goals go_wp2
    all_goals try (go_region; all_goals go_wp2)
    all_goals go_ret
    all_goals exact ⟨rfl, by repeat (first | exact k0 | refine Keeps.drew ?_)⟩
  · -- 52
    rw [hX] at g0
    have p0 : w.cell? ⟨3, 6, none⟩ = some (.int .u8 144) := (hA 3 (by omega)).1
    have p1 : w.cell? ⟨3, 7, none⟩ = some (.int .u8 191) := (hA 3 (by omega)).2
    have k0 := (Keeps.refl [] w).alloc (.cells #[.int .u8 144, .int .u8 191] 79)
    have hacc := blk_new w (.cells #[.int .u8 144, .int .u8 191] 79)
    have e0 := k0.cell h0 (by simp)
    have e1 := k0.cell h1 (by simp)
    by_cases s1 : (y.toNat : Int) < 144
    · have s1n : y.toNat < 144 := by omega
      rw [show full [x, y] = true by simp [full, hX, Lib.accLo, Lib.accHi, s1n] <;> omega]
      clear hA hX
      go_enter Tryd.func48, Tryd.ntmps48
      go_upto_region 8 with fail
      generalize w.alloc (.cells #[.int .u8 144, .int .u8 191] 79) = w1 at *
      have a0 := blk_cell hacc 0
      have a1 := blk_cell hacc 1
      clear hacc p0 p1 g0 h0 h1
      go_region
      all_goals go_wp2
      all_goals try (go_region; all_goals go_wp2)
      all_goals go_ret
      all_goals exact ⟨rfl, by repeat (first | exact k0 | refine Keeps.drew ?_)⟩
    by_cases s2 : (191 : Int) < y.toNat
    · have s2n : 191 < y.toNat := by omega
      rw [show full [x, y] = true by simp [full, hX, Lib.accLo, Lib.accHi, s2n] <;> omega]
      clear hA hX
      go_enter Tryd.func48, Tryd.ntmps48
      go_upto_region 8 with fail
      generalize w.alloc (.cells #[.int .u8 144, .int .u8 191] 79) = w1 at *
      have a0 := blk_cell hacc 0
      have a1 := blk_cell hacc 1
      clear hacc p0 p1 g0 h0 h1
      go_region
      all_goals go_wp2
      all_goals try (go_region; all_goals go_wp2)
      all_goals go_ret
      all_goals exact ⟨rfl, by repeat (first | exact k0 | refine Keeps.drew ?_)⟩
    rw [show full [x, y] = false by simp [full, hX, Lib.accLo, Lib.accHi] <;> omega]
    clear hA hX
    go_enter Tryd.func48, Tryd.ntmps48
    go_upto_region 8 with fail
    generalize w.alloc (.cells #[.int .u8 144, .int .u8 191] 79) = w1 at *
    have a0 := blk_cell hacc 0
    have a1 := blk_cell hacc 1
    clear hacc p0 p1 g0 h0 h1
    go_region
    all_goals go_wp2
    all_goals try (go_region; all_goals go_wp2)
    all_goals go_ret
    all_goals exact ⟨rfl, by repeat (first | exact k0 | refine Keeps.drew ?_)⟩
  · -- 4
    rw [hX] at g0
    have p0 : w.cell? ⟨3, 0, none⟩ = some (.int .u8 128) := (hA 0 (by omega)).1
    have p1 : w.cell? ⟨3, 1, none⟩ = some (.int .u8 191) := (hA 0 (by omega)).2
    have k0 := (Keeps.refl [] w).alloc (.cells #[.int .u8 128, .int .u8 191] 79)
    have hacc := blk_new w (.cells #[.int .u8 128, .int .u8 191] 79)
    have e0 := k0.cell h0 (by simp)
    have e1 := k0.cell h1 (by simp)
    by_cases s1 : (y.toNat : Int) < 128
    · have s1n : y.toNat < 128 := by omega
      rw [show full [x, y] = true by simp [full, hX, Lib.accLo, Lib.accHi, s1n] <;> omega]
      clear hA hX
      go_enter Tryd.func48, Tryd.ntmps48
      go_upto_region 8 with fail
      generalize w.alloc (.cells #[.int .u8 128, .int .u8 191] 79) = w1 at *
      have a0 := blk_cell hacc 0
      have a1 := blk_cell hacc 1
      clear hacc p0 p1 g0 h0 h1
      go_region
      all_goals go_wp2
      all_goals try (go_region; all_goals go_wp2)
      all_goals go_ret
      all_goals exact ⟨rfl, by repeat (first | exact k0 | refine Keeps.drew ?_)⟩
    by_cases s2 : (191 : Int) < y.toNat
    · have s2n : 191 < y.toNat := by omega
      rw [show full [x, y] = true by simp [full, hX, Lib.accLo, Lib.accHi, s2n] <;> omega]
      clear hA hX
      go_enter Tryd.func48, Tryd.ntmps48
      go_upto_region 8 with fail
      generalize w.alloc (.cells #[.int .u8 128, .int .u8 191] 79) = w1 at *
      have a0 := blk_cell hacc 0
      have a1 := blk_cell hacc 1
      clear hacc p0 p1 g0 h0 h1
      go_region
      all_goals go_wp2
      all_goals try (go_region; all_goals go_wp2)
      all_goals go_ret
      all_goals exact ⟨rfl, by repeat (first | exact k0 | refine Keeps.drew ?_)⟩
    rw [show full [x, y] = false by simp [full, hX, Lib.accLo, Lib.accHi] <;> omega]
    clear hA hX
    go_enter Tryd.func48, Tryd.ntmps48
    go_upto_region 8 with fail
    generalize w.alloc (.cells #[.int .u8 128, .int .u8 191] 79) = w1 at *
    have a0 := blk_cell hacc 0
    have a1 := blk_cell hacc 1
    clear hacc p0 p1 g0 h0 h1
    go_region
    all_goals go_wp2
    all_goals try (go_region; all_goals go_wp2)
    all_goals go_ret
    all_goals exact ⟨rfl, by repeat (first | exact k0 | refine Keeps.drew ?_)⟩
  · -- 68
    rw [hX] at g0
    have p0 : w.cell? ⟨3, 8, none⟩ = some (.int .u8 128) := (hA 4 (by omega)).1
    have p1 : w.cell? ⟨3, 9, none⟩ = some (.int .u8 143) := (hA 4 (by omega)).2
    have k0 := (Keeps.refl [] w).alloc (.cells #[.int .u8 128, .int .u8 143] 79)
    have hacc := blk_new w (.cells #[.int .u8 128, .int .u8 143] 79)
    have e0 := k0.cell h0 (by simp)
    have e1 := k0.cell h1 (by simp)
    by_cases s1 : (y.toNat : Int) < 128
    · have s1n : y.toNat < 128 := by omega
      rw [show full [x, y] = true by simp [full, hX, Lib.accLo, Lib.accHi, s1n] <;> omega]
      clear hA hX
      go_enter Tryd.func48, Tryd.ntmps48
      go_upto_region 8 with fail
      generalize w.alloc (.cells #[.int .u8 128, .int .u8 143] 79) = w1 at *
      have a0 := blk_cell hacc 0
      have a1 := blk_cell hacc 1
      clear hacc p0 p1 g0 h0 h1
      go_region
      all_goals go_wp2
      all_goals try (go_region; all_goals go_wp2)
      all_goals go_ret
      all_goals exact ⟨rfl, by repeat (first | exact k0 | refine Keeps.drew ?_)⟩
    by_cases s2 : (143 : Int) < y.toNat
    · have s2n : 143 < y.toNat := by omega
      rw [show full [x, y] = true by simp [full, hX, Lib.accLo, Lib.accHi, s2n] <;> omega]
      clear hA hX
      go_enter Tryd.func48, Tryd.ntmps48
      go_upto_region 8 with fail
      generalize w.alloc (.cells #[.int .u8 128, .int .u8 143] 79) = w1 at *
      have a0 := blk_cell hacc 0
      have a1 := blk_cell hacc 1
      clear hacc p0 p1 g0 h0 h1
      go_region
      all_goals go_wp2
      all_goals try (go_region; all_goals go_wp2)
      all_goals go_ret
      all_goals exact ⟨rfl, by repeat (first | exact k0 | refine Keeps.drew ?_)⟩
    rw [show full [x, y] = false by simp [full, hX, Lib.accLo, Lib.accHi] <;> omega]
    clear hA hX
    go_enter Tryd.func48, Tryd.ntmps48
    go_upto_region 8 with fail
    generalize w.alloc (.cells #[.int .u8 128, .int .u8 143] 79) = w1 at *
    have a0 := blk_cell hacc 0
    have a1 := blk_cell hacc 1
    clear hacc p0 p1 g0 h0 h1
    go_region
    all_goals go_wp2
    all_goals try (go_region; all_goals go_wp2)
    all_goals go_ret
    all_goals exact ⟨rfl, by repeat (first | exact k0 | refine Keeps.drew ?_)⟩
set_option maxRecDepth 100000 in
set_option maxHeartbeats 4000000 in
theorem Full_3 (w : World) (hT : UTabs w) (b off c : Nat) (x y z : UInt8) (h0 : w.cell? ⟨b, off, none⟩ = some (.int .u8 x.toNat)) (h1 : w.cell? ⟨b, off + 1, none⟩ = some (.int .u8 y.toNat)) (h2 : w.cell? ⟨b, off + 2, none⟩ = some (.int .u8 z.toNat)) :
    Calls Tryd.prog 48 #[.slice (some ⟨b, off, none⟩) 3 c] w fun e w' => e = .returned (.bool (full [x, y, z])) ∧ Keeps [] w w' := by
  have ha : x.toNat < 256 := x.toBitVec.isLt
  have g0 := hT.1 x.toNat ha
  have hA := hT.2
  clear hT
  have hy : y.toNat < 256 := y.toBitVec.isLt
  have hz : z.toNat < 256 := z.toBitVec.isLt
  rcases Lib.firstT_cases x.toNat with hX | hX | hX | hX | hX | hX | hX | hX | hX
  · -- 240
    rw [hX] at g0
    rw [show full [x, y, z] = true by simp [full, hX]]
    clear hA hX
    go_enter Tryd.func48, Tryd.ntmps48
    go_wp2
    go_ret
    exact ⟨rfl, Keeps.refl _ _⟩
  · -- 241
    rw [hX] at g0
    rw [show full [x, y, z] = true by simp [full, hX]]
    clear hA hX
    go_enter Tryd.func48, Tryd.ntmps48
    go_wp2
    go_ret
    exact ⟨rfl, Keeps.refl _ _⟩
  · -- 2
    rw [hX] at g0
    rw [show full [x, y, z] = true by simp [full, hX]]
    clear hA hX
    go_enter Tryd.func48, Tryd.ntmps48
    go_wp2
    go_ret
    exact ⟨rfl, Keeps.refl _ _⟩
  · -- 19
    rw [hX] at g0
    rw [show full [x, y, z] = true by simp [full, hX]]
    clear hA hX
    go_enter Tryd.func48, Tryd.ntmps48
    go_wp2
    go_ret
    exact ⟨rfl, Keeps.refl _ _⟩
  · -- 3
    rw [hX] at g0
    rw [show full [x, y, z] = true by simp [full, hX]]
    clear hA hX
    go_enter Tryd.func48, Tryd.ntmps48
    go_wp2
    go_ret
    exact ⟨rfl, Keeps.refl _ _⟩
  · -- 35
    rw [hX] at g0
    rw [show full [x, y, z] = true by simp [full, hX]]
    clear hA hX
    go_enter Tryd.func48, Tryd.ntmps48
    go_wp2
    go_ret
    exact ⟨rfl, Keeps.refl _ _⟩
  · -- 52
    rw [hX] at g0
    have p0 : w.cell? ⟨3, 6, none⟩ = some (.int .u8 144) := (hA 3 (by omega)).1
    have p1 : w.cell? ⟨3, 7, none⟩ = some (.int .u8 191) := (hA 3 (by omega)).2
    have k0 := (Keeps.refl [] w).alloc (.cells #[.int .u8 144, .int .u8 191] 79)
    have hacc := blk_new w (.cells #[.int .u8 144, .int .u8 191] 79)
    have e0 := k0.cell h0 (by simp)
    have e1 := k0.cell h1 (by simp)
    have e2 := k0.cell h2 (by simp)
    by_cases s1 : (y.toNat : Int) < 144
    · have s1n : y.toNat < 144 := by omega
      rw [show full [x, y, z] = true by simp [full, hX, Lib.accLo, Lib.accHi, s1n] <;> omega]
      clear hA hX
      go_enter Tryd.func48, Tryd.ntmps48
      go_upto_region 8 with fail
      generalize w.alloc (.cells #[.int .u8 144, .int .u8 191] 79) = w1 at *
      have a0 := blk_cell hacc 0
      have a1 := blk_cell hacc 1
      clear hacc p0 p1 g0 h0 h1 h2
      go_region
      all_goals go_wp2
      all_goals try (go_region; all_goals go_wp2)
      all_goals go_ret
      all_goals exact ⟨rfl, by repeat (first | exact k0 | refine Keeps.drew ?_)⟩
    by_cases s2 : (191 : Int) < y.toNat
    · have s2n : 191 < y.toNat := by omega
      rw [show full [x, y, z] = true by simp [full, hX, Lib.accLo, Lib.accHi, s2n] <;> omega]
      clear hA hX
      go_enter Tryd.func48, Tryd.ntmps48
      go_upto_region 8 with fail
      generalize w.alloc (.cells #[.int .u8 144, .int .u8 191] 79) = w1 at *
      have a0 := blk_cell hacc 0
      have a1 := blk_cell hacc 1
      clear hacc p0 p1 g0 h0 h1 h2
      go_region
      all_goals go_wp2
      all_goals try (go_region; all_goals go_wp2)
      all_goals go_ret
      all_goals exact ⟨rfl, by repeat (first | exact k0 | refine Keeps.drew ?_)⟩
    by_cases s3 : (z.toNat : Int) < 128
    · have s3n : z.toNat < 128 := by omega
      rw [show full [x, y, z] = true by simp [full, hX, Lib.accLo, Lib.accHi, s3n] <;> omega]
      clear hA hX
      go_enter Tryd.func48, Tryd.ntmps48
      go_upto_region 8 with fail
      generalize w.alloc (.cells #[.int .u8 144, .int .u8 191] 79) = w1 at *
      have a0 := blk_cell hacc 0
      have a1 := blk_cell hacc 1
      clear hacc p0 p1 g0 h0 h1 h2
      go_region
      all_goals go_wp2
      all_goals try (go_region; all_goals go_wp2)
      all_goals go_ret
      all_goals exact ⟨rfl, by repeat (first | exact k0 | refine Keeps.drew ?_)⟩
    by_cases s4 : (191 : Int) < z.toNat
    · have s4n : 191 < z.toNat := by omega
      rw [show full [x, y, z] = true by simp [full, hX, Lib.accLo, Lib.accHi, s4n] <;> omega]
      clear hA hX
      go_enter Tryd.func48, Tryd.ntmps48
      go_upto_region 8 with fail
      generalize w.alloc (.cells #[.int .u8 144, .int .u8 191] 79) = w1 at *
      have a0 := blk_cell hacc 0
      have a1 := blk_cell hacc 1
      clear hacc p0 p1 g0 h0 h1 h2
      go_region
      all_goals go_wp2
      all_goals try (go_region; all_goals go_wp2)
      all_goals go_ret
      all_goals exact ⟨rfl, by repeat (first | exact k0 | refine Keeps.drew ?_)⟩
    rw [show full [x, y, z] = false by simp [full, hX, Lib.accLo, Lib.accHi] <;> omega]
    clear hA hX
    go_enter Tryd.func48, Tryd.ntmps48
    go_upto_region 8 with fail
    generalize w.alloc (.cells #[.int .u8 144, .int .u8 191] 79) = w1 at *
    have a0 := blk_cell hacc 0
    have a1 := blk_cell hacc 1
    clear hacc p0 p1 g0 h0 h1 h2
    go_region
    all_goals go_wp2
    all_goals try (go_region; all_goals go_wp2)
    all_goals go_ret
    all_goals exact ⟨rfl, by repeat (first | exact k0 | refine Keeps.drew ?_)⟩
  · -- 4
    rw [hX] at g0
    have p0 : w.cell? ⟨3, 0, none⟩ = some (.int .u8 128) := (hA 0 (by omega)).1
    have p1 : w.cell? ⟨3, 1, none⟩ = some (.int .u8 191) := (hA 0 (by omega)).2
    have k0 := (Keeps.refl [] w).alloc (.cells #[.int .u8 128, .int .u8 191] 79)
    have hacc := blk_new w (.cells #[.int .u8 128, .int .u8 191] 79)
    have e0 := k0.cell h0 (by simp)
    have e1 := k0.cell h1 (by simp)
    have e2 := k0.cell h2 (by simp)
    by_cases s1 : (y.toNat : Int) < 128
    · have s1n : y.toNat < 128 := by omega
      rw [show full [x, y, z] = true by simp [full, hX, Lib.accLo, Lib.accHi, s1n] <;> omega]
      clear hA hX
      go_enter Tryd.func48, Tryd.ntmps48
      go_upto_region 8 with fail
      generalize w.alloc (.cells #[.int .u8 128, .int .u8 191] 79) = w1 at *
      have a0 := blk_cell hacc 0
      have a1 := blk_cell hacc 1
      clear hacc p0 p1 g0 h0 h1 h2
      go_region
      all_goals go_wp2
      all_goals try (go_region; all_goals go_wp2)
      all_goals go_ret
      all_goals exact ⟨rfl, by repeat (first | exact k0 | refine Keeps.drew ?_)⟩
    by_cases s2 : (191 : Int) < y.toNat
    · have s2n : 191 < y.toNat := by omega
      rw [show full [x, y, z] = true by simp [full, hX, Lib.accLo, Lib.accHi, s2n] <;> omega]
      clear hA hX
      go_enter Tryd.func48, Tryd.ntmps48
      go_upto_region 8 with fail
      generalize w.alloc (.cells #[.int .u8 128, .int .u8 191] 79) = w1 at *
      have a0 := blk_cell hacc 0
      have a1 := blk_cell hacc 1
      clear hacc p0 p1 g0 h0 h1 h2
      go_region
      all_goals go_wp2
      all_goals try (go_region; all_goals go_wp2)
      all_goals go_ret
      all_goals exact ⟨rfl, by repeat (first | exact k0 | refine Keeps.drew ?_)⟩
    by_cases s3 : (z.toNat : Int) < 128
    · have s3n : z.toNat < 128 := by omega
      rw [show full [x, y, z] = true by simp [full, hX, Lib.accLo, Lib.accHi, s3n] <;> omega]
      clear hA hX
      go_enter Tryd.func48, Tryd.ntmps48
      go_upto_region 8 with fail
      generalize w.alloc (.cells #[.int .u8 128, .int .u8 191] 79) = w1 at *
      have a0 := blk_cell hacc 0
      have a1 := blk_cell hacc 1
      clear hacc p0 p1 g0 h0 h1 h2
      go_region
      all_goals go_wp2
      all_goals try (go_region; all_goals go_wp2)
      all_goals go_ret
      all_goals exact ⟨rfl, by repeat (first | exact k0 | refine Keeps.drew ?_)⟩
    by_cases s4 : (191 : Int) < z.toNat
    · have s4n : 191 < z.toNat := by omega
      rw [show full [x, y, z] = true by simp [full, hX, Lib.accLo, Lib.accHi, s4n] <;> omega]
      clear hA hX
      go_enter Tryd.func48, Tryd.ntmps48
      go_upto_region 8 with fail
      generalize w.alloc (.cells #[.int .u8 128, .int .u8 191] 79) = w1 at *
      have a0 := blk_cell hacc 0
      have a1 := blk_cell hacc 1
      clear hacc p0 p1 g0 h0 h1 h2
      go_region
      all_goals go_wp2
      all_goals try (go_region; all_goals go_wp2)
      all_goals go_ret
      all_goals exact ⟨rfl, by repeat (first | exact k0 | refine Keeps.drew ?_)⟩
    rw [show full [x, y, z] = false by simp [full, hX, Lib.accLo, Lib.accHi] <;> omega]
    clear hA hX
    go_enter Tryd.func48, Tryd.ntmps48
    go_upto_region 8 with fail
    generalize w.alloc (.cells #[.int .u8 128, .int .u8 191] 79) = w1 at *
    have a0 := blk_cell hacc 0
    have a1 := blk_cell hacc 1
    clear hacc p0 p1 g0 h0 h1 h2
    go_region
    all_goals go_wp2
    all_goals try (go_region; all_goals go_wp2)
    all_goals go_ret
    all_goals exact ⟨rfl, by repeat (first | exact k0 | refine Keeps.drew ?_)⟩
  · -- 68
    rw [hX] at g0
    have p0 : w.cell? ⟨3, 8, none⟩ = some (.int .u8 128) := (hA 4 (by omega)).1
    have p1 : w.cell? ⟨3, 9, none⟩ = some (.int .u8 143) := (hA 4 (by omega)).2
    have k0 := (Keeps.refl [] w).alloc (.cells #[.int .u8 128, .int .u8 143] 79)
    have hacc := blk_new w (.cells #[.int .u8 128, .int .u8 143] 79)
    have e0 := k0.cell h0 (by simp)
    have e1 := k0.cell h1 (by simp)
    have e2 := k0.cell h2 (by simp)
    by_cases s1 : (y.toNat : Int) < 128
    · have s1n : y.toNat < 128 := by omega
      rw [show full [x, y, z] = true by simp [full, hX, Lib.accLo, Lib.accHi, s1n] <;> omega]
      clear hA hX
      go_enter Tryd.func48, Tryd.ntmps48
      go_upto_region 8 with fail
      generalize w.alloc (.cells #[.int .u8 128, .int .u8 143] 79) = w1 at *
      have a0 := blk_cell hacc 0
      have a1 := blk_cell hacc 1
      clear hacc p0 p1 g0 h0 h1 h2
      go_region
      all_goals go_wp2
      all_goals try (go_region; all_goals go_wp2)
      all_goals go_ret
      all_goals exact ⟨rfl, by repeat (first | exact k0 | refine Keeps.drew ?_)⟩
    by_cases s2 : (143 : Int) < y.toNat
    · have s2n : 143 < y.toNat := by omega
      rw [show full [x, y, z] = true by simp [full, hX, Lib.accLo, Lib.accHi, s2n] <;> omega]
      clear hA hX
      go_enter Tryd.func48, Tryd.ntmps48
      go_upto_region 8 with fail
      generalize w.alloc (.cells #[.int .u8 128, .int .u8 143] 79) = w1 at *
      have a0 := blk_cell hacc 0
      have a1 := blk_cell hacc 1
      clear hacc p0 p1 g0 h0 h1 h2
      go_region
      all_goals go_wp2
      all_goals try (go_region; all_goals go_wp2)
      all_goals go_ret
      all_goals exact ⟨rfl, by repeat (first | exact k0 | refine Keeps.drew ?_)⟩
    by_cases s3 : (z.toNat : Int) < 128
    · have s3n : z.toNat < 128 := by omega
      rw [show full [x, y, z] = true by simp [full, hX, Lib.accLo, Lib.accHi, s3n] <;> omega]
      clear hA hX
      go_enter Tryd.func48, Tryd.ntmps48
      go_upto_region 8 with fail
      generalize w.alloc (.cells #[.int .u8 128, .int .u8 143] 79) = w1 at *
      have a0 := blk_cell hacc 0
      have a1 := blk_cell hacc 1
      clear hacc p0 p1 g0 h0 h1 h2
      go_region
      all_goals go_wp2
      all_goals try (go_region; all_goals go_wp2)
      all_goals go_ret
      all_goals exact ⟨rfl, by repeat (first | exact k0 | refine Keeps.drew ?_)⟩
    by_cases s4 : (191 : Int) < z.toNat
    · have s4n : 191 < z.toNat := by omega
      rw [show full [x, y, z] = true by simp [full, hX, Lib.accLo, Lib.accHi, s4n] <;> omega]
      clear hA hX
      go_enter Tryd.func48, Tryd.ntmps48
      go_upto_region 8 with fail
      generalize w.alloc (.cells #[.int .u8 128, .int .u8 143] 79) = w1 at *
      have a0 := blk_cell hacc 0
      have a1 := blk_cell hacc 1
      clear hacc p0 p1 g0 h0 h1 h2
      go_region
      all_goals go_wp2
      all_goals try (go_region; all_goals go_wp2)
      all_goals go_ret
      all_goals exact ⟨rfl, by repeat (first | exact k0 | refine Keeps.drew ?_)⟩
    rw [show full [x, y, z] = false by simp [full, hX, Lib.accLo, Lib.accHi] <;> omega]
    clear hA hX
    go_enter Tryd.func48, Tryd.ntmps48
    go_upto_region 8 with fail
    generalize w.alloc (.cells #[.int .u8 128, .int .u8 143] 79) = w1 at *
    have a0 := blk_cell hacc 0
    have a1 := blk_cell hacc 1
    clear hacc p0 p1 g0 h0 h1 h2
    go_region
    all_goals go_wp2
    all_goals try (go_region; all_goals go_wp2)
    all_goals go_ret
    all_goals exact ⟨rfl, by repeat (first | exact k0 | refine Keeps.drew ?_)⟩
end Go.Proofs.YtobogbjpdagklaaDoor.Dec
