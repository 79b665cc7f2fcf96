/- lanyardref01: value, Form. -/
import Derived.Test.YtobogbjpdagklaaDoorRefHead
import Derived.Test.YtobogbjpdagklaaDoorRefKinds
import Derived.Test.YtobogbjpdagklaaDoorUBytes
import Derived.Laws.BitsAllLaws
namespace Go.Proofs.YtobogbjpdagklaaDoor.Dec
open Go Go.RowKit Go.Proofs.YtobogbjpdagklaaDoor.Rw Go.Proofs.YtobogbjpdagklaaDoor.Kinds

theorem ret_i32 {a b : Int} (h : a = b) : Ending.returned (.int .i32 a) = .returned (.int .i32 b) := by rw [h]
set_option maxRecDepth 100000 in
theorem Value_calls (w : World) (A : Option Addr) (n c : Nat) (l : List UInt8) (hs : Src w A (bs l)) (hn : 0 < n) (hn4 : n ≤ 4) (hnl : n ≤ l.length) :
    Calls Tryd.prog 51 #[.slice A n c] w fun e w' => e = .returned (.int .i32 ((valueN n (byteN l 0) (byteN l 1) (byteN l 2) (byteN l 3) : Nat) : Int)) ∧ Keeps [] w w' := by
  obtain ⟨b, off, rfl⟩ : ∃ b off, A = some ⟨b, off, none⟩ := by
    cases l with
    | nil => simp at hnl; omega
    | cons x l => exact src_head (xs := bs l) (x := .int .u8 x.toNat) hs
  have hcell : ∀ k, k < l.length → w.cell? ⟨b, off + k, none⟩ = some (.int .u8 (byteN l k : Nat)) := fun k hk => src_cell hs k _ (bs_at l k hk)
  have h0 := hcell 0 (by omega)
  rw [Nat.add_zero] at h0
  have g0 := byteN_lt l 0
  have g1 := byteN_lt l 1
  have g2 := byteN_lt l 2
  have g3 := byteN_lt l 3
  have hcase : n = 1 ∨ n = 2 ∨ n = 3 ∨ n = 4 := by omega
  rcases hcase with rfl | rfl | rfl | rfl
  · clear hcell hs
    generalize byteN l 0 = x0 at *
    go_enter Tryd.func51, Tryd.ntmps51
    go_wp2
    go_ret
    exact ⟨ret_i32 (by simp [valueN]), Keeps.refl _ _⟩
  · have h1 := hcell 1 (by omega)
    clear hcell hs
    generalize byteN l 0 = x0 at *
    generalize byteN l 1 = x1 at *
    go_enter Tryd.func51, Tryd.ntmps51
    go_wp2
    go_quiet (fail)
    go_wp2
    go_ret
    exact ⟨ret_i32 (by simp [valueN]), (Keeps.refl _ _).drewN _⟩
  · have h1 := hcell 1 (by omega)
    have h2 := hcell 2 (by omega)
    clear hcell hs
    generalize byteN l 0 = x0 at *
    generalize byteN l 1 = x1 at *
    generalize byteN l 2 = x2 at *
    go_enter Tryd.func51, Tryd.ntmps51
    go_wp2
    go_quiet (fail)
    go_wp2
    go_ret
    exact ⟨ret_i32 (by simp [valueN]), (Keeps.refl _ _).drewN _⟩
  · have h1 := hcell 1 (by omega)
    have h2 := hcell 2 (by omega)
    have h3 := hcell 3 (by omega)
    clear hcell hs
    generalize byteN l 0 = x0 at *
    generalize byteN l 1 = x1 at *
    generalize byteN l 2 = x2 at *
    generalize byteN l 3 = x3 at *
    go_enter Tryd.func51, Tryd.ntmps51
    go_wp2
    go_quiet (fail)
    go_wp2
    go_ret
    exact ⟨ret_i32 (by simp [valueN]), (Keeps.refl _ _).drewN _⟩

theorem ofInt_i32 (a : Nat) (ha : a < 2147483648) : (BitVec.ofInt 32 (a : Int)).toNat = a := by
  rw [BitVec.ofInt_natCast, BitVec.toNat_ofNat]; exact Nat.mod_eq_of_lt (by omega)
theorem and63 (z : Int) (h0 : 0 ≤ z) (h1 : z < 2147483648) : bits .and .i32 z 63 = z % 64 := by
  obtain ⟨a, rfl⟩ := Int.eq_ofNat_of_zero_le h0
  have ha : a < 2147483648 := by omega
  have hx : a &&& 63 = a % 64 := Nat.and_two_pow_sub_one_eq_mod a 6
  show IntKind.i32.wrap ((BitVec.ofInt 32 (a : Int) &&& BitVec.ofInt 32 ((63 : Nat) : Int)).toNat : Int) = _
  rw [BitVec.toNat_and, ofInt_i32 a ha, ofInt_i32 63 (by decide), hx]
  simp only [IntKind.wrap, IntKind.bits, IntKind.signed]
  simp
  omega
theorem or128 (y : Int) (h0 : 0 ≤ y) (h1 : y < 64) : bits .or .u8 128 y = 128 + y := by
  rw [u8_or 128 y (by decide) (by decide) h0 (by omega)]
  obtain ⟨a, rfl⟩ := Int.eq_ofNat_of_zero_le h0
  have := nat_join 7 128 a (by decide) (by omega)
  simp only [Int.toNat_natCast]
  show ((128 ||| a : Nat) : Int) = _
  rw [this]; omega
/-- A new row of bytes. -/
def MadeB (w w' : World) (e : Ending) (l : List UInt8) : Prop := ∃ A c, e = .returned (.slice A l.length c) ∧ Row w' 5 1 (.slice A l.length c) l.length (bs l) ∧ Keeps [] w w' ∧ ∀ k, k ∈ fp (.slice A l.length c) → w.heap.size ≤ k
theorem made_new (w : World) (r : Int) (cur : Array Value) (n : Nat) (hl : (Lib.encodeRune r).length = n) (hn0 : 0 < n) (hc : cur.toList = Lib.runeCells r) :
    MadeB w (w.alloc (.cells cur 5)) (.returned (.slice (some ⟨w.heap.size, 0, none⟩) n n)) (Lib.encodeRune r) := by
  subst hl
  have h4 := enc_len r
  have hs : cur.size = (Lib.encodeRune r).length * 1 := by
    rw [← Array.length_toList, hc, Nat.mul_one]; simp [Lib.runeCells, Lib.encodeRune]
  refine ⟨_, _, rfl, ?_, (Keeps.refl _ _).alloc _, fun k hk => ?_⟩
  · rw [bs_enc, ← hc]
    exact Row.new w _ 1 cur _ hn0 (by unfold maxLen; omega) hs
  · rw [fp_some hn0] at hk
    simp at hk; omega
set_option maxRecDepth 100000 in
theorem Form_calls (w : World) (r : Int) (hr0 : -2147483648 ≤ r) (hr1 : r ≤ 2147483647) :
    Calls Tryd.prog 44 #[.int .i32 r] w fun e w' => MadeB w w' e (Lib.encodeRune r) := by
  have hV := RfRune_calls w r hr0 hr1
  cases hv : valid r with
  | false =>
    rw [hv] at hV
    rw [enc_bad r hv]
    clear hv
    go_enter Tryd.func44, Tryd.ntmps44
    go_wp2_with (go_at_call 18; refine hV.mono ?_; rintro e w' ⟨rfl, rfl⟩)
    go_ret
    exact made_new w 65533 _ 3 (by decide) (by decide) (by rfl)
  | true =>
    have hr : (0 ≤ r ∧ r < 55296) ∨ (57343 < r ∧ r ≤ 1114111) := by simpa [valid] using hv
    rw [hv] at hV
    clear hv
    by_cases c1 : r < 128
    · have el := Lib.encodeRuneZ_one (r := r) (by omega) (by omega)
      have El := Lib.hid el
      clear el
      go_enter Tryd.func44, Tryd.ntmps44
      go_wp2_with (go_at_call 18; refine hV.mono ?_; rintro e w' ⟨rfl, rfl⟩)
      go_ret
      exact made_new w r _ 1 (by unfold Lib.encodeRune; rw [El.out]; rfl) (by decide) (by unfold Lib.runeCells; rw [El.out]; simp)
    by_cases c2 : r < 2048
    · have el := Lib.encodeRuneZ_two (r := r) (by omega) (by omega)
      have El := Lib.hid el
      clear el
      go_enter Tryd.func44, Tryd.ntmps44
      go_wp2_with (go_at_call 18; refine hV.mono ?_; rintro e w' ⟨rfl, rfl⟩)
      go_ret
      refine made_new w r _ 2 (by unfold Lib.encodeRune; rw [El.out]; rfl) (by decide) ?_
      unfold Lib.runeCells; rw [El.out]
      rw [and63 r (by omega) (by omega), or128 _ (by omega) (by omega)]
      simp; omega
    by_cases c3 : r < 65536
    · have el := Lib.encodeRuneZ_three (r := r) (by omega)
      have El := Lib.hid el
      clear el
      go_enter Tryd.func44, Tryd.ntmps44
      go_wp2_with (go_at_call 18; refine hV.mono ?_; rintro e w' ⟨rfl, rfl⟩)
      go_ret
      refine made_new w r _ 3 (by unfold Lib.encodeRune; rw [El.out]; rfl) (by decide) ?_
      unfold Lib.runeCells; rw [El.out]
      rw [and63 r (by omega) (by omega), and63 (r / 64) (by omega) (by omega), or128 _ (by omega) (by omega), or128 _ (by omega) (by omega)]
      simp; omega
    · have el := Lib.encodeRuneZ_four (r := r) (by omega) (by omega)
      have El := Lib.hid el
      clear el
      go_enter Tryd.func44, Tryd.ntmps44
      go_wp2_with (go_at_call 18; refine hV.mono ?_; rintro e w' ⟨rfl, rfl⟩)
      go_ret
      refine made_new w r _ 4 (by unfold Lib.encodeRune; rw [El.out]; rfl) (by decide) ?_
      unfold Lib.runeCells; rw [El.out]
      rw [and63 r (by omega) (by omega), and63 (r / 64) (by omega) (by omega), and63 (r / 4096) (by omega) (by omega), or128 _ (by omega) (by omega), or128 _ (by omega) (by omega), or128 _ (by omega) (by omega)]
      simp; omega
end Go.Proofs.YtobogbjpdagklaaDoor.Dec
