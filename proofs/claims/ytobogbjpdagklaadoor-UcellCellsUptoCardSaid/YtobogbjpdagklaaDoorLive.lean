/- ucell.Cells at one control; lanyardlaw01.live. -/
import Derived.Test.YtobogbjpdagklaaDoorCell1
namespace Go.Proofs.YtobogbjpdagklaaDoor.Dec
open Go Go.RowKit Go.Proofs.YtobogbjpdagklaaDoor.Rw Go.Proofs.YtobogbjpdagklaaDoor.Kinds

set_option maxRecDepth 100000 in
set_option maxHeartbeats 1000000 in
theorem Cells_one (w : World) (g c : Nat) (hc : w.cell? ⟨g, 0, none⟩ = some (.int .i32 1)) :
    Calls Tryd.prog 12 #[.slice (some ⟨g, 0, none⟩) 1 c, .int .i64 0] w fun e w' => ∃ A d, e = .returned (.slice A 2 d) ∧ Keeps [] w w' := by
  have k0 := (Keeps.refl [] w).alloc (.cells #[.slice none 0 0] 23)
  have h0 := blk_new w (.cells #[.slice none 0 0] 23)
  have hent := Go.Proofs.enters_of Tryd.func40 (by kernel_rfl) rfl
  go_enter Tryd.func12, Tryd.ntmps12
  go_wp2_with fail
  generalize w.alloc (.cells #[.slice none 0 0] 23) = w1 at *
  go_loopw [14] (fun i wr => ∃ k : Nat, k ≤ 1 ∧ i = .int .i64 k ∧ Keeps [] w wr ∧ (k = 0 → wr = w1) ∧ (k = 1 → ∃ A d, wr.cell? ⟨w.heap.size, 0, none⟩ = some (.slice A 2 d))) (fun i _ => 1 - (intOf i).toNat)
  case atStart => exact ⟨0, by omega, rfl, k0, fun _ => rfl, fun h => by cases h⟩
  case round =>
    obtain ⟨k, hk, rfl, hkr, hz, ho⟩ := hrel
    by_cases hlt : k < 1
    · obtain rfl : k = 0 := by omega
      obtain rfl := hz rfl
      have hc1 := k0.cell hc (by simp)
      have o0 := blk_cell h0 0
      clear hz ho
      go_wp2_with fail
      have hO : OutAt (wr.alloc (.cells #[.string ⟨#[94]⟩, .string (Utf8.encode (bits BinOp.xor IntKind.i32 1 64))] 9)) w.heap.size [] [w.heap.size] :=
        ⟨.slice none 0 0, blk_alloc h0 _, Row.nil _ _ _ _, rfl⟩
      refine (One_calls _ w.heap.size [] [w.heap.size] hO (some ⟨wr.heap.size, 0, none⟩) 2 [⟨#[94]⟩, Utf8.encode (bits BinOp.xor IntKind.i32 1 64)] (Src.new wr _ _) (fun a ha _ => by cases ha; have := k0.size; have h9 := blk_lt h0; simp; omega) (by simp)).mono ?_
      rintro e w4 ⟨rfl, hk4, F', ⟨v, hv, hrow, _⟩, _⟩
      obtain ⟨A, d, rfl, _, _⟩ := hrow.slice
      have o4 := blk_cell hv 0
      have hk5 : Keeps [] w w4 := (k0.alloc (.cells #[.string ⟨#[94]⟩, .string (Utf8.encode (bits BinOp.xor IntKind.i32 1 64))] 9)).then hk4 (fun i hi => .inr (by simp at hi; omega))
      clear hrow hv
      go_wp2
      go_roundw
      case rel => exact ⟨1, by omega, by go_num, hk5, (fun h => by cases h), fun _ => ⟨A, d, o4⟩⟩
      case measure => simp [intOf]
    · obtain rfl : k = 1 := by omega
      obtain ⟨A, d, ho⟩ := ho rfl
      go_wp2
      go_ret
      exact ⟨⟨A, d, rfl⟩, hkr⟩

theorem live_runes : runesOf [97, 195, 169, 255] = [97, 233, 65533] := by decide
theorem live_width : width 19968 = 2 := by decide
theorem live_drain : drain ([] ++ [195]) = ([], [195]) := by decide
set_option maxRecDepth 100000 in
set_option maxHeartbeats 1000000 in
theorem live01_calls (w : World) (hU : UTabs w) (hT : Tabs w) : Calls Tryd.prog 13 #[] w fun e w' => e = .returned (.bool true) ∧ Keeps [] w w' := by
  have HU := Lib.hid hU; clear hU
  have HT := Lib.hid hT; clear hT
  go_enter Tryd.func13, Tryd.ntmps13
  go_wp2_with fail
  have k0 := (Keeps.refl [] w).alloc (.cells #[.int .u8 97, .int .u8 195, .int .u8 169, .int .u8 255] 5)
  refine (Runes_calls _ (UTabs_keeps HU.out k0) (some ⟨w.heap.size, 0, none⟩) 4 [97, 195, 169, 255] (Src.new w _ _) (by decide) (by decide) (by decide)).mono ?_
  rw [live_runes]
  rintro e w1 ⟨A, c, rfl, hrow, hk1, _⟩
  have k1 := k0.trans hk1
  go_wp2_with fail
  refine (DNew_calls w1).mono ?_
  rintro e w2 ⟨rfl, hk2, hD⟩
  obtain ⟨b, hb⟩ : ∃ b, b = w1.heap.size := ⟨_, rfl⟩
  rw [← hb] at hD ⊢
  have Hb := Lib.hid hb; clear hb
  have k2 := k1.trans hk2
  have hrow2 := hrow.keeps hk2 (fun _ _ => by simp)
  clear hrow
  go_wp2_with fail
  have k3 := k2.alloc (.cells #[.int .i32 97, .int .i32 233, .int .i32 65533] 21)
  have hD3 := hD.keeps ((Keeps.refl [] w2).alloc (.cells #[.int .i32 97, .int .i32 233, .int .i32 65533] 21)) (by simp)
  obtain ⟨As, cs, hse, _, _, hsr, _⟩ := (hrow2.keeps ((Keeps.refl [] w2).alloc (.cells #[.int .i32 97, .int .i32 233, .int .i32 65533] 21)) (fun _ _ => by simp)).src
  cases hse
  refine (Equal_calls _ A (some ⟨w2.heap.size, 0, none⟩) 3 3 c 3 [97, 233, 65533] [97, 233, 65533] hsr (Src.new w2 _ _) rfl rfl (by unfold maxLen; omega) (by unfold maxLen; omega)).mono ?_
  rintro e w3 ⟨he, hk3⟩
  obtain rfl : e = .returned (.bool true) := by rw [he]; rfl
  clear he hsr hrow2 hD
  have k4 := k3.trans hk3
  have hD4 := hD3.keeps hk3 (by simp)
  clear hD3
  go_wp2_with fail
  refine (Width_calls w3 (HT.out.keeps k4) 19968 (by omega) (by omega)).mono ?_
  rw [live_width]
  rintro e w4 ⟨rfl, hk4⟩
  have k5 := k4.trans hk4
  have hD5 := hD4.keeps hk4 (by simp)
  clear hD4
  go_wp2_with fail
  have k6 := k5.alloc (.cells #[.int .i32 1] 21)
  have hD6 := hD5.keeps ((Keeps.refl [] w4).alloc (.cells #[.int .i32 1] 21)) (by simp)
  refine (Cells_one _ w4.heap.size 1 (blk_cell (blk_new w4 (.cells #[.int .i32 1] 21)) 0)).mono ?_
  rintro e w5 ⟨A5, d5, rfl, hk5⟩
  have k7 := k6.trans hk5
  have hD7 := hD6.keeps hk5 (by simp)
  clear hD5 hD6
  go_wp2_with fail
  have k8 := k7.alloc (.cells #[.int .u8 195] 5)
  have hD8 := hD7.keeps ((Keeps.refl [] w5).alloc (.cells #[.int .u8 195] 5)) (by simp)
  have hlt := UTabs_lt (UTabs_keeps HU.out k1)
  refine (DPut_calls _ (UTabs_keeps HU.out k8) b [b] [] [195] (some ⟨w5.heap.size, 0, none⟩) 1 hD8 (by have := Hb.out; simp; omega) (by have := Hb.out; simp; omega) (Src.new w5 _ _) (by decide)).mono ?_
  rw [live_drain]
  rintro e w6 ⟨A6, c6, F6, rfl, _, hk6, hD9, _, _⟩
  have hz := k1.size
  have k9 : Keeps [] w w6 := k8.then hk6 (fun i hi => .inr (by have := Hb.out; simp at hi; omega))
  clear hD7 hD8
  go_wp2_with fail
  refine (DPending_calls w6 b F6 [195] hD9).mono ?_
  rintro e w7 ⟨rfl, rfl⟩
  go_wp2_with fail
  go_ret
  exact ⟨rfl, k9⟩
end Go.Proofs.YtobogbjpdagklaaDoor.Dec
