/- lanyardref07: Apply, Line, SameLine, SameEdit; lanyardlaw07.is. -/
import Derived.Test.YtmnmdpgckefefaaDoorRef2
namespace Go.Proofs.YtmnmdpgckefefaaDoor.Buf
open Go Go.RowKit Go.Proofs.YtmnmdpgckefefaaDoor.Rw Go.Proofs.YtmnmdpgckefefaaDoor.SlR Go.Proofs.YtmnmdpgckefefaaDoor.Words Go.Proofs.YtmnmdpgckefefaaDoor.OpArg

theorem RAt.cell0 {w : World} {r : Nat} {F : List Nat} {s : BS} (h : RAt w r F s) : ∃ L c, w.cell? ⟨r, 0, none⟩ = some (.slice L s.l.length c) ∧ w.cell? ⟨r, 1, none⟩ = some (.int .i64 s.point) ∧ w.cell? ⟨r, 2, none⟩ = some (.int .i64 s.mark) ∧ s.l.length ≤ c ∧ c ≤ maxLen ∧ Src w L (ns .i32 s.l) := by
  obtain ⟨lv, hb, _⟩ := h
  obtain ⟨L, c, rfl, h1, h2, h3, _⟩ := hb.row.src
  obtain ⟨c0, c1, c2, _⟩ := three hb.blk
  exact ⟨L, c, c0, c1, c2, h1, h2, h3⟩
theorem turnedR_of {w w0 w' : World} {b : Nat} {F : List Nat} {s' : BS} {code : Int} {e : Ending} (hk : Keeps [] w w0) (h : TurnedR w0 b F s' code e w') : TurnedR w b F s' code e w' := by
  obtain ⟨h1, h2, F', h3, h4⟩ := h
  exact ⟨h1, (hk.mono (fun _ h => by simp at h)).trans h2, F', fun k hk' => (h3 k hk').elim .inl (fun h => .inr (Nat.le_trans hk.size h)), h4⟩

set_option maxRecDepth 100000 in
theorem RfLine_calls (w : World) (r : Nat) (F : List Nat) (s : BS) (h : RAt w r F s) : Calls Tryd.prog 56 #[.pointer (some ⟨r, 0, none⟩)] w (Lined w s) := by
  have hk0 := (Keeps.refl [] w).alloc (.cells #[.slice none 0 0, .int .i64 0, .int .i64 0] 46)
  have hr0 := blk_new w (.cells #[.slice none 0 0, .int .i64 0, .int .i64 0] 46)
  have hz : w.heap.size + 1 ≤ (w.alloc (.cells #[.slice none 0 0, .int .i64 0, .int .i64 0] 46)).heap.size := by simp
  have h0 := h.keeps hk0 (by simp)
  have hsh := h.bounds.1
  have hrl : r < w.heap.size := by
    obtain ⟨lv, hb, hF⟩ := h
    exact blk_lt hb.blk
  have hrn : r ≠ w.heap.size := by omega
  have hrn2 : w.heap.size ≠ r := by omega
  obtain ⟨L, c, c0, c1, c2, h1, h2, h3⟩ := h0.cell0
  go_enter Tryd.func56, Tryd.ntmps56
  go_wp2_with fail
  generalize w.alloc (.cells #[.slice none 0 0, .int .i64 0, .int .i64 0] 46) = w0 at *
  obtain ⟨r0, r1, r2, s0, s1, s2⟩ := three hr0
  have hkd := (Keeps.refl [] w0).drew
  go_region_held3 (fun w' => w'.cell? ⟨r, 0, none⟩ = some (.slice L s.l.length c) ∧ w'.cell? ⟨r, 1, none⟩ = some (.int .i64 s.point) ∧ w'.cell? ⟨r, 2, none⟩ = some (.int .i64 s.mark)) (first | exact ⟨c0, c1, c2⟩ | exact ⟨hk1.cell c0 (by simp), hk1.cell c1 (by simp), hk1.cell c2 (by simp)⟩ | (refine ⟨?_, ?_, ?_⟩ <;> go_simp)) (first
    | (refine step_append_row rfl _ _ 22 rfl el (.slice none 0 0) 0 [] rfl (Row.nil _ _ _ _) L s.l.length c (ns .i32 s.l) rfl (by rw [ns_length, Nat.mul_one]) (h3.keeps hkd (by simp)) (ns_one _ _) (by unfold maxLen; omega) (by omega) ?_
       intro A1 d1 w1 hrow1 hk1' hf1
       rw [fp_zero] at hk1' hf1
       rw [List.nil_append] at hrow1
       simp only [Nat.zero_add] at hrow1 hf1
       have hk1 := hkd.trans hk1'
       have u0 := hk1.cell c0 (by simp)
       have u1 := hk1.cell c1 (by simp)
       have u2 := hk1.cell c2 (by simp)
       obtain ⟨v0, v1, v2, x0, x1, x2⟩ := three (hk1.blk hr0 (by simp))))
  go_wp2
  refine bodyPost_ret (v := .agg #[.slice A1 s.l.length d1, .int .i64 s.point, .int .i64 s.mark]) (by simp [results, Tryd.results56, go_sem, v0, v1, v2]) rfl ?_
  have hW : ∀ (u v x : Value), Keeps [w.heap.size] w1 (((w1.setCell ⟨w.heap.size, 0, none⟩ u).setCell ⟨w.heap.size, 1, none⟩ v).setCell ⟨w.heap.size, 2, none⟩ x) := fun u v x =>
    (((Keeps.refl _ w1).setCell _ _ (.inl (by simp))).setCell _ _ (.inl (by simp))).setCell _ _ (.inl (by simp))
  have hf1' : ∀ k, k ∈ fp (.slice A1 s.l.length d1) → w0.heap.size ≤ k := fun k hk => (hf1 k hk).elim (fun h => by cases h) id
  exact ⟨A1, d1, rfl, hrow1.keeps (hW _ _ _) (fun k hk => by have := hf1' k hk; simp; omega), (hk0.trans hk1).then (hW _ _ _) (fun k hk => .inr (by simp at hk; omega)), fun k hk => by have := hf1' k hk; omega⟩

theorem SameLine_true (w : World) (A B : Option Addr) (c d : Nat) (xs : List Int) (p m : Int) (hA : Src w A (ns .i32 xs)) (hB : Src w B (ns .i32 xs)) (hx : xs.length ≤ 1024) :
    Calls Tryd.prog 44 #[.agg #[.slice A xs.length c, .int .i64 p, .int .i64 m], .agg #[.slice B xs.length d, .int .i64 p, .int .i64 m]] w fun e w' => e = .returned (.bool true) ∧ Keeps [] w w' := by
  have hk0 := ((Keeps.refl [] w).alloc (.cells #[.slice A xs.length c, .int .i64 p, .int .i64 m] 46)).alloc (.cells #[.slice B xs.length d, .int .i64 p, .int .i64 m] 46)
  have hq0 := blk_alloc (blk_new w (.cells #[.slice A xs.length c, .int .i64 p, .int .i64 m] 46)) (.cells #[.slice B xs.length d, .int .i64 p, .int .i64 m] 46)
  have hr0 := blk_new (w.alloc (.cells #[.slice A xs.length c, .int .i64 p, .int .i64 m] 46)) (.cells #[.slice B xs.length d, .int .i64 p, .int .i64 m] 46)
  rw [show (w.alloc (.cells #[.slice A xs.length c, .int .i64 p, .int .i64 m] 46)).heap.size = w.heap.size + 1 by simp] at hr0
  have hA0 := hA.keeps hk0 (by simp)
  have hB0 := hB.keeps hk0 (by simp)
  go_enter Tryd.func44, Tryd.ntmps44
  go_wp2_with fail
  generalize (w.alloc (.cells #[.slice A xs.length c, .int .i64 p, .int .i64 m] 46)).alloc (.cells #[.slice B xs.length d, .int .i64 p, .int .i64 m] 46) = w0 at *
  refine (Same_calls w0 A B xs.length xs.length c d xs xs hA0 hB0 rfl rfl (by unfold maxLen; omega) (by unfold maxLen; omega)).mono ?_
  rintro e w1 ⟨rfl, hk1⟩
  obtain ⟨q0, q1, q2, _⟩ := three (hk1.blk hq0 (by simp))
  obtain ⟨r0, r1, r2, _⟩ := three (hk1.blk hr0 (by simp))
  have hk2 := hk0.trans hk1
  simp only [decide_true]
  go_wp2
  go_ret
  exact ⟨by simp, hk2⟩
theorem SameEdit_true (w : World) (A B C D : Option Addr) (c d c' d' : Nat) (xs ys : List Int) (a : Int) (hA : Src w A (ns .i32 xs)) (hB : Src w B (ns .i32 ys)) (hC : Src w C (ns .i32 xs)) (hD : Src w D (ns .i32 ys)) (hx : xs.length ≤ 70368744177664) (hy : ys.length ≤ 70368744177664) :
    Calls Tryd.prog 26 #[.agg #[.int .i64 a, .slice A xs.length c, .slice B ys.length d], .agg #[.int .i64 a, .slice C xs.length c', .slice D ys.length d']] w fun e w' => e = .returned (.bool true) ∧ Keeps [] w w' := by
  have hk0 := ((Keeps.refl [] w).alloc (.cells #[.int .i64 a, .slice A xs.length c, .slice B ys.length d] 24)).alloc (.cells #[.int .i64 a, .slice C xs.length c', .slice D ys.length d'] 24)
  have hq0 := blk_alloc (blk_new w (.cells #[.int .i64 a, .slice A xs.length c, .slice B ys.length d] 24)) (.cells #[.int .i64 a, .slice C xs.length c', .slice D ys.length d'] 24)
  have hr0 := blk_new (w.alloc (.cells #[.int .i64 a, .slice A xs.length c, .slice B ys.length d] 24)) (.cells #[.int .i64 a, .slice C xs.length c', .slice D ys.length d'] 24)
  rw [show (w.alloc (.cells #[.int .i64 a, .slice A xs.length c, .slice B ys.length d] 24)).heap.size = w.heap.size + 1 by simp] at hr0
  have hA0 := hA.keeps hk0 (by simp)
  have hB0 := hB.keeps hk0 (by simp)
  have hC0 := hC.keeps hk0 (by simp)
  have hD0 := hD.keeps hk0 (by simp)
  go_enter Tryd.func26, Tryd.ntmps26
  go_wp2_with fail
  generalize (w.alloc (.cells #[.int .i64 a, .slice A xs.length c, .slice B ys.length d] 24)).alloc (.cells #[.int .i64 a, .slice C xs.length c', .slice D ys.length d'] 24) = w0 at *
  refine (Same_calls w0 A C xs.length xs.length c c' xs xs hA0 hC0 rfl rfl (by unfold maxLen; omega) (by unfold maxLen; omega)).mono ?_
  rintro e w1 ⟨rfl, hk1⟩
  obtain ⟨q0, q1, q2, _⟩ := three (hk1.blk hq0 (by simp))
  obtain ⟨r0, r1, r2, _⟩ := three (hk1.blk hr0 (by simp))
  have hk2 := hk0.trans hk1
  simp only [decide_true]
  go_wp2_with fail
  refine (Same_calls w1 B D ys.length ys.length d d' ys ys (hB0.keeps hk1 (by simp)) (hD0.keeps hk1 (by simp)) rfl rfl (by unfold maxLen; omega) (by unfold maxLen; omega)).mono ?_
  rintro e w2 ⟨rfl, hk3⟩
  have hk4 := hk2.trans hk3
  simp only [decide_true]
  go_wp2
  go_ret
  exact ⟨by simp, hk4⟩
end Go.Proofs.YtmnmdpgckefefaaDoor.Buf
