/- buffer.Buffer: what its methods come to, over a buffer's state (runes, point, mark), in whatever memory. -/
import Derived.Test.YtmnmdpgckefefaaDoorSlR
import Derived.StillTailTactics
import Derived.RegionTactic
import Derived.Deep.RegionLaw
import Derived.Deep.QuietTactic
import Derived.BigQuiet
namespace Go.Proofs.YtmnmdpgckefefaaDoor.Buf
open Go Go.RowKit Go.Proofs.YtmnmdpgckefefaaDoor.Rw Go.Proofs.YtmnmdpgckefefaaDoor.SlR

structure BS where
  l : List Int
  point : Int
  mark : Int

/-- A buffer in memory: the row of its gap and runes. -/
structure BIn (w : World) (b : Nat) (lv : Value) (N fr ub : Nat) (xs : List Value) (s : BS) : Prop where
  blk : w.heap[b]? = some (.cells #[.bool true, lv, .int .i64 fr, .int .i64 ub, .int .i64 s.point, .int .i64 s.mark] 67 (0, 0))
  row : Row w 21 1 lv N xs
  fr_to : fr ≤ ub
  to_N : ub ≤ N
  text : xs.take fr ++ xs.drop ub = ns .i32 s.l
  small : N ≤ 4096
  short : s.l.length ≤ 1024
  pt0 : 0 ≤ s.point
  pt1 : s.point ≤ s.l.length
  mk0 : -1 ≤ s.mark
  mk1 : s.mark ≤ s.l.length
  one : ∀ u ∈ xs, u.oneCell' = true

section
variable {w w' : World} {b : Nat} {lv : Value} {N fr ub : Nat} {xs : List Value} {s : BS}
theorem BIn.b_r (h : BIn w b lv N fr ub xs s) : b ∉ fp lv := fun hk => by
  obtain ⟨cur, hc⟩ := h.row.fp_type b hk
  exact blk_ne h.blk hc (by decide) rfl
theorem BIn.len (h : BIn w b lv N fr ub xs s) : s.l.length + (ub - fr) = N := by
  have h1 := congrArg List.length h.text
  have h2 := h.row.len
  have h3 := h.fr_to
  have h4 := h.to_N
  rw [Nat.mul_one] at h2
  simp only [List.length_append, List.length_take, List.length_drop, ns_length] at h1
  omega
theorem BIn.six (h : BIn w b lv N fr ub xs s) :
    w.cell? ⟨b, 0, none⟩ = some (.bool true) ∧ w.cell? ⟨b, 1, none⟩ = some lv ∧ w.cell? ⟨b, 2, none⟩ = some (.int .i64 fr) ∧ w.cell? ⟨b, 3, none⟩ = some (.int .i64 ub) ∧ w.cell? ⟨b, 4, none⟩ = some (.int .i64 s.point) ∧ w.cell? ⟨b, 5, none⟩ = some (.int .i64 s.mark) ∧
    w.frozen? ⟨b, 1, none⟩ = false ∧ w.frozen? ⟨b, 2, none⟩ = false ∧ w.frozen? ⟨b, 3, none⟩ = false ∧ w.frozen? ⟨b, 4, none⟩ = false ∧ w.frozen? ⟨b, 5, none⟩ = false :=
  ⟨blk_cell h.blk 0, blk_cell h.blk 1, blk_cell h.blk 2, blk_cell h.blk 3, blk_cell h.blk 4, blk_cell h.blk 5, blk_frozen h.blk 1, blk_frozen h.blk 2, blk_frozen h.blk 3, blk_frozen h.blk 4, blk_frozen h.blk 5⟩
end
def BAt (w : World) (b : Nat) (F : List Nat) (s : BS) : Prop := ∃ lv N fr ub xs, BIn w b lv N fr ub xs s ∧ F = b :: fp lv

theorem BIn.pieces {w : World} {b : Nat} {lv : Value} {N fr ub : Nat} {xs : List Value} {s : BS} (h : BIn w b lv N fr ub xs s) : (∀ u ∈ xs.take fr, u.oneCell' = true) ∧ (∀ u ∈ xs.drop ub, u.oneCell' = true) ∧ (xs.take fr).length = fr ∧ (xs.drop ub).length = N - ub ∧ [xs.take fr, xs.drop ub].flatten = ns .i32 s.l := by
  have hl := h.row.len
  have h1 := h.fr_to
  have h2 := h.to_N
  rw [Nat.mul_one] at hl
  refine ⟨fun u hu => ?_, fun u hu => ?_, by rw [List.length_take]; omega, by rw [List.length_drop, hl], by simpa using h.text⟩
  · exact ns_one .i32 s.l u (by rw [← h.text]; exact List.mem_append_left _ hu)
  · exact ns_one .i32 s.l u (by rw [← h.text]; exact List.mem_append_right _ hu)
theorem six {w : World} {b : Nat} {x0 x1 x2 x3 x4 x5 : Value} {t : TypeId} (h : w.heap[b]? = some (.cells #[x0, x1, x2, x3, x4, x5] t (0, 0))) :
    w.cell? ⟨b, 0, none⟩ = some x0 ∧ w.cell? ⟨b, 1, none⟩ = some x1 ∧ w.cell? ⟨b, 2, none⟩ = some x2 ∧ w.cell? ⟨b, 3, none⟩ = some x3 ∧ w.cell? ⟨b, 4, none⟩ = some x4 ∧ w.cell? ⟨b, 5, none⟩ = some x5 ∧
    w.frozen? ⟨b, 1, none⟩ = false ∧ w.frozen? ⟨b, 2, none⟩ = false ∧ w.frozen? ⟨b, 3, none⟩ = false ∧ w.frozen? ⟨b, 4, none⟩ = false ∧ w.frozen? ⟨b, 5, none⟩ = false :=
  ⟨blk_cell h 0, blk_cell h 1, blk_cell h 2, blk_cell h 3, blk_cell h 4, blk_cell h 5, blk_frozen h 1, blk_frozen h 2, blk_frozen h 3, blk_frozen h 4, blk_frozen h 5⟩
theorem BNone_calls (w : World) (b : Nat) (x : Bool) (h : w.cell? ⟨b, 0, none⟩ = some (.bool x)) :
    Calls Tryd.prog 51 #[.pointer (some ⟨b, 0, none⟩)] w fun e w' => e = .returned (.bool !x) ∧ w = w' := by
  go_enter Tryd.func51, Tryd.ntmps51
  go_wp2
  go_ret
  exact ⟨rfl, rfl⟩

theorem BLen_calls (w : World) (b : Nat) (F : List Nat) (s : BS) (h : BAt w b F s) :
    Calls Tryd.prog 45 #[.pointer (some ⟨b, 0, none⟩)] w fun e w' => e = .returned (.int .i64 s.l.length) ∧ Keeps [] w w' := by
  obtain ⟨lv, N, fr, ub, xs, h, rfl⟩ := h
  obtain ⟨c0, c1, c2, c3, c4, c5, _⟩ := h.six
  obtain ⟨A, c, rfl, h1, h2⟩ := h.row.slice
  have hl := h.len
  have hft := h.fr_to
  have htN := h.to_N
  have hsm := h.small
  have hk := (Keeps.refl [] w).drew
  have He : Hid ((N : Int) - ((ub : Int) - (fr : Int)) = (s.l.length : Int)) := by show _ = _; omega
  clear hl
  go_enter Tryd.func45, Tryd.ntmps45
  go_wp2_with (go_at_call 51; refine (BNone_calls _ _ true c0).mono ?_; rintro e w' ⟨rfl, rfl⟩)
  go_region
  all_goals go_wp2
  all_goals go_ret
  all_goals exact ⟨by rw [← He.out]; rfl, hk⟩

set_option maxRecDepth 100000 in
theorem BText_calls (w : World) (b : Nat) (F : List Nat) (s : BS) (h : BAt w b F s) :
    Calls Tryd.prog 15 #[.pointer (some ⟨b, 0, none⟩)] w fun e w' => ∃ A c, e = .returned (.slice A s.l.length c) ∧ Made w w' (.slice A s.l.length c) s.l.length (ns .i32 s.l) := by
  obtain ⟨lv, N, fr, ub, xs, h, rfl⟩ := h
  obtain ⟨c0, c1, c2, c3, c4, c5, _⟩ := h.six
  obtain ⟨A, c, rfl, h1, h2⟩ := h.row.slice
  have hft := h.fr_to
  have htN := h.to_N
  have hsm := h.small
  have hfN : fr ≤ N := by omega
  have hfc : fr ≤ c := by omega
  have htc : ub ≤ c := by omega
  unfold maxLen at h2
  go_enter Tryd.func15, Tryd.ntmps15
  go_wp2_with (go_at_call 51; refine (BNone_calls _ _ true c0).mono ?_; rintro e w' ⟨rfl, rfl⟩)
  go_still_tail 18, (by kernel_rfl)
  change wpList _ _ _ _ _ w.drew
  obtain ⟨o1, o2, l1, l2, hfl⟩ := h.pieces
  obtain ⟨_, _, hv, _, _, hsrc, _⟩ := h.row.src
  cases hv
  have Hl1 := Lib.hid l1; clear l1
  have Hl2 := Lib.hid l2; clear l2
  have Hfl := Lib.hid hfl; clear hfl
  have hshort := h.short
  have Hln : Hid ([xs.take fr, xs.drop ub].flatten.length = s.l.length) := by show _ = _; rw [Hfl.out, ns_length]
  go_wp2_with fail
  · refine (Concat_calls _ (some ⟨w.heap.size, 0, none⟩) 2 2 _ [xs.take fr, xs.drop ub] (Src.new w.drew _ _) (Pieces.two ((hsrc.take fr).keeps (((Keeps.refl [] w).drew).alloc _) (by simp)) (Src.of_nil (by rw [Hl2.out]; omega)) o1 o2 Hl1.out Hl2.out) rfl (by rw [Hln.out]; omega) (by omega)).mono ?_
    rintro e w' ⟨A', c', rfl, hmade⟩
    rw [Hln.out, Hfl.out] at hmade
    rw [Hln.out]
    go_wp2
    go_ret
    exact ⟨A', c', rfl, hmade.1, (((Keeps.refl [] w).drew).alloc _).trans hmade.2.1, fun k hk => by have := hmade.2.2 k hk; simp at this; omega⟩
  · refine (Concat_calls _ (some ⟨w.heap.size, 0, none⟩) 2 2 _ [xs.take fr, xs.drop ub] (Src.new w.drew _ _) (Pieces.two ((hsrc.take fr).keeps (((Keeps.refl [] w).drew).alloc _) (by simp)) ((hsrc.drop ub).keeps (((Keeps.refl [] w).drew).alloc _) (by simp)) o1 o2 Hl1.out Hl2.out) rfl (by rw [Hln.out]; omega) (by omega)).mono ?_
    rintro e w' ⟨A', c', rfl, hmade⟩
    rw [Hln.out, Hfl.out] at hmade
    rw [Hln.out]
    go_wp2
    go_ret
    exact ⟨A', c', rfl, hmade.1, (((Keeps.refl [] w).drew).alloc _).trans hmade.2.1, fun k hk => by have := hmade.2.2 k hk; simp at this; omega⟩

/-- What the gap's two copies come to. -/
theorem open_cells (T Z : List Value) (a t n : Nat) (hZ : Z.length = n) (hT : t + (T.length - a) = n) (ha : a ≤ T.length) (hat : a ≤ t) :
    let X := Z.take 0 ++ ((T.take a).take n ++ Z.drop (0 + ((T.take a).take n).length))
    let Y := X.take t ++ ((T.drop a).take (n - t) ++ X.drop (t + ((T.drop a).take (n - t)).length))
    Y.take a ++ Y.drop t = T := by
  intro X Y
  have e1 : (T.take a).take n = T.take a := List.take_of_length_le (by simp; omega)
  have e2 : (T.drop a).take (n - t) = T.drop a := List.take_of_length_le (by simp; omega)
  have hX : X = T.take a ++ Z.drop a := by
    simp only [X, e1, List.take_zero, List.nil_append, Nat.zero_add, List.length_take]
    rw [show min a T.length = a by omega]
  have hY : Y = X.take t ++ (T.drop a ++ X.drop n) := by
    simp only [Y, e2, List.length_drop]
    rw [show t + (T.length - a) = n by omega]
  have hXl : X.length = n := by rw [hX]; simp [hZ]; omega
  have hXd : X.drop n = [] := List.drop_eq_nil_of_le (by omega)
  rw [hY, hXd, List.append_nil]
  have h1 : (X.take t).length = t := by rw [List.length_take]; omega
  rw [List.take_append_of_le_length (by omega), List.take_take, show min a t = a by omega, List.drop_append_of_le_length (by omega), List.drop_of_length_le (by omega), List.nil_append]
  rw [hX, List.take_append_of_le_length (by simp; omega), List.take_of_length_le (by simp; omega), List.take_append_drop]

theorem open_one (T Z : List Value) (a t n : Nat) (hT : ∀ u ∈ T, u.oneCell' = true) (hZ : ∀ u ∈ Z, u.oneCell' = true) :
    let X := Z.take 0 ++ ((T.take a).take n ++ Z.drop (0 + ((T.take a).take n).length))
    ∀ u ∈ X.take t ++ ((T.drop a).take (n - t) ++ X.drop (t + ((T.drop a).take (n - t)).length)), u.oneCell' = true := by
  intro X u hu
  have hX : ∀ u ∈ X, u.oneCell' = true := fun u hu => by
    rcases List.mem_append.1 hu with h | h
    · simp at h
    · rcases List.mem_append.1 h with h | h
      · exact hT u (List.mem_of_mem_take (List.mem_of_mem_take h))
      · exact hZ u (List.mem_of_mem_drop h)
  rcases List.mem_append.1 hu with h | h
  · exact hX u (List.mem_of_mem_take h)
  · rcases List.mem_append.1 h with h | h
    · exact hT u (List.mem_of_mem_drop (List.mem_of_mem_take h))
    · exact hX u (List.mem_of_mem_drop h)
def Opened (w : World) (b N' at_ tN : Nat) (s : BS) (e : Ending) (w' : World) : Prop := e = .returned (.tuple #[]) ∧ ∃ lv' xs', BIn w' b lv' N' at_ tN xs' s ∧ Keeps [b] w w' ∧ (∀ k, k ∈ fp lv' → w.heap.size ≤ k)
set_option maxRecDepth 100000 in
theorem BOpen_calls (w : World) (b : Nat) (lv : Value) (N fr ub : Nat) (xs : List Value) (s : BS) (h : BIn w b lv N fr ub xs s) (at_ room N' tN : Nat) (ha : at_ ≤ s.l.length) (hr : room ≤ 1024) (hNv : N' = s.l.length + room + 16) (htv : tN = room + 16 + at_) :
    Calls Tryd.prog 52 #[.pointer (some ⟨b, 0, none⟩), .int .i64 at_, .int .i64 room] w (Opened w b N' at_ tN s) := by
  have hshort := h.short
  have hb := h.blk
  have hN' : (s.l.length : Int) + (room : Int) + 16 = (N' : Int) := by omega
  have htN' : (N' : Int) - ((s.l.length : Int) - (at_ : Int)) = (tN : Int) := by omega
  have HNv := Lib.hid hNv
  have Htv := Lib.hid htv
  have b1 : at_ ≤ tN := by omega
  have b2 : tN ≤ N' := by omega
  have b3 : N' ≤ 4096 := by omega
  have b4 : at_ ≤ N' := by omega
  have b5 : 0 < N' := by omega
  have b6 : tN + (s.l.length - at_) = N' := by omega
  have B6 := Lib.hid b6
  clear hNv htv b6
  go_enter Tryd.func52, Tryd.ntmps52
  go_wp2_with fail
  refine (BText_calls w b _ s ⟨lv, N, fr, ub, xs, h, rfl⟩).mono ?_
  rintro e w1 ⟨T, tc, rfl, hrowT, hk1, hfT⟩
  have hb1 := hk1.blk hb (by simp)
  obtain ⟨d0, d1, d2, d3, d4, d5, g1, g2, g3, g4, g5⟩ := six hb1
  have atc : at_ ≤ tc := by obtain ⟨_, _, hv, h1, _⟩ := hrowT.slice; cases hv; omega
  have hbn : b ≠ w1.heap.size := by have := blk_lt hb1; omega
  have hbN : b ∉ fp (.slice (some ⟨w1.heap.size, 0, none⟩) N' N') := by rw [fp_some b5]; simpa using hbn
  go_wp2_with (at_make; refine wpList_make_row rfl _ _ 22 rfl el rfl _ _ N' rfl rfl (by omega) (by unfold maxLen; omega) ?_; intro w2 hrow2 hk2 hz2; have hb2 := hk2.blk hb1 (by simp); obtain ⟨d0, d1, d2, d3, d4, d5, g1, g2, g3, g4, g5⟩ := six hb2)
  have hb3 : ((((w2.setCell ⟨b, 1, none⟩ (.slice (some ⟨w1.heap.size, 0, none⟩) N' N')).setCell ⟨b, 2, none⟩ (.int .i64 at_)).setCell ⟨b, 3, none⟩ (.int .i64 tN))).heap[b]? = some (.cells #[.bool true, .slice (some ⟨w1.heap.size, 0, none⟩) N' N', .int .i64 at_, .int .i64 tN, .int .i64 s.point, .int .i64 s.mark] 67 (0, 0)) :=
    blk_set (blk_set (blk_set hb2 1 (.slice (some ⟨w1.heap.size, 0, none⟩) N' N')) 2 (.int .i64 at_)) 3 (.int .i64 tN)
  have hrow3 := (((hrow2.far ⟨b, 1, none⟩ (.slice (some ⟨w1.heap.size, 0, none⟩) N' N') hbN).far ⟨b, 2, none⟩ (.int .i64 at_) hbN).far ⟨b, 3, none⟩ (.int .i64 tN) hbN)
  have hk13 : Keeps [b] w1 (((w2.setCell ⟨b, 1, none⟩ (.slice (some ⟨w1.heap.size, 0, none⟩) N' N')).setCell ⟨b, 2, none⟩ (.int .i64 at_)).setCell ⟨b, 3, none⟩ (.int .i64 tN)) :=
    ((((hk2.mono (fun _ hk => by simp at hk)).setCell _ _ (.inl (by simp))).setCell _ _ (.inl (by simp))).setCell _ _ (.inl (by simp)))
  generalize (((w2.setCell ⟨b, 1, none⟩ (.slice (some ⟨w1.heap.size, 0, none⟩) N' N')).setCell ⟨b, 2, none⟩ (.int .i64 at_)).setCell ⟨b, 3, none⟩ (.int .i64 tN)) = w3 at *
  clear d0 d1 d2 d3 d4 d5 g1 g2 g3 g4 g5 hrow2
  obtain ⟨d0, d1, d2, d3, d4, d5, g1, g2, g3, g4, g5⟩ := six hb3
  have hbT : b ∉ fp (.slice T s.l.length tc) := fun hx => by have := hfT b hx; have := blk_lt hb; omega
  have hrowT3 : Row w3 21 1 (.slice T s.l.length tc) s.l.length (ns .i32 s.l) := hrowT.keeps hk13 (fun i hi hx => by simp at hx; subst hx; exact hbT hi)
  obtain ⟨_, _, hvT, _, _, hsT, hfT'⟩ := hrowT3.src
  cases hvT
  have hTn : ∀ k, k ∈ fp (.slice T s.l.length tc) → k < w1.heap.size := hrowT.fp_lt
  go_region_law (refine step_copy_row rfl _ _ 22 22 rfl el (some ⟨w1.heap.size, 0, none⟩) N' N' _ hrow3.drew (some ⟨w1.heap.size, 0, none⟩) N' N' 0 rfl (fun _ => ⟨by omega, _, 0, rfl, rfl⟩) T at_ tc ((ns .i32 s.l).take at_) rfl (by rw [List.length_take, ns_length]; omega) ((hsT.take at_).drew) (fun u hu => ns_one .i32 s.l u (List.mem_of_mem_take hu)) ?_; intro w4 hrow4 hk4 hz4)
  have hb4 : w4.heap[b]? = some (.cells #[.bool true, .slice (some ⟨w1.heap.size, 0, none⟩) N' N', .int .i64 at_, .int .i64 tN, .int .i64 s.point, .int .i64 s.mark] 67 (0, 0)) := hk4.blk (show w3.drew.heap[b]? = _ from hb3) hbN
  have hk14 : Keeps [b] w1 w4 := hk13.drew.then hk4 (fun i hi => by rw [fp_some b5] at hi; simp at hi; exact .inr (by omega))
  have hsT4 : Src w4 T (ns .i32 s.l) := by
    refine hsT.drew.keeps hk4 (fun a ha h0 hf => ?_)
    rw [fp_some b5] at hf; simp at hf
    have := hTn _ (hfT' a ha h0); omega
  clear d0 d1 d2 d3 d4 d5 g1 g2 g3 g4 g5 hsT hrow3 hrowT3 hb3 hk13 hk4
  obtain ⟨d0, d1, d2, d3, d4, d5, g1, g2, g3, g4, g5⟩ := six hb4
  have hzl : (List.replicate N' (Value.int .i32 0)).length = N' := by simp
  have hz1 : ∀ u ∈ List.replicate N' (Value.int .i32 0), u.oneCell' = true := fun u hu => by rw [List.eq_of_mem_replicate hu]; rfl
  generalize List.replicate N' (Value.int .i32 0) = Z at *
  have hlT : (ns .i32 s.l).length = s.l.length := ns_length _ _
  have hfin : ∀ w5 : World, w5.heap[b]? = some (.cells #[.bool true, .slice (some ⟨w1.heap.size, 0, none⟩) N' N', .int .i64 at_, .int .i64 tN, .int .i64 s.point, .int .i64 s.mark] 67 (0, 0)) → Keeps (fp (.slice (some ⟨w1.heap.size, 0, none⟩) N' N')) w4 w5 →
      Row w5 21 1 (.slice (some ⟨w1.heap.size, 0, none⟩) N' N') N' (let X := Z.take 0 ++ (((ns .i32 s.l).take at_).take N' ++ Z.drop (0 + (((ns .i32 s.l).take at_).take N').length)); X.take tN ++ (((ns .i32 s.l).drop at_).take (N' - tN) ++ X.drop (tN + (((ns .i32 s.l).drop at_).take (N' - tN)).length))) →
      ∃ lv' xs', BIn w5 b lv' N' at_ tN xs' s ∧ Keeps [b] w w5 ∧ (∀ k, k ∈ fp lv' → w.heap.size ≤ k) := by
    intro w5 hb5 hk5 hrow5
    refine ⟨_, _, ⟨hb5, hrow5, b1, b2, open_cells (ns .i32 s.l) Z at_ tN N' hzl (by rw [hlT]; exact B6.out) (by rw [hlT]; exact ha) b1, b3, h.short, h.pt0, h.pt1, h.mk0, h.mk1, open_one _ _ _ _ _ (ns_one _ _) hz1⟩, ?_, ?_⟩
    · refine ((hk1.mono (fun _ hk => by simp at hk)).trans (hk14.mono (fun _ hk => .inl hk))).then hk5 (fun i hi => ?_)
      rw [fp_some b5] at hi; simp at hi; have := hk1.size; exact .inr (by omega)
    · intro k hk
      rw [fp_some b5] at hk; simp at hk; have := hk1.size; omega
  have Hfin := Lib.hid hfin; clear hfin
  clear hlT hzl hz1
  have HB := Lib.hid (show s.l.length - at_ = N' - tN by have := B6.out; omega)
  have hlc : (ns .i32 s.l).length ≤ tc := by obtain ⟨_, _, hv, h1, _⟩ := hrowT.slice; cases hv; rw [ns_length]; exact h1
  have hS := Lib.hid (hsT4.cut tc at_ hlc); clear hlc
  go_wp2_with fail
  go_region_law (refine step_copy_row rfl _ _ 22 22 rfl el (some ⟨w1.heap.size, 0, none⟩) N' N' _ hrow4.drew (if N' = tN then some ⟨w1.heap.size, 0, none⟩ else some ⟨w1.heap.size, tN, none⟩) (N' - tN) (N' - tN) tN rfl (fun _ => ⟨by omega, _, 0, rfl, by rw [if_neg (by omega), Nat.zero_add]⟩) (if tc = at_ then T else Option.map (fun x => x.add at_) T) (s.l.length - at_) (tc - at_) ((ns .i32 s.l).drop at_) rfl (by rw [List.length_drop, ns_length]) hS.out.drew (fun u hu => ns_one .i32 s.l u (List.mem_of_mem_drop hu)) ?_; intro w5 hrow5 hk5 hz5)
  all_goals have hb5 := hk5.blk (show w4.drew.heap[b]? = _ from hb4) hbN
  all_goals have hall := Lib.hid (Hfin.out w5 hb5 ⟨hk5.os, hk5.tape, hk5.output, hk5.size, hk5.block⟩ hrow5)
  all_goals go_wp2
  all_goals go_end0
  all_goals first | exact ⟨rfl, hall.out⟩ | (have e : N' = tN := by assumption
                                             rw [e] at hall
                                             exact ⟨rfl, hall.out⟩)
end Go.Proofs.YtmnmdpgckefefaaDoor.Buf
