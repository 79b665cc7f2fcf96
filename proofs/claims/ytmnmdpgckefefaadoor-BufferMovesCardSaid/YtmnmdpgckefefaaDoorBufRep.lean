/- buffer.Buffer.Replace: what it comes to. -/
import Derived.Test.YtmnmdpgckefefaaDoorBuf
import Derived.Deep.DeepCutAuto
import Derived.Deep.CutBlock
namespace Go.Proofs.YtmnmdpgckefefaaDoor.Buf
open Go Go.RowKit Go.Proofs.YtmnmdpgckefefaaDoor.Rw Go.Proofs.YtmnmdpgckefefaaDoor.SlR

section
variable {w w' : World} {b : Nat} {lv : Value} {N fr ub : Nat} {xs : List Value} {s : BS} {F : List Nat}
theorem BIn.stays (h : BIn w b lv N fr ub xs s) (hk : ∀ k, k ∈ b :: fp lv → w'.heap[k]? = w.heap[k]?) : BIn w' b lv N fr ub xs s :=
  ⟨(hk b (by simp)).trans h.blk, h.row.stays fun k hm => hk k (by simp [hm]), h.fr_to, h.to_N, h.text, h.small, h.short, h.pt0, h.pt1, h.mk0, h.mk1, h.one⟩
theorem BAt.lt (h : BAt w b F s) : ∀ k, k ∈ F → k < w.heap.size := by
  obtain ⟨lv, N, fr, ub, xs, h, rfl⟩ := h
  intro k hk
  rcases List.mem_cons.1 hk with rfl | hk
  · exact blk_lt h.blk
  · exact h.row.fp_lt k hk
theorem BAt.stays (h : BAt w b F s) (hk : ∀ k, k ∈ F → w'.heap[k]? = w.heap[k]?) : BAt w' b F s := by
  obtain ⟨lv, N, fr, ub, xs, h, rfl⟩ := h
  exact ⟨lv, N, fr, ub, xs, h.stays hk, rfl⟩
theorem BAt.keeps {G : List Nat} (h : BAt w b F s) (k : Keeps G w w') (hd : ∀ i, i ∈ F → i ∉ G) : BAt w' b F s :=
  h.stays fun i hi => k.block i (h.lt i hi) (hd i hi)
end

/-- An answer of Replace that refuses: nothing is turned. -/
def Refused (w : World) (code : Int) (e : Ending) (w' : World) : Prop :=
  e = .returned (.tuple #[.agg #[.int .i64 0, .slice none 0 0, .slice none 0 0], .int .i64 code]) ∧ Keeps [] w w'

theorem three {w : World} {b : Nat} {x0 x1 x2 : Value} {t : TypeId} (h : w.heap[b]? = some (.cells #[x0, x1, x2] t (0, 0))) :
    w.cell? ⟨b, 0, none⟩ = some x0 ∧ w.cell? ⟨b, 1, none⟩ = some x1 ∧ w.cell? ⟨b, 2, none⟩ = some x2 ∧ w.frozen? ⟨b, 0, none⟩ = false ∧ w.frozen? ⟨b, 1, none⟩ = false ∧ w.frozen? ⟨b, 2, none⟩ = false :=
  ⟨blk_cell h 0, blk_cell h 1, blk_cell h 2, blk_frozen h 0, blk_frozen h 1, blk_frozen h 2⟩

set_option maxRecDepth 100000 in
theorem BReplace_place (w : World) (b : Nat) (F : List Nat) (s : BS) (f t : Int) (A : Option Addr) (n c : Nat) (h : BAt w b F s) (hf1 : -9223372036854775808 ≤ f) (hf2 : f ≤ 9223372036854775807) (_ht1 : -9223372036854775808 ≤ t) (_ht2 : t ≤ 9223372036854775807)
    (hbad : f < 0 ∨ (s.l.length : Int) < f ∨ t < f ∨ (s.l.length : Int) < t) :
    Calls Tryd.prog 13 #[.pointer (some ⟨b, 0, none⟩), .int .i64 f, .int .i64 t, .slice A n c] w (Refused w 70) := by
  have hk0 := (Keeps.refl [] w).alloc (.cells #[.int .i64 0, .slice none 0 0, .slice none 0 0] 24)
  go_enter Tryd.func13, Tryd.ntmps13
  go_wp2_with fail
  refine (BLen_calls _ b F s (h.keeps hk0 (by simp))).mono ?_
  rintro e w1 ⟨rfl, hk1⟩
  have hr1 := hk1.blk (blk_new w (.cells #[.int .i64 0, .slice none 0 0, .slice none 0 0] 24)) (by simp)
  obtain ⟨e0, e1, e2, g0, g1, g2⟩ := three hr1
  have hb1 := (h.keeps hk0 (by simp)).keeps hk1 (by simp)
  have hkw := hk0.trans hk1
  have hrn : w.heap.size ≤ w.heap.size := Nat.le_refl _
  obtain ⟨lv, N, fr, ub, xs, hb, rfl⟩ := hb1
  obtain ⟨c0, _⟩ := hb.six
  clear hr1 hk1 hk0 h
  go_wp2_with fail
  refine (BNone_calls _ b true c0).mono ?_
  rintro e w2 ⟨rfl, rfl⟩
  clear c0
  go_wp2
  all_goals refine bodyPost_ret (v := .tuple #[.agg #[.int .i64 0, .slice none 0 0, .slice none 0 0], .int .i64 70]) (by simp [results, Tryd.results13, go_sem, e0, e1, e2]) rfl ⟨rfl, ?_⟩
  all_goals repeat (first | exact hkw | refine Keeps.setCell ?_ _ _ (.inr hrn) | refine Keeps.drew ?_)

set_option maxRecDepth 100000 in
theorem BReplace_long (w : World) (b : Nat) (F : List Nat) (s : BS) (f t : Nat) (A : Option Addr) (n c : Nat) (h : BAt w b F s) (hft : f ≤ t) (htl : t ≤ s.l.length) (hlong : 1024 < s.l.length - (t - f) + n) (hn : n ≤ 9223372036854775807) :
    Calls Tryd.prog 13 #[.pointer (some ⟨b, 0, none⟩), .int .i64 f, .int .i64 t, .slice A n c] w (Refused w 3) := by
  have hk0 := (Keeps.refl [] w).alloc (.cells #[.int .i64 0, .slice none 0 0, .slice none 0 0] 24)
  have hshort : s.l.length ≤ 1024 := by obtain ⟨lv, N, fr, ub, xs, hb, _⟩ := h; exact hb.short
  go_enter Tryd.func13, Tryd.ntmps13
  go_wp2_with fail
  refine (BLen_calls _ b F s (h.keeps hk0 (by simp))).mono ?_
  rintro e w1 ⟨rfl, hk1⟩
  have hr1 := hk1.blk (blk_new w (.cells #[.int .i64 0, .slice none 0 0, .slice none 0 0] 24)) (by simp)
  obtain ⟨e0, e1, e2, g0, g1, g2⟩ := three hr1
  have hb1 := (h.keeps hk0 (by simp)).keeps hk1 (by simp)
  have hkw := hk0.trans hk1
  have hrn : w.heap.size ≤ w.heap.size := Nat.le_refl _
  obtain ⟨lv, N, fr, ub, xs, hb, rfl⟩ := hb1
  obtain ⟨c0, _⟩ := hb.six
  clear hr1 hk1 hk0 h
  go_wp2_with fail
  refine (BNone_calls _ b true c0).mono ?_
  rintro e w2 ⟨rfl, rfl⟩
  clear c0
  go_wp2
  all_goals refine bodyPost_ret (v := .tuple #[.agg #[.int .i64 0, .slice none 0 0, .slice none 0 0], .int .i64 3]) (by simp [results, Tryd.results13, go_sem, e0, e1, e2]) rfl ⟨rfl, ?_⟩
  all_goals repeat (first | exact hkw | refine Keeps.setCell ?_ _ _ (.inr hrn) | refine Keeps.drew ?_)

def moved (p f t n : Int) : Int := if t < p then p + (n - (t - f)) else if f ≤ p then f + n else p
def markMoved (m f t n : Int) : Int := if t < m then m + (n - (t - f)) else if f < m then f else m
def BS.splice (s : BS) (f t : Nat) (l : List Int) : BS := ⟨s.l.take f ++ l ++ s.l.drop t, moved s.point f t l.length, markMoved s.mark f t l.length⟩

theorem splice_len (s : BS) (f t : Nat) (l : List Int) (hft : f ≤ t) (htl : t ≤ s.l.length) : (s.splice f t l).l.length = s.l.length - (t - f) + l.length := by
  simp only [BS.splice, List.length_append, List.length_take, List.length_drop]; omega
/-- The buffer behind a replacement. -/
theorem splice_in {w W : World} {b N tN f t : Nat} {lv : Value} {xs : List Value} {s : BS} {l : List Int} (h : BIn w b lv N f tN xs s) (hft : f ≤ t) (htl : t ≤ s.l.length) (hfit : s.l.length - (t - f) + l.length ≤ 1024) (htN : tN = l.length + 16 + f)
    (hblk : W.heap[b]? = some (.cells #[.bool true, lv, .int .i64 (f + l.length : Nat), .int .i64 (tN + (t - f) : Nat), .int .i64 (s.splice f t l).point, .int .i64 (s.splice f t l).mark] 67 (0, 0)))
    (hrow : Row W 21 1 lv N (xs.take f ++ ((ns .i32 l).take (N - f) ++ xs.drop (f + ((ns .i32 l).take (N - f)).length)))) :
    BIn W b lv N (f + l.length) (tN + (t - f)) (xs.take f ++ ((ns .i32 l).take (N - f) ++ xs.drop (f + ((ns .i32 l).take (N - f)).length))) (s.splice f t l) := by
  have hN := h.len
  have hxl := h.row.len
  rw [Nat.mul_one] at hxl
  have h1 := h.fr_to
  have h2 := h.to_N
  have hsl := splice_len s f t l hft htl
  have p0 := h.pt0
  have p1 := h.pt1
  have m0 := h.mk0
  have m1 := h.mk1
  have e1 : (ns .i32 l).take (N - f) = ns .i32 l := List.take_of_length_le (by rw [ns_length]; omega)
  have hxf : (xs.take f).length = f := by rw [List.length_take]; omega
  have ht := h.text
  have hta : xs.take f = (ns .i32 s.l).take f := by
    have := congrArg (List.take f) ht
    rw [List.take_append_of_le_length (by omega), List.take_take, Nat.min_self] at this
    exact this
  have htb : xs.drop tN = (ns .i32 s.l).drop f := by
    have := congrArg (List.drop f) ht
    rw [List.drop_append_of_le_length (by omega), List.drop_of_length_le (by omega), List.nil_append] at this
    exact this
  refine ⟨hblk, hrow, by omega, by omega, ?_, h.small, by omega, ?_, ?_, ?_, ?_, ?_⟩
  · rw [e1, ns_length]
    have hX : xs.take f ++ (ns .i32 l ++ xs.drop (f + l.length)) = (xs.take f ++ ns .i32 l) ++ xs.drop (f + l.length) := by rw [List.append_assoc]
    have hl2 : (xs.take f ++ ns .i32 l).length = f + l.length := by rw [List.length_append, hxf, ns_length]
    rw [hX, List.take_left' hl2, List.drop_append, List.drop_of_length_le (by omega), List.nil_append, hl2, List.drop_drop]
    have e3 : f + l.length + (tN + (t - f) - (f + l.length)) = tN + (t - f) := by omega
    rw [e3, ← List.drop_drop, htb, List.drop_drop, hta]
    rw [show f + (t - f) = t by omega]
    simp only [BS.splice, ns, List.map_append, List.map_take, List.map_drop]
  · simp only [BS.splice, moved]; split <;> (try split) <;> omega
  · rw [hsl]; simp only [BS.splice, moved]; split <;> (try split) <;> omega
  · simp only [BS.splice, markMoved]; split <;> (try split) <;> omega
  · rw [hsl]; simp only [BS.splice, markMoved]; split <;> (try split) <;> omega
  · intro u hu
    rcases List.mem_append.1 hu with h' | h'
    · exact h.one u (List.mem_of_mem_take h')
    · rcases List.mem_append.1 h' with h' | h'
      · exact ns_one .i32 l u (List.mem_of_mem_take h')
      · exact h.one u (List.mem_of_mem_drop h')

/-- An answer of Replace that does it: the edit's two rows and the buffer, each apart from the others. -/
def Replaced (w : World) (b : Nat) (F : List Nat) (s : BS) (f t : Nat) (l : List Int) (e : Ending) (w' : World) : Prop :=
  ∃ Ad cd Ai ci, e = .returned (.tuple #[.agg #[.int .i64 f, .slice Ad (t - f) cd, .slice Ai l.length ci], .int .i64 0]) ∧ Row w' 21 1 (.slice Ad (t - f) cd) (t - f) (ns .i32 ((s.l.drop f).take (t - f))) ∧ Row w' 21 1 (.slice Ai l.length ci) l.length (ns .i32 l) ∧
    Keeps F w w' ∧ ∃ F', (∀ k, k ∈ F' → k ∈ F ∨ w.heap.size ≤ k) ∧ BAt w' b F' (s.splice f t l) ∧ (∀ k, k ∈ fp (.slice Ad (t - f) cd) → w.heap.size ≤ k ∧ k ∉ F') ∧ (∀ k, k ∈ fp (.slice Ai l.length ci) → w.heap.size ≤ k ∧ k ∉ F' ∧ k ∉ fp (.slice Ad (t - f) cd))

set_option maxRecDepth 100000 in
set_option maxHeartbeats 1000000 in
theorem BReplace_ok (w : World) (b : Nat) (F : List Nat) (s : BS) (f t : Nat) (A : Option Addr) (c : Nat) (l : List Int) (h : BAt w b F s) (hft : f ≤ t) (htl : t ≤ s.l.length) (hfit : s.l.length - (t - f) + l.length ≤ 1024) (hsrc : Src w A (ns .i32 l)) (hsF : ∀ a, A = some a → 0 < (ns .i32 l).length → a.block ∉ F) :
    Calls Tryd.prog 13 #[.pointer (some ⟨b, 0, none⟩), .int .i64 f, .int .i64 t, .slice A l.length c] w (Replaced w b F s f t l) := by
  have hk0 := (Keeps.refl [] w).alloc (.cells #[.int .i64 0, .slice none 0 0, .slice none 0 0] 24)
  have hshort : s.l.length ≤ 1024 := by obtain ⟨lv, N, fr, ub, xs, hb, _⟩ := h; exact hb.short
  go_enter Tryd.func13, Tryd.ntmps13
  go_wp2_with fail
  refine (BLen_calls _ b F s (h.keeps hk0 (by simp))).mono ?_
  rintro e w1 ⟨rfl, hk1⟩
  have hr1 := hk1.blk (blk_new w (.cells #[.int .i64 0, .slice none 0 0, .slice none 0 0] 24)) (by simp)
  have hz2 : w.heap.size < w1.heap.size := blk_lt hr1
  have hb1 := (h.keeps hk0 (by simp)).keeps hk1 (by simp)
  have hkw := hk0.trans hk1
  have hbF := hb1.lt
  have hbw : ∀ k, k ∈ F → k < w.heap.size := h.lt
  obtain ⟨lv, N, fr, ub, xs, hb, rfl⟩ := hb1
  obtain ⟨c0, _⟩ := hb.six
  go_wp2_with fail
  refine (BNone_calls _ b true c0).mono ?_
  rintro e w2 ⟨rfl, rfl⟩
  clear c0 hk1 hk0 h
  go_wp2_with fail
  refine (BText_calls w1 b _ s ⟨lv, N, fr, ub, xs, hb, rfl⟩).mono ?_
  rintro e w2 ⟨T, tc, rfl, hrowT, hk2, hfT⟩
  obtain ⟨_, _, hv, htc, htm⟩ := hrowT.slice
  cases hv
  have htc2 : t ≤ tc := by omega
  go_wp2_with (with_reducible refine wpList_slice_lh rfl _ _ _ 22 rfl el T s.l.length tc f t rfl rfl rfl hft htc2 ?_)
  obtain ⟨_, _, hv, _, _, hsT, _⟩ := hrowT.src
  cases hv
  have hlT : (ns .i32 s.l).length ≤ tc := by rw [ns_length]; exact htc
  have hdl : ((ns .i32 s.l).drop f |>.take (t - f)).length = t - f := by rw [List.length_take, List.length_drop, ns_length]; omega
  refine (Clone_calls w2 (cutA T tc f) (t - f) (tc - f) (((ns .i32 s.l).drop f).take (t - f)) ((hsT.cutA tc f hlT).take (t - f)) hdl (fun u hu => ns_one .i32 s.l u (List.mem_of_mem_drop (List.mem_of_mem_take hu))) (by omega)).mono ?_
  rintro e w3 ⟨Ad, cd, rfl, hrowd, hk3, hfd⟩
  clear hdl hlT hsT hrowT
  have hkw2 := hkw.trans hk2
  have hkw3 := hkw2.trans hk3
  go_wp2_with fail
  refine (Clone_calls w3 A l.length c (ns .i32 l) (hsrc.keeps hkw3 (by simp)) (ns_length _ _) (ns_one _ _) (by omega)).mono ?_
  rintro e w4 ⟨Ai, ci, rfl, hrowi, hk4, hfi⟩
  have hkw4 := hkw3.trans hk4
  have hrowd3 : ∀ k, k ∈ fp (.slice Ad (t - f) cd) → k < w3.heap.size := hrowd.fp_lt
  have hrowd4 := hrowd.keeps hk4 (by simp)
  clear hrowd
  have hb4 := (hb.stays (w' := w4) (fun k hk => by rw [((hk2.trans hk3).trans hk4).block k (hbF k hk) (by simp)]))
  have hr4 := ((hk2.trans hk3).trans hk4).blk hr1 (by simp)
  clear hb hr1
  go_wp2_with fail
  obtain ⟨N', hN'⟩ : ∃ N', N' = s.l.length + l.length + 16 := ⟨_, rfl⟩
  obtain ⟨tN, htN⟩ : ∃ tN, tN = l.length + 16 + f := ⟨_, rfl⟩
  have hk5 : Keeps [] w4 (w4.alloc (.cells #[.int .i64 f, .slice Ad (t - f) cd, .slice Ai l.length ci] 24)) := (Keeps.refl _ _).alloc _
  have hbF4 : ∀ k, k ∈ b :: fp lv → k < w.heap.size := hbw
  have hb5 := hb4.stays (w' := w4.alloc (.cells #[.int .i64 f, .slice Ad (t - f) cd, .slice Ai l.length ci] 24)) (fun k hk => hk5.block k (by have := hbF4 k hk; have := hkw4.size; omega) (by simp))
  have he5 := blk_new w4 (.cells #[.int .i64 f, .slice Ad (t - f) cd, .slice Ai l.length ci] 24)
  refine (BOpen_calls _ b lv N fr ub xs s hb5 f l.length N' tN (by omega) (by omega) hN' htN).mono ?_
  rintro e w6 ⟨rfl, lv', xs', hb6, hk6, hf6⟩
  have HN' := Lib.hid hN'
  have HtN := Lib.hid htN
  have q1 : f ≤ N' := by omega
  have q2 : f + l.length ≤ tN := by omega
  have q3 : tN + (t - f) ≤ N' := by omega
  have q4 : N' ≤ 4096 := hb6.small
  clear hN' htN hb5 hb4
  obtain ⟨g, off, lc, rfl, lh1, lh2, hfp, _, _⟩ := hb6.row.cell (i := 0) (by rw [hb6.row.len]; have := HN'.out; omega)
  obtain ⟨toN, htoN, hto⟩ : ∃ toN : Nat, (tN : Int) + ((t : Int) - (f : Int)) = (toN : Int) ∧ toN = tN + (t - f) := ⟨tN + (t - f), by omega, rfl⟩
  obtain ⟨frN, hfrN, hfr⟩ : ∃ frN : Nat, (f : Int) + (l.length : Int) = (frN : Int) ∧ frN = f + l.length := ⟨f + l.length, by omega, rfl⟩
  have hbn : b ∉ fp (.slice (some ⟨g, off, none⟩) N' lc) := hb6.b_r
  have hbg : b ≠ g := fun e => hbn (by rw [hfp, e]; simp)
  obtain ⟨d0, d1, d2, d3, d4, d5, g1, g2, g3, g4, g5⟩ := hb6.six
  have Hto := Lib.hid hto
  have Hfr := Lib.hid hfr
  clear hto hfr
  unfold maxLen at lh2
  have q5 : f ≤ lc := by omega
  have hlen0 : s.l.length - (t - f) + l.length ≤ 1024 := hfit
  have hpt1 := hb6.pt1
  have hpt0 := hb6.pt0
  have hmk1 := hb6.mk1
  have hmk0 := hb6.mk0
  have hsl : Src w6 A (ns .i32 l) := by
    refine (hsrc.keeps (hkw4.trans hk5) (by simp)).keeps hk6 (fun a ha h0 hf => ?_)
    simp at hf
    exact hsF a ha h0 (by simp [hf])
  go_wp2_with fail
  have hb7 : (w6.setCell ⟨b, 3, none⟩ (.int .i64 toN)).heap[b]? = some (.cells #[.bool true, .slice (some ⟨g, off, none⟩) N' lc, .int .i64 f, .int .i64 toN, .int .i64 s.point, .int .i64 s.mark] 67 (0, 0)) := blk_set hb6.blk 3 (.int .i64 toN)
  have hrow7 := hb6.row.far ⟨b, 3, none⟩ (.int .i64 toN) hbn
  have hk7 : Keeps [b] w6 (w6.setCell ⟨b, 3, none⟩ (.int .i64 toN)) := (Keeps.refl _ _).setCell _ _ (.inl (by simp))
  have hsl7 : Src (w6.setCell ⟨b, 3, none⟩ (.int .i64 toN)) A (ns .i32 l) := hsl.keeps hk7 (fun a ha h0 hf => by simp at hf; exact hsF a ha h0 (by simp [hf]))
  generalize (w6.setCell ⟨b, 3, none⟩ (.int .i64 toN)) = w7 at *
  clear d0 d1 d2 d3 d4 d5 g1 g2 g3 g4 g5
  obtain ⟨d0, d1, d2, d3, d4, d5, g1, g2, g3, g4, g5⟩ := six hb7
  go_cut [] (fun wx => Row wx 21 1 (.slice (some ⟨g, off, none⟩) N' lc) N' (xs'.take f ++ ((ns .i32 l).take (N' - f) ++ xs'.drop (f + ((ns .i32 l).take (N' - f)).length))) ∧ Keeps (fp (.slice (some ⟨g, off, none⟩) N' lc)) w7 wx)
  case first =>
    go_region_law (refine step_copy_row rfl _ _ 22 22 rfl el (some ⟨g, off, none⟩) N' lc _ hrow7.drew (if lc = f then some ⟨g, off, none⟩ else some ⟨g, off + f, none⟩) (N' - f) (lc - f) f rfl (fun _ => ⟨by omega, g, off, rfl, if_neg (by omega)⟩) A l.length c (ns .i32 l) rfl (ns_length _ _) hsl7.drew (ns_one _ _) ?_; intro w8 hrow8 hk8 hz8)
    all_goals go_wp2_with fail
    all_goals go_meet
    all_goals exact ⟨hrow8, ⟨hk8.os, hk8.tape, hk8.output, hk8.size, hk8.block⟩⟩
  case rest =>
    obtain ⟨w8, rfl⟩ : ∃ w8, w8 = wc := ⟨_, rfl⟩
    obtain ⟨hrow8, hk8⟩ := hcut
    have hb8 := hk8.blk hb7 hbn
    clear d0 d1 d2 d3 d4 d5 g1 g2 g3 g4 g5
    obtain ⟨d0, d1, d2, d3, d4, d5, g1, g2, g3, g4, g5⟩ := six hb8
    have hz5 : (w4.alloc (.cells #[.int .i64 f, .slice Ad (t - f) cd, .slice Ai l.length ci] 24)).heap.size = w4.heap.size + 1 := by simp
    have hge : w4.heap.size + 1 ≤ g := by have := hf6 g (by rw [hfp]; simp); omega
    have hbz : b < w.heap.size := hbF4 b (by simp)
    have hz4 := hkw4.size
    have he8 : w8.heap[w4.heap.size]? = some (.cells #[.int .i64 f, .slice Ad (t - f) cd, .slice Ai l.length ci] 24 (0, 0)) :=
      hk8.blk (hk7.blk (hk6.blk he5 (by simp; omega)) (by simp; omega)) (by rw [hfp]; simp; omega)
    have hr8 : w8.heap[w.heap.size]? = some (.cells #[.int .i64 0, .slice none 0 0, .slice none 0 0] 24 (0, 0)) :=
      hk8.blk (hk7.blk (hk6.blk (hk5.blk hr4 (by simp)) (by simp; omega)) (by simp; omega)) (by rw [hfp]; simp; omega)
    have HB := Lib.hid (blk_set hb8 2 (.int .i64 frN))
    go_upto_block 1 with fail
    go_cut [] (fun wx => Hid (wx.heap[b]? = some (.cells #[.bool true, .slice (some ⟨g, off, none⟩) N' lc, .int .i64 frN, .int .i64 toN, .int .i64 (moved s.point f t l.length), .int .i64 s.mark] 67 (0, 0))) ∧ Keeps [b] w8 wx)
    case first =>
      have hk9 : Keeps [b] w8 (w8.setCell ⟨b, 2, none⟩ (.int .i64 frN)) := (Keeps.refl _ _).setCell _ _ (.inl (by simp))
      by_cases ht1 : (t : Int) < s.point
      · have e1 := Lib.hid (show moved s.point f t l.length = s.point + ((l.length : Int) - ((t : Int) - (f : Int))) by simp only [moved, if_pos ht1])
        go_wp2
        all_goals go_meet
        all_goals exact ⟨by show _ = _; rw [e1.out]; exact blk_set HB.out 4 _, hk9.setCell _ _ (.inl (by simp))⟩
      · by_cases ht2 : (f : Int) ≤ s.point
        · have e1 := Lib.hid (show moved s.point f t l.length = (f : Int) + (l.length : Int) by simp only [moved, if_neg ht1, if_pos ht2])
          go_wp2
          all_goals go_meet
          all_goals exact ⟨by show _ = _; rw [e1.out, hfrN]; exact blk_set HB.out 4 _, hk9.setCell _ _ (.inl (by simp))⟩
        · have e1 := Lib.hid (show moved s.point f t l.length = s.point by simp only [moved, if_neg ht1, if_neg ht2])
          go_wp2
          all_goals go_meet
          all_goals exact ⟨by show _ = _; rw [e1.out]; exact HB.out, hk9⟩
    case rest =>
      obtain ⟨w9, rfl⟩ : ∃ w9, w9 = wc := ⟨_, rfl⟩
      obtain ⟨hb9, hk9⟩ := hcut
      clear d0 d1 d2 d3 d4 d5 g1 g2 g3 g4 g5 HB
      obtain ⟨d0, d1, d2, d3, d4, d5, g1, g2, g3, g4, g5⟩ := six hb9.out
      generalize hmv : moved s.point f t l.length = P at *
      have Hmv := Lib.hid hmv; clear hmv
      go_upto_block 2 with fail
      go_cut [] (fun wx => Hid (wx.heap[b]? = some (.cells #[.bool true, .slice (some ⟨g, off, none⟩) N' lc, .int .i64 frN, .int .i64 toN, .int .i64 P, .int .i64 (markMoved s.mark f t l.length)] 67 (0, 0))) ∧ Keeps [b] w8 wx)
      case first =>
        by_cases ht1 : (t : Int) < s.mark
        · have e1 := Lib.hid (show markMoved s.mark f t l.length = s.mark + ((l.length : Int) - ((t : Int) - (f : Int))) by simp only [markMoved, if_pos ht1])
          go_wp2
          all_goals go_meet
          all_goals exact ⟨by show _ = _; rw [e1.out]; exact blk_set hb9.out 5 _, hk9.setCell _ _ (.inl (by simp))⟩
        · by_cases ht2 : (f : Int) < s.mark
          · have e1 := Lib.hid (show markMoved s.mark f t l.length = (f : Int) by simp only [markMoved, if_neg ht1, if_pos ht2])
            go_wp2
            all_goals go_meet
            all_goals exact ⟨by show _ = _; rw [e1.out]; exact blk_set hb9.out 5 _, hk9.setCell _ _ (.inl (by simp))⟩
          · have e1 := Lib.hid (show markMoved s.mark f t l.length = s.mark by simp only [markMoved, if_neg ht1, if_neg ht2])
            go_wp2
            all_goals go_meet
            all_goals exact ⟨by show _ = _; rw [e1.out]; exact hb9.out, hk9⟩
      case rest =>
        obtain ⟨wA, rfl⟩ : ∃ wA, wA = wc := ⟨_, rfl⟩
        obtain ⟨hbA, hkA⟩ := hcut
        have heA := hkA.blk he8 (by simp; omega)
        have hrA := hkA.blk hr8 (by simp; omega)
        clear d0 d1 d2 d3 d4 d5 g1 g2 g3 g4 g5
        obtain ⟨p0, p1, p2, _, _, _⟩ := three heA
        obtain ⟨r0, r1, r2, s0, s1, s2⟩ := three hrA
        go_wp2_with fail
        have hfin : ∀ (W : World) (P M : Int), W.heap[b]? = some (.cells #[.bool true, .slice (some ⟨g, off, none⟩) N' lc, .int .i64 frN, .int .i64 toN, .int .i64 P, .int .i64 M] 67 (0, 0)) → Keeps [b, w.heap.size] w8 W → P = moved s.point f t l.length → M = markMoved s.mark f t l.length →
            Replaced w b (b :: fp lv) s f t l (.returned (.tuple #[.agg #[.int .i64 f, .slice Ad (t - f) cd, .slice Ai l.length ci], .int .i64 0])) W := by
          intro W P M hbW hkW hP hM
          subst hP; subst hM
          have z7 := hk7.size
          have z6 := hk6.size
          have z8 := hk8.size
          have hsub : ∀ k, k < w4.heap.size + 1 → k ≠ b → k ≠ w.heap.size → W.heap[k]? = (w4.alloc (.cells #[.int .i64 f, .slice Ad (t - f) cd, .slice Ai l.length ci] 24)).heap[k]? := by
            intro k hk1 hk2 hk3
            rw [hkW.block k (by omega) (by simp; omega), hk8.block k (by omega) (by rw [hfp]; simp; omega), hk7.block k (by omega) (by simp; omega), hk6.block k (by omega) (by simp; omega)]
          have hd5 : Row W 21 1 (.slice Ad (t - f) cd) (t - f) (ns .i32 ((s.l.drop f).take (t - f))) := by
            have h1 := (hrowd4.keeps hk5 (by simp)).stays (w' := W) (fun k hk => hsub k (by have := hrowd4.fp_lt k hk; omega) (fun e => by have := hfd k hk; have := hkw2.size; omega) (fun e => by have := hfd k hk; have := hk2.size; have := hz2; omega))
            have e2 : ((ns .i32 s.l).drop f).take (t - f) = ns .i32 ((s.l.drop f).take (t - f)) := by simp [ns, List.map_take, List.map_drop]
            rw [e2] at h1; exact h1
          have hi5 : Row W 21 1 (.slice Ai l.length ci) l.length (ns .i32 l) :=
            (hrowi.keeps hk5 (by simp)).stays (w' := W) (fun k hk => hsub k (by have := hrowi.fp_lt k hk; omega) (fun e => by have := hfi k hk; have := hkw3.size; omega) (fun e => by have := hfi k hk; have := hk2.size; have := hz2; have := hk3.size; omega))
          have hkeep : Keeps (b :: fp lv) w W := by
            refine ((((((hkw4.trans hk5).mono (fun _ hk => by simp at hk)).then hk6 (fun i hi => .inl ?_)).then hk7 (fun i hi => .inl ?_)).then hk8 (fun i hi => .inr ?_)).then hkW (fun i hi => ?_))
            · simp at hi; simp [hi]
            · simp at hi; simp [hi]
            · rw [hfp] at hi; simp at hi; omega
            · simp at hi
              rcases hi with hi | hi
              · exact .inl (by simp [hi])
              · exact .inr (by omega)
          have hrowW : Row W 21 1 (.slice (some ⟨g, off, none⟩) N' lc) N' (xs'.take f ++ ((ns .i32 l).take (N' - f) ++ xs'.drop (f + ((ns .i32 l).take (N' - f)).length))) :=
            hrow8.keeps hkW (fun k hk => by rw [hfp] at hk; simp at hk; simp; omega)
          refine ⟨Ad, cd, Ai, ci, rfl, hd5, hi5, hkeep, b :: fp (.slice (some ⟨g, off, none⟩) N' lc), ?_, ⟨_, _, _, _, _, splice_in hb6 hft htl hfit HtN.out ?_ hrowW, rfl⟩, ?_, ?_⟩
          · intro k hk
            rcases List.mem_cons.1 hk with h1 | h1
            · exact .inl (by simp [h1])
            · rw [hfp] at h1; simp at h1; exact .inr (by omega)
          · rw [← Hfr.out, ← Hto.out]; exact hbW
          · intro k hk
            have h1 := hfd k hk
            have h2 := hrowd4.fp_lt k hk
            have h3 := hkw2.size
            exact ⟨by omega, by rw [hfp]; simp; omega⟩
          · intro k hk
            have h1 := hfi k hk
            have h2 := hrowi.fp_lt k hk
            have h3 := hkw3.size
            refine ⟨by omega, by rw [hfp]; simp; omega, fun hk' => ?_⟩
            have h4 := hrowd4.fp_lt k hk'
            have h5 := hrowd3 k hk'
            omega
        have hbne : b ≠ w.heap.size := by omega
        have hkF : Keeps [b, w.heap.size] w8 wA := hkA.mono (fun k hk => by simp at hk; simp [hk])
        refine bodyPost_ret (v := .tuple #[.agg #[.int .i64 f, .slice Ad (t - f) cd, .slice Ai l.length ci], .int .i64 0]) (by simp [results, Tryd.results13, go_sem, r0, r1, r2]) rfl ?_
        refine hfin _ _ _ (blk_far (blk_far (blk_far hbA.out _ hbne _) _ hbne _) _ hbne _) (((hkF.setCell _ _ (.inl (by simp))).setCell _ _ (.inl (by simp))).setCell _ _ (.inl (by simp))) Hmv.out.symm rfl
end Go.Proofs.YtmnmdpgckefefaaDoor.Buf
