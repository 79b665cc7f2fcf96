/- lanyardref07.Buffer.Replace. -/
import Derived.Test.YtmnmdpgckefefaaDoorRef
namespace Go.Proofs.YtmnmdpgckefefaaDoor.Buf
open Go Go.RowKit Go.Proofs.YtmnmdpgckefefaaDoor.Rw Go.Proofs.YtmnmdpgckefefaaDoor.SlR Go.Proofs.YtmnmdpgckefefaaDoor.Words Go.Proofs.YtmnmdpgckefefaaDoor.OpArg

theorem Moved_gt (w : World) (p f t : Int) (n : Nat) (h : t < p) (hp0 : -1 ≤ p) (hp : p ≤ 4096) (hf0 : 0 ≤ f) (hft : f ≤ t) (ht : t ≤ 4096) (hn : n ≤ 4096) :
    Calls Tryd.prog 55 #[.int .i64 p, .int .i64 f, .int .i64 t, .int .i64 n] w fun e w' => e = .returned (.int .i64 (p + n - (t - f))) ∧ w = w' := by
  have := Moved_calls w p f t n hp0 hp hf0 hft ht hn
  rwa [if_pos h] at this
theorem Moved_le (w : World) (p f t : Int) (n : Nat) (h : p ≤ t) (hp0 : -1 ≤ p) (hp : p ≤ 4096) (hf0 : 0 ≤ f) (hft : f ≤ t) (ht : t ≤ 4096) (hn : n ≤ 4096) :
    Calls Tryd.prog 55 #[.int .i64 p, .int .i64 f, .int .i64 t, .int .i64 n] w fun e w' => e = .returned (.int .i64 p) ∧ w = w' := by
  have := Moved_calls w p f t n hp0 hp hf0 hft ht hn
  rwa [if_neg (by omega)] at this
theorem didR_refused {w w' : World} {b : Nat} {F : List Nat} {s : BS} {code : Int} {e : Ending} (h : RAt w b F s) (hr : Refused w code e w') : Did RAt w b F s ⟨0, [], []⟩ code e w' := by
  obtain ⟨rfl, hk⟩ := hr
  exact ⟨none, 0, none, 0, rfl, Row.nil _ _ _ _, Row.nil _ _ _ _, hk.mono (fun _ h => by simp at h), F, fun k hk => .inl hk, h.keeps hk (by simp), fun k hk => by simp [fp] at hk, fun k hk => by simp [fp] at hk⟩

section
variable (w : World) (r : Nat) (F : List Nat) (s : BS) (A : Option Addr) (c : Nat)
theorem RfReplace_f (f t : Int) (n : Nat) (h : RAt w r F s) (hbad : f < 0 ∨ (s.l.length : Int) < f) :
    Calls Tryd.prog 20 #[.pointer (some ⟨r, 0, none⟩), .int .i64 f, .int .i64 t, .slice A n c] w (Refused w 70) := by
  have hk0 := (Keeps.refl [] w).alloc (.cells #[.int .i64 0, .slice none 0 0, .slice none 0 0] 24)
  have h0 := h.keeps hk0 (by simp)
  have HB := Lib.hid hbad; clear hbad
  have hrn : w.heap.size ≤ w.heap.size := Nat.le_refl _
  go_enter Tryd.func20, Tryd.ntmps20
  go_wp2_with (go_at_call 54; refine (Place_no _ r F s f h0 HB.out).mono ?_; rintro e w' ⟨rfl, rfl⟩)
  refine bodyPost_ret (v := .tuple #[.agg #[.int .i64 0, .slice none 0 0, .slice none 0 0], .int .i64 70]) (by simp [results, Tryd.results20, go_sem]) rfl ⟨rfl, ?_⟩
  repeat (first | exact hk0 | refine Keeps.setCell ?_ _ _ (.inr hrn) | refine Keeps.drew ?_)
theorem RfReplace_t (f t : Int) (n : Nat) (h : RAt w r F s) (h1 : 0 ≤ f) (h2 : f ≤ s.l.length) (hbad : t < 0 ∨ (s.l.length : Int) < t) :
    Calls Tryd.prog 20 #[.pointer (some ⟨r, 0, none⟩), .int .i64 f, .int .i64 t, .slice A n c] w (Refused w 70) := by
  have hk0 := (Keeps.refl [] w).alloc (.cells #[.int .i64 0, .slice none 0 0, .slice none 0 0] 24)
  have h0 := h.keeps hk0 (by simp)
  have HB := Lib.hid hbad; clear hbad
  have hrn : w.heap.size ≤ w.heap.size := Nat.le_refl _
  go_enter Tryd.func20, Tryd.ntmps20
  go_wp2_with fail
  refine (Place_yes _ r F s f h0 h1 h2).mono ?_
  rintro e w' ⟨rfl, rfl⟩
  go_wp2_with fail
  refine (Place_no _ r F s t h0 HB.out).mono ?_
  rintro e w' ⟨rfl, rfl⟩
  go_wp2
  refine bodyPost_ret (v := .tuple #[.agg #[.int .i64 0, .slice none 0 0, .slice none 0 0], .int .i64 70]) (by simp [results, Tryd.results20, go_sem]) rfl ⟨rfl, ?_⟩
  repeat (first | exact hk0 | refine Keeps.setCell ?_ _ _ (.inr hrn) | refine Keeps.drew ?_)
theorem RfReplace_tf (f t : Nat) (n : Nat) (h : RAt w r F s) (h2 : f ≤ s.l.length) (h3 : t ≤ s.l.length) (hbad : t < f) :
    Calls Tryd.prog 20 #[.pointer (some ⟨r, 0, none⟩), .int .i64 f, .int .i64 t, .slice A n c] w (Refused w 70) := by
  have hk0 := (Keeps.refl [] w).alloc (.cells #[.int .i64 0, .slice none 0 0, .slice none 0 0] 24)
  have h0 := h.keeps hk0 (by simp)
  have hrn : w.heap.size ≤ w.heap.size := Nat.le_refl _
  go_enter Tryd.func20, Tryd.ntmps20
  go_wp2_with fail
  refine (Place_yes _ r F s f h0 (by omega) (by omega)).mono ?_
  rintro e w' ⟨rfl, rfl⟩
  go_wp2_with fail
  refine (Place_yes _ r F s t h0 (by omega) (by omega)).mono ?_
  rintro e w' ⟨rfl, rfl⟩
  go_wp2
  refine bodyPost_ret (v := .tuple #[.agg #[.int .i64 0, .slice none 0 0, .slice none 0 0], .int .i64 70]) (by simp [results, Tryd.results20, go_sem]) rfl ⟨rfl, ?_⟩
  repeat (first | exact hk0 | refine Keeps.setCell ?_ _ _ (.inr hrn) | refine Keeps.drew ?_)
theorem RfReplace_long (f t : Nat) (n : Nat) (h : RAt w r F s) (hft : f ≤ t) (h3 : t ≤ s.l.length) (hn : n ≤ 70368744177664) (hlong : 1024 < s.l.length - (t - f) + n) :
    Calls Tryd.prog 20 #[.pointer (some ⟨r, 0, none⟩), .int .i64 f, .int .i64 t, .slice A n c] w (Refused w 3) := by
  have hk0 := (Keeps.refl [] w).alloc (.cells #[.int .i64 0, .slice none 0 0, .slice none 0 0] 24)
  have h0 := h.keeps hk0 (by simp)
  have hb := h.bounds
  have hsh := hb.1
  clear hb
  have hrn : w.heap.size ≤ w.heap.size := Nat.le_refl _
  have c0 : ∃ L lc, (w.alloc (.cells #[.int .i64 0, .slice none 0 0, .slice none 0 0] 24)).cell? ⟨r, 0, none⟩ = some (.slice L s.l.length lc) := by
    obtain ⟨lv, hb, _⟩ := h0
    obtain ⟨L, lc, rfl, _⟩ := hb.row.slice
    exact ⟨L, lc, (three hb.blk).1⟩
  obtain ⟨L, lc, c0⟩ := c0
  have hl2 : (1024 : Int) < (s.l.length : Int) - ((t : Int) - (f : Int)) + (n : Int) := by omega
  go_enter Tryd.func20, Tryd.ntmps20
  go_wp2_with fail
  refine (Place_yes _ r F s f h0 (by omega) (by omega)).mono ?_
  rintro e w' ⟨rfl, rfl⟩
  go_wp2_with fail
  refine (Place_yes _ r F s t h0 (by omega) (by omega)).mono ?_
  rintro e w' ⟨rfl, rfl⟩
  go_wp2
  refine bodyPost_ret (v := .tuple #[.agg #[.int .i64 0, .slice none 0 0, .slice none 0 0], .int .i64 3]) (by simp [results, Tryd.results20, go_sem]) rfl ⟨rfl, ?_⟩
  repeat (first | exact hk0 | refine Keeps.setCell ?_ _ _ (.inr hrn) | refine Keeps.drew ?_)

/-- The point and the mark as the reference has them. -/
def pointR (p f t n : Int) : Int := if f ≤ p ∧ p ≤ t then f + n else if t < p then p + n - (t - f) else p
def markR (m f t n : Int) : Int := if f < m ∧ m ≤ t then f else if t < m then m + n - (t - f) else m
theorem pointR_eq (p f t n : Int) (_h : f ≤ t) : pointR p f t n = moved p f t n := by
  unfold pointR moved; (repeat' split) <;> omega
theorem markR_eq (p f t n : Int) (_h : f ≤ t) : markR p f t n = markMoved p f t n := by
  unfold markR markMoved; (repeat' split) <;> omega

set_option maxRecDepth 100000 in
set_option maxHeartbeats 1000000 in
theorem RfReplace_ok (f t : Nat) (l : List Int) (h : RAt w r F s) (hft : f ≤ t) (htl : t ≤ s.l.length) (hfit : s.l.length - (t - f) + l.length ≤ 1024) (hsrc : Src w A (ns .i32 l)) (_hsF : ∀ a, A = some a → 0 < (ns .i32 l).length → a.block ∉ F) :
    Calls Tryd.prog 20 #[.pointer (some ⟨r, 0, none⟩), .int .i64 f, .int .i64 t, .slice A l.length c] w
      (Did RAt w r F (s.splice f t l) ⟨f, (s.l.drop f).take (t - f), l⟩ 0) := by
  have hk0 := (Keeps.refl [] w).alloc (.cells #[.int .i64 0, .slice none 0 0, .slice none 0 0] 24)
  have hr0 := blk_new w (.cells #[.int .i64 0, .slice none 0 0, .slice none 0 0] 24)
  have h0 := h.keeps hk0 (by simp)
  have hlt := h.lt
  have hbd := h.bounds
  obtain ⟨hsh, hp0, hp1, hm0, hm1⟩ := hbd
  obtain ⟨lv, hb0, hF⟩ := h
  obtain ⟨L, lc, hv, hLc, hLm⟩ := hb0.row.slice
  subst hv
  have HF := Lib.hid hF; clear hF
  have hb1 := hb0.stays (w' := w.alloc (.cells #[.int .i64 0, .slice none 0 0, .slice none 0 0] 24)) (fun k hk => hk0.block k (hlt k (by rw [HF.out]; exact hk)) (by simp))
  obtain ⟨c0, c1, c2, g0, g1, g2⟩ := three hb1.blk
  obtain ⟨_, _, hv, _, _, hsL, hLF⟩ := hb1.row.src
  cases hv
  have hsA := hsrc.keeps hk0 (by simp)
  have hl2 : ¬ (1024 : Int) < (s.l.length : Int) - ((t : Int) - (f : Int)) + (l.length : Int) := by omega
  have hl3 : l.length ≤ 1024 := by omega
  have hfs : f ≤ s.l.length := by omega
  have hflc : f ≤ lc := by omega
  have htlc : t ≤ lc := by omega
  have hnl : (ns .i32 s.l).length ≤ lc := by rw [ns_length]; exact hLc
  unfold maxLen at hLm
  go_enter Tryd.func20, Tryd.ntmps20
  go_wp2_with fail
  refine (Place_yes _ r F s f h0 (by omega) (by omega)).mono ?_
  rintro e w' ⟨rfl, rfl⟩
  go_wp2_with fail
  refine (Place_yes _ r F s t h0 (by omega) (by omega)).mono ?_
  rintro e w' ⟨rfl, rfl⟩
  generalize w.alloc (.cells #[.int .i64 0, .slice none 0 0, .slice none 0 0] 24) = w0 at *
  have hdl : Hid (((s.l.drop f).take (t - f)).length = t - f) := by show _ = _; simp; omega
  go_upto_region 11 with (first
    | (with_reducible refine wpList_slice_lh rfl _ _ _ 22 rfl el L s.l.length lc f t rfl rfl rfl hft htlc ?_)
    | (with_reducible refine wpList_slice_l rfl _ _ 22 rfl el L s.l.length lc t rfl rfl htl ?_)
    | (at_builtin; refine wpList_append_row rfl _ _ 22 rfl el (.slice none 0 0) 0 [] rfl (Row.nil _ _ _ _) (cutA L lc f) (t - f) (lc - f) (((ns .i32 s.l).drop f).take (t - f)) rfl (by rw [ns_take_drop, ns_length, hdl.out, Nat.mul_one]) ((hsL.cutA lc f hnl).take (t - f)) (by rw [ns_take_drop]; exact ns_one _ _) (by unfold maxLen; omega) (by omega) ?_
       intro A1 d1 w1 hrow1 hk1 hf1
       rw [fp_zero] at hk1 hf1
       rw [ns_take_drop, List.nil_append] at hrow1
       simp only [Nat.zero_add] at hrow1 hf1)
    | (at_builtin; refine wpList_append_row rfl _ _ 22 rfl el (.slice none 0 0) 0 [] rfl (Row.nil _ _ _ _) A l.length c (ns .i32 l) rfl (by rw [ns_length, Nat.mul_one]) (hsA.keeps hk1 (by simp)) (ns_one _ _) (by unfold maxLen; omega) (by omega) ?_
       intro A2 d2 w2 hrow2 hk2 hf2
       rw [fp_zero] at hk2 hf2
       rw [List.nil_append] at hrow2
       simp only [Nat.zero_add] at hrow2 hf2
       have hk02 := hk1.trans hk2
       have c02 := hk02.cell c0 (by simp))
    | (at_builtin; refine wpList_append_row rfl _ _ 22 rfl el (.slice none 0 0) 0 [] rfl (Row.nil _ _ _ _) L f lc ((ns .i32 s.l).take f) rfl (by rw [List.length_take, ns_length]; omega) ((hsL.take f).keeps hk02 (by simp)) (fun u hu => ns_one .i32 s.l u (List.mem_of_mem_take hu)) (by unfold maxLen; omega) (by omega) ?_
       intro A3 d3 w3 hrow3 hk3 hf3
       rw [fp_zero] at hk3 hf3
       rw [List.nil_append] at hrow3
       simp only [Nat.zero_add] at hrow3 hf3
       have hk03 := hk02.trans hk3)
    | (at_builtin; refine wpList_append_row rfl _ _ 22 rfl el (.slice A3 f d3) f _ rfl hrow3 A l.length c (ns .i32 l) rfl (by rw [ns_length, Nat.mul_one]) (hsA.keeps hk03 (by simp)) (ns_one _ _) (by unfold maxLen; omega) (by omega) ?_
       intro A4 d4 w4 hrow4 hk4 hf4
       have hk04 := hk03.then hk4 (fun i hi => .inr ((hf3 i hi).elim (fun h => by cases h) (fun h => Nat.le_trans hk02.size h)))
       have c04 := hk04.cell c0 (by simp))
    | (at_builtin; refine wpList_append_row rfl _ _ 22 rfl el (.slice A4 (f + l.length) d4) (f + l.length) _ rfl hrow4 (cutA L lc t) (s.l.length - t) (lc - t) ((ns .i32 s.l).drop t) rfl (by rw [List.length_drop, ns_length, Nat.mul_one]) ((hsL.cutA lc t hnl).keeps hk04 (by simp)) (fun u hu => ns_one .i32 s.l u (List.mem_of_mem_drop hu)) (by unfold maxLen; omega) (by omega) ?_
       intro A5 d5 w5 hrow5 hk5 hf5))
  have hz0 : w.heap.size + 1 ≤ w0.heap.size := blk_lt hr0
  have hk24 : Keeps [] w2 w4 := hk3.then hk4 (fun i hi => .inr ((hf3 i hi).elim (fun h => by cases h) id))
  have hk25 : Keeps [] w2 w5 := hk24.then hk5 (fun i hi => .inr ((hf4 i hi).elim (fun h => (hf3 i h).elim (fun h => by cases h) id) (fun h => Nat.le_trans hk3.size h)))
  have hk05 : Keeps [] w0 w5 := hk02.trans hk25
  have hf5' : ∀ k, k ∈ fp (.slice A5 (f + l.length + (s.l.length - t)) d5) → w2.heap.size ≤ k := fun k hk => (hf5 k hk).elim (fun h => (hf4 k h).elim (fun h => (hf3 k h).elim (fun h => by cases h) id) (fun h => Nat.le_trans hk3.size h)) (fun h => Nat.le_trans hk24.size h)
  have hrw : r < w.heap.size := hlt r (by rw [HF.out]; simp)
  have hsp : (s.splice f t l).l.length = f + l.length + (s.l.length - t) := by rw [splice_len s f t l hft htl]; omega
  have hspl : (ns .i32 s.l).take f ++ ns .i32 l ++ (ns .i32 s.l).drop t = ns .i32 (s.splice f t l).l := by simp [BS.splice, ns, List.map_take, List.map_drop]
  rw [hspl] at hrow5
  have hfin : ∀ (W : World) (P M : Int), W.heap[r]? = some (.cells #[.slice A5 (f + l.length + (s.l.length - t)) d5, .int .i64 P, .int .i64 M] 44 (0, 0)) → Keeps [r, w.heap.size] w5 W → P = pointR s.point f t l.length → M = markR s.mark f t l.length →
      Did RAt w r F (s.splice f t l) ⟨f, (s.l.drop f).take (t - f), l⟩ 0 (.returned (.tuple #[.agg #[.int .i64 f, .slice A1 (t - f) d1, .slice A2 l.length d2], .int .i64 0])) W := by
    intro W P M hW hkW hP hM
    rw [pointR_eq _ _ _ _ (by omega)] at hP
    rw [markR_eq _ _ _ _ (by omega)] at hM
    subst hP hM
    have z1 := hk1.size
    have z2 := hk2.size
    have l1 := hrow1.fp_lt
    have l2 := hrow2.fp_lt
    have g1 : ∀ k, k ∈ fp (.slice A1 (t - f) d1) → w0.heap.size ≤ k := fun k hk => (hf1 k hk).elim (fun h => by cases h) id
    have g2 : ∀ k, k ∈ fp (.slice A2 l.length d2) → w1.heap.size ≤ k := fun k hk => (hf2 k hk).elim (fun h => by cases h) id
    have hd : Row W 21 1 (.slice A1 (t - f) d1) (t - f) (ns .i32 ((s.l.drop f).take (t - f))) :=
      ((hrow1.keeps hk2 (by simp)).keeps hk25 (by simp)).keeps hkW (fun k hk => by have := g1 k hk; simp; omega)
    have hi : Row W 21 1 (.slice A2 l.length d2) l.length (ns .i32 l) :=
      (hrow2.keeps hk25 (by simp)).keeps hkW (fun k hk => by have := g2 k hk; simp; omega)
    have ho : Row W 21 1 (.slice A5 (f + l.length + (s.l.length - t)) d5) (f + l.length + (s.l.length - t)) (ns .i32 (s.splice f t l).l) :=
      hrow5.keeps hkW (fun k hk => by have := hf5' k hk; simp; omega)
    have hkk : Keeps F w W := ((hk0.trans hk05).mono (fun _ h => by cases h)).then hkW (fun i hi => by
      simp at hi
      rcases hi with hi | hi
      · exact .inl (by rw [HF.out, hi]; simp)
      · exact .inr (by omega))
    refine ⟨A1, d1, A2, d2, by simp only [hdl.out], by simp only [hdl.out]; exact hd, hi, hkk, r :: fp (.slice A5 (f + l.length + (s.l.length - t)) d5), ?_, ⟨_, ⟨hW, ?_, ?_, ?_, ?_, ?_, ?_⟩, rfl⟩, ?_, ?_⟩
    · intro k hk
      rcases List.mem_cons.1 hk with h1 | h1
      · exact .inl (by rw [HF.out, h1]; simp)
      · have := hf5' k h1; exact .inr (by omega)
    · rw [hsp]; exact ho
    · rw [hsp]; omega
    · simp only [BS.splice, moved]; split <;> (try split) <;> omega
    · rw [hsp]; simp only [BS.splice, moved]; split <;> (try split) <;> omega
    · simp only [BS.splice, markMoved]; split <;> (try split) <;> omega
    · rw [hsp]; simp only [BS.splice, markMoved]; split <;> (try split) <;> omega
    · simp only [hdl.out]
      intro k hk
      have h1 := g1 k hk
      have h2 := l1 k hk
      exact ⟨by omega, fun h => by
        rcases List.mem_cons.1 h with h | h
        · omega
        · have := hf5' k h; omega⟩
    · simp only [hdl.out]
      intro k hk
      have h1 := g2 k hk
      have h2 := l2 k hk
      exact ⟨by omega, fun h => by
        rcases List.mem_cons.1 h with h | h
        · omega
        · have := hf5' k h; omega, fun h => by have := l1 k h; omega⟩
  have Hfin := Lib.hid hfin
  have hb5 := Lib.hid (hk05.blk hb1.blk (by simp))
  have hr5 := hk05.blk hr0 (by simp)
  obtain ⟨x0, x1, x2, y0, y1, y2⟩ := three hb5.out
  obtain ⟨u0, u1, u2, v0, v1, v2⟩ := three hr5
  have hrn : r ≠ w.heap.size := by omega
  have hrn2 : w.heap.size ≠ r := by omega
  clear hfin hspl hsp hf5' hk24 hk25 hk05 hrow1 hrow2 hrow3 hrow4 hrow5 hf1 hf2 hf3 hf4 hf5 hk1 hk2 hk3 hk4 hk5 hk02 hk03 hk04 c0 c1 c2 c02 c04 g0 g1 g2 hsL hsA hr5 hr0
  clear h0 hb1 hb0 hnl hflc htlc hk0
  have hP : ∃ P : Int, P = pointR s.point f t l.length := ⟨_, rfl⟩
  have hn4 : l.length ≤ 4096 := by omega
  have ht4 : (t : Int) ≤ 4096 := by omega
  have hft4 : (f : Int) ≤ (t : Int) := by omega
  have hf4 : (0 : Int) ≤ (f : Int) := by omega
  have hp4 : s.point ≤ 4096 := by omega
  have hm4 : s.mark ≤ 4096 := by omega
  have hp04 : -1 ≤ s.point := by omega
  have hend : ∀ P M : Int, P = pointR s.point f t l.length → M = markR s.mark f t l.length → ∀ u v x : Value,
      Did RAt w r F (s.splice f t l) ⟨f, (s.l.drop f).take (t - f), l⟩ 0 (.returned (.tuple #[.agg #[.int .i64 f, .slice A1 (t - f) d1, .slice A2 l.length d2], .int .i64 0]))
        ((((((w5.setCell ⟨r, 1, none⟩ (.int .i64 P)).setCell ⟨r, 2, none⟩ (.int .i64 M)).setCell ⟨r, 0, none⟩ (.slice A5 (f + l.length + (s.l.length - t)) d5)).setCell ⟨w.heap.size, 0, none⟩ u).setCell ⟨w.heap.size, 1, none⟩ v).setCell ⟨w.heap.size, 2, none⟩ x) := fun P M h1 h2 u v x =>
    Hfin.out _ P M (blk_far (blk_far (blk_far (blk_set (blk_set (blk_set hb5.out 1 (.int .i64 P)) 2 (.int .i64 M)) 0 (.slice A5 (f + l.length + (s.l.length - t)) d5)) _ hrn _) _ hrn _) _ hrn _)
      (((((((Keeps.refl _ _).setCell _ _ (.inl (by simp))).setCell _ _ (.inl (by simp))).setCell _ _ (.inl (by simp))).setCell _ _ (.inl (by simp))).setCell _ _ (.inl (by simp))).setCell _ _ (.inl (by simp))) h1 h2
  have Hend := Lib.hid hend
  clear hend Hfin hP
  have hpc : (f ≤ s.point ∧ s.point ≤ t) ∨ ((t : Int) < s.point ∧ f ≤ s.point) ∨ (s.point < f ∧ s.point ≤ t) := by omega
  have hmc : (f < s.mark ∧ s.mark ≤ t) ∨ ((t : Int) < s.mark ∧ f < s.mark) ∨ (s.mark ≤ f ∧ s.mark ≤ t) := by omega
  rcases hpc with ⟨p1, p2⟩ | ⟨p1, p2⟩ | ⟨p1, p2⟩ <;> rcases hmc with ⟨m1, m2⟩ | ⟨m1, m2⟩ | ⟨m1, m2⟩
  all_goals go_wp2_with (first
    | (go_at_call 55; (with_reducible refine (Moved_gt _ s.point f t l.length p1 hp04 hp4 hf4 hft4 ht4 hn4).mono ?_); rintro e w' ⟨rfl, rfl⟩)
    | (go_at_call 55; (with_reducible refine (Moved_le _ s.point f t l.length p2 hp04 hp4 hf4 hft4 ht4 hn4).mono ?_); rintro e w' ⟨rfl, rfl⟩)
    | (go_at_call 55; (with_reducible refine (Moved_gt _ s.mark f t l.length m1 hm0 hm4 hf4 hft4 ht4 hn4).mono ?_); rintro e w' ⟨rfl, rfl⟩)
    | (go_at_call 55; (with_reducible refine (Moved_le _ s.mark f t l.length m2 hm0 hm4 hf4 hft4 ht4 hn4).mono ?_); rintro e w' ⟨rfl, rfl⟩))
  all_goals refine bodyPost_ret (v := .tuple #[.agg #[.int .i64 f, .slice A1 (t - f) d1, .slice A2 l.length d2], .int .i64 0]) (by simp [results, Tryd.results20, go_sem, u0, u1, u2]) rfl ?_
  all_goals exact Hend.out _ _ (by unfold pointR; (repeat' split) <;> omega) (by unfold markR; (repeat' split) <;> omega) _ _ _
theorem RfReplace_calls (f t : Int) (l : List Int) (h : RAt w r F s) (hl : l.length ≤ 70368744177664) (hsrc : Src w A (ns .i32 l)) (hsF : ∀ a, A = some a → 0 < (ns .i32 l).length → a.block ∉ F) :
    Calls Tryd.prog 20 #[.pointer (some ⟨r, 0, none⟩), .int .i64 f, .int .i64 t, .slice A l.length c] w (Did RAt w r F (s.after f t l) (s.edit f t l) (s.err f t l.length)) := by
  by_cases hbad : f < 0 ∨ (s.l.length : Int) < f ∨ t < f ∨ (s.l.length : Int) < t
  · have he : s.err f t l.length = 70 := by simp only [BS.err, if_pos hbad]
    have e1 : s.after f t l = s := by simp [BS.after, he]
    have e2 : s.edit f t l = ⟨0, [], []⟩ := by simp [BS.edit, he]
    rw [he, e1, e2]
    by_cases hf : f < 0 ∨ (s.l.length : Int) < f
    · exact (RfReplace_f w r F s A c f t l.length h hf).mono fun e w' hr => didR_refused h hr
    · by_cases ht : t < 0 ∨ (s.l.length : Int) < t
      · exact (RfReplace_t w r F s A c f t l.length h (by omega) (by omega) ht).mono fun e w' hr => didR_refused h hr
      · obtain ⟨fn, rfl⟩ : ∃ fn : Nat, f = fn := ⟨f.toNat, by omega⟩
        obtain ⟨tn, rfl⟩ : ∃ tn : Nat, t = tn := ⟨t.toNat, by omega⟩
        exact (RfReplace_tf w r F s A c fn tn l.length h (by omega) (by omega) (by omega)).mono fun e w' hr => didR_refused h hr
  · obtain ⟨fn, rfl⟩ : ∃ fn : Nat, f = fn := ⟨f.toNat, by omega⟩
    obtain ⟨tn, rfl⟩ : ∃ tn : Nat, t = tn := ⟨t.toNat, by omega⟩
    by_cases hlong : 1024 < s.l.length - (tn - fn) + l.length
    · have he : s.err fn tn l.length = 3 := by simp only [BS.err, if_neg hbad, Int.toNat_natCast, if_pos hlong]
      have e1 : s.after fn tn l = s := by simp [BS.after, he]
      have e2 : s.edit fn tn l = ⟨0, [], []⟩ := by simp [BS.edit, he]
      rw [he, e1, e2]
      exact (RfReplace_long w r F s A c fn tn l.length h (by omega) (by omega) hl hlong).mono fun e w' hr => didR_refused h hr
    · have he : s.err fn tn l.length = 0 := by simp only [BS.err, if_neg hbad, Int.toNat_natCast, if_neg hlong]
      have e1 : s.after fn tn l = s.splice fn tn l := by simp [BS.after, he]
      have e2 : s.edit fn tn l = ⟨fn, (s.l.drop fn).take (tn - fn), l⟩ := by simp [BS.edit, he]
      rw [he, e1, e2]
      exact RfReplace_ok w r F s A c fn tn l h (by omega) (by omega) (by omega) hsrc hsF
end
end Go.Proofs.YtmnmdpgckefefaaDoor.Buf
