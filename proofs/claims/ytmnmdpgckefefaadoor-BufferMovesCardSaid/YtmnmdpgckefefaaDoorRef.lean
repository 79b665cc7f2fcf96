/- lanyardref07.Buffer: what its methods come to, over the same state as the buffer's. -/
import Derived.Test.YtmnmdpgckefefaaDoorBufMor5
namespace Go.Proofs.YtmnmdpgckefefaaDoor.Buf
open Go Go.RowKit Go.Proofs.YtmnmdpgckefefaaDoor.Rw Go.Proofs.YtmnmdpgckefefaaDoor.SlR Go.Proofs.YtmnmdpgckefefaaDoor.Words Go.Proofs.YtmnmdpgckefefaaDoor.OpArg

structure RIn (w : World) (r : Nat) (lv : Value) (s : BS) : Prop where
  blk : w.heap[r]? = some (.cells #[lv, .int .i64 s.point, .int .i64 s.mark] 44 (0, 0))
  row : Row w 21 1 lv s.l.length (ns .i32 s.l)
  short : s.l.length ≤ 1024
  pt0 : 0 ≤ s.point
  pt1 : s.point ≤ s.l.length
  mk0 : -1 ≤ s.mark
  mk1 : s.mark ≤ s.l.length
def RAt (w : World) (r : Nat) (F : List Nat) (s : BS) : Prop := ∃ lv, RIn w r lv s ∧ F = r :: fp lv
section
variable {w w' : World} {r : Nat} {lv : Value} {s : BS} {F : List Nat}
theorem RIn.b_r (h : RIn w r lv s) : r ∉ fp lv := fun hk => by
  obtain ⟨cur, hc⟩ := h.row.fp_type r hk
  exact blk_ne h.blk hc (by decide) rfl
theorem RIn.stays (h : RIn w r lv s) (hk : ∀ k, k ∈ r :: fp lv → w'.heap[k]? = w.heap[k]?) : RIn w' r lv s :=
  ⟨(hk r (by simp)).trans h.blk, h.row.stays fun k hm => hk k (by simp [hm]), h.short, h.pt0, h.pt1, h.mk0, h.mk1⟩
theorem RAt.lt (h : RAt w r F s) : ∀ k, k ∈ F → k < w.heap.size := by
  obtain ⟨lv, h, rfl⟩ := h
  intro k hk
  rcases List.mem_cons.1 hk with rfl | hk
  · exact blk_lt h.blk
  · exact h.row.fp_lt k hk
theorem RAt.stays (h : RAt w r F s) (hk : ∀ k, k ∈ F → w'.heap[k]? = w.heap[k]?) : RAt w' r F s := by
  obtain ⟨lv, h, rfl⟩ := h
  exact ⟨lv, h.stays hk, rfl⟩
theorem RAt.keeps {G : List Nat} (h : RAt w r F s) (k : Keeps G w w') (hd : ∀ i, i ∈ F → i ∉ G) : RAt w' r F s :=
  h.stays fun i hi => k.block i (h.lt i hi) (hd i hi)
theorem RAt.bounds (h : RAt w r F s) : s.l.length ≤ 1024 ∧ 0 ≤ s.point ∧ s.point ≤ s.l.length ∧ -1 ≤ s.mark ∧ s.mark ≤ s.l.length := by
  obtain ⟨lv, h, _⟩ := h
  exact ⟨h.short, h.pt0, h.pt1, h.mk0, h.mk1⟩
theorem BAt.bounds (h : BAt w r F s) : s.l.length ≤ 1024 ∧ 0 ≤ s.point ∧ s.point ≤ s.l.length ∧ -1 ≤ s.mark ∧ s.mark ≤ s.l.length := by
  obtain ⟨lv, N, fr, ub, xs, h, _⟩ := h
  exact ⟨h.short, h.pt0, h.pt1, h.mk0, h.mk1⟩
end
/-- An operation of the reference that answers a number and leaves a state. -/
def TurnedR (w : World) (b : Nat) (F : List Nat) (s' : BS) (code : Int) (e : Ending) (w' : World) : Prop :=
  e = .returned (.int .i64 code) ∧ Keeps F w w' ∧ ∃ F', (∀ k, k ∈ F' → k ∈ F ∨ w.heap.size ≤ k) ∧ RAt w' b F' s'
theorem TurnedR.same {w w' : World} {b : Nat} {F : List Nat} {s : BS} {code : Int} (h : RAt w b F s) (hk : Keeps [] w w') : TurnedR w b F s code (.returned (.int .i64 code)) w' :=
  ⟨rfl, hk.mono (fun _ h => by simp at h), F, fun k hk => .inl hk, h.keeps hk (by simp)⟩

def NewedR (w : World) (l : List Int) (e : Ending) (w' : World) : Prop :=
  ∃ b F, e = .returned (.tuple #[.pointer (some ⟨b, 0, none⟩), .int .i64 0]) ∧ RAt w' b F ⟨l, l.length, -1⟩ ∧ Keeps [] w w' ∧ ∀ k, k ∈ F → w.heap.size ≤ k
theorem RfNew_long (w : World) (A : Option Addr) (n c : Nat) (h : 1024 < n) (hn : n ≤ maxLen) :
    Calls Tryd.prog 16 #[.slice A n c] w fun e w' => e = .returned (.tuple #[.pointer none, .int .i64 3]) ∧ w = w' := by
  unfold maxLen at hn
  go_enter Tryd.func16, Tryd.ntmps16
  go_wp2
  go_ret2
  exact ⟨rfl, rfl⟩
set_option maxRecDepth 100000 in
theorem RfNew_ok (w : World) (A : Option Addr) (c : Nat) (l : List Int) (hs : Src w A (ns .i32 l)) (h : l.length ≤ 1024) :
    Calls Tryd.prog 16 #[.slice A l.length c] w (NewedR w l) := by
  go_enter Tryd.func16, Tryd.ntmps16
  go_wp2_with (at_builtin; refine wpList_append_row rfl _ _ 22 rfl el (.slice none 0 0) 0 [] rfl (Row.nil _ _ _ _) A l.length c (ns .i32 l) rfl (by rw [Nat.mul_one, ns_length]) hs (ns_one _ _) (by unfold maxLen; omega) (by omega) ?_; intro A1 c1 w1 hrow1 hk1 hf1; simp only [Nat.zero_add, List.nil_append] at hrow1 hf1)
  have hW := blk_new w1 (.cells #[.slice A1 l.length c1, .int .i64 l.length, .int .i64 (-1)] 44)
  have hkW := (Keeps.refl [] w1).alloc (.cells #[.slice A1 l.length c1, .int .i64 l.length, .int .i64 (-1)] 44)
  have hrowW := hrow1.keeps hkW (by simp)
  go_ret2
  rw [fp_zero] at hk1 hf1
  refine ⟨w1.heap.size, _, by simp, ⟨_, ⟨hW, hrowW, h, by simp, by simp, by simp, by simp⟩, rfl⟩, hk1.trans hkW, ?_⟩
  intro k hk
  have := hk1.size
  rcases List.mem_cons.1 hk with h1 | h1
  · omega
  · rcases hf1 k h1 with h2 | h2
    · simp at h2
    · exact h2

theorem Place_yes (w : World) (r : Nat) (F : List Nat) (s : BS) (a : Int) (h : RAt w r F s) (h1 : 0 ≤ a) (h2 : a ≤ s.l.length) :
    Calls Tryd.prog 54 #[.pointer (some ⟨r, 0, none⟩), .int .i64 a] w fun e w' => e = .returned (.bool true) ∧ w = w' := by
  obtain ⟨lv, h, _⟩ := h
  obtain ⟨c0, c1, c2, _⟩ := three h.blk
  obtain ⟨A, c, rfl, h3, h4⟩ := h.row.slice
  have hsh := h.short
  go_enter Tryd.func54, Tryd.ntmps54
  go_wp2
  go_ret
  exact ⟨rfl, rfl⟩
theorem Place_no (w : World) (r : Nat) (F : List Nat) (s : BS) (a : Int) (h : RAt w r F s) (h1 : a < 0 ∨ (s.l.length : Int) < a) :
    Calls Tryd.prog 54 #[.pointer (some ⟨r, 0, none⟩), .int .i64 a] w fun e w' => e = .returned (.bool false) ∧ w = w' := by
  obtain ⟨lv, h, _⟩ := h
  obtain ⟨c0, c1, c2, _⟩ := three h.blk
  obtain ⟨A, c, rfl, h3, h4⟩ := h.row.slice
  have hsh := h.short
  rcases h1 with h1 | h1
  · go_enter Tryd.func54, Tryd.ntmps54
    go_wp2
    go_ret
    exact ⟨rfl, rfl⟩
  · have h2 : 0 ≤ a := by omega
    go_enter Tryd.func54, Tryd.ntmps54
    go_wp2
    go_ret
    exact ⟨by show Ending.returned (.bool (decide (a ≤ (s.l.length : Int)))) = _; rw [decide_eq_false (by omega)], rfl⟩

set_option maxRecDepth 100000 in
theorem RfMove_calls (w : World) (r : Nat) (F : List Nat) (s : BS) (a : Int) (h : RAt w r F s) :
    Calls Tryd.prog 18 #[.pointer (some ⟨r, 0, none⟩), .int .i64 a] w (TurnedR w r F (s.move a) (s.moveErr a)) := by
  by_cases h1 : a < 0 ∨ (s.l.length : Int) < a
  · have e1 := Lib.hid (show s.move a = s by simp only [BS.move]; rcases h1 with h | h <;> simp [h])
    have e2 := Lib.hid (show s.moveErr a = 70 by simp only [BS.moveErr]; rcases h1 with h | h <;> simp [h])
    have H1 := Lib.hid h1; clear h1
    go_enter Tryd.func18, Tryd.ntmps18
    go_wp2_with (go_at_call 54; refine (Place_no _ r F s a h H1.out).mono ?_; rintro e w' ⟨rfl, rfl⟩)
    go_ret
    rw [e1.out, e2.out]
    exact TurnedR.same h (Keeps.refl _ _)
  · have g1 : 0 ≤ a := by omega
    have g2 : a ≤ s.l.length := by omega
    have e1 := Lib.hid (show s.move a = ⟨s.l, a, s.mark⟩ by simp only [BS.move]; rw [if_neg (by omega), if_neg (by omega)])
    have e2 := Lib.hid (show s.moveErr a = 0 by simp only [BS.moveErr]; rw [if_neg (by omega), if_neg (by omega)])
    have h0 := h
    obtain ⟨lv, hb, hF⟩ := h0
    have HF := Lib.hid hF; clear hF
    obtain ⟨c0, c1, c2, s0, s1, s2⟩ := three hb.blk
    clear h1
    go_enter Tryd.func18, Tryd.ntmps18
    go_wp2_with (go_at_call 54; refine (Place_yes _ r F s a h g1 g2).mono ?_; rintro e w' ⟨rfl, rfl⟩)
    go_ret
    rw [e1.out, e2.out]
    exact ⟨rfl, (Keeps.refl _ _).setCell _ _ (.inl (by rw [HF.out]; simp)), F, fun k hk => .inl hk, lv, ⟨blk_set hb.blk 1 _, hb.row.far _ _ hb.b_r, hb.short, g1, g2, hb.mk0, hb.mk1⟩, HF.out⟩

set_option maxRecDepth 100000 in
theorem RfSetMark_calls (w : World) (r : Nat) (F : List Nat) (s : BS) (a : Int) (h : RAt w r F s) (ha : In64 a) :
    Calls Tryd.prog 70 #[.pointer (some ⟨r, 0, none⟩), .int .i64 a] w (TurnedR w r F (s.setMark a) (s.markErr a)) := by
  obtain ⟨ha1, ha2⟩ := ha
  have h0 := h
  obtain ⟨lv, hb, hF⟩ := h0
  have HF := Lib.hid hF; clear hF
  obtain ⟨c0, c1, c2, s0, s1, s2⟩ := three hb.blk
  by_cases hm1 : a = -1
  · have e1 := Lib.hid (show s.setMark a = ⟨s.l, s.point, a⟩ by simp only [BS.setMark]; rw [if_neg (by omega), if_neg (by omega)])
    have e2 := Lib.hid (show s.markErr a = 0 by simp only [BS.markErr]; rw [if_neg (by omega), if_neg (by omega)])
    subst hm1
    go_enter Tryd.func70, Tryd.ntmps70
    go_wp2
    go_ret
    rw [e1.out, e2.out]
    exact ⟨rfl, (Keeps.refl _ _).setCell _ _ (.inl (by rw [HF.out]; simp)), F, fun k hk => .inl hk, lv, ⟨blk_set hb.blk 2 _, hb.row.far _ _ hb.b_r, hb.short, hb.pt0, hb.pt1, by simp, by simp only; omega⟩, HF.out⟩
  · have hd : decide (a = -1) = false := by simpa using hm1
    by_cases h1 : a < 0 ∨ (s.l.length : Int) < a
    · have e1 := Lib.hid (show s.setMark a = s by simp only [BS.setMark]; rcases h1 with h | h <;> simp [h]; omega)
      have e2 := Lib.hid (show s.markErr a = 70 by simp only [BS.markErr]; rcases h1 with h | h <;> simp [h]; omega)
      have H1 := Lib.hid h1; clear h1
      go_enter Tryd.func70, Tryd.ntmps70
      go_wp2_with (go_at_call 54; refine (Place_no _ r F s a h H1.out).mono ?_; rintro e w' ⟨rfl, rfl⟩)
      go_ret
      rw [e1.out, e2.out]
      exact TurnedR.same h (Keeps.refl _ _)
    · have g1 : 0 ≤ a := by omega
      have g2 : a ≤ s.l.length := by omega
      have e1 := Lib.hid (show s.setMark a = ⟨s.l, s.point, a⟩ by simp only [BS.setMark]; rw [if_neg (by omega), if_neg (by omega)])
      have e2 := Lib.hid (show s.markErr a = 0 by simp only [BS.markErr]; rw [if_neg (by omega), if_neg (by omega)])
      clear h1
      go_enter Tryd.func70, Tryd.ntmps70
      go_wp2_with (go_at_call 54; refine (Place_yes _ r F s a h g1 g2).mono ?_; rintro e w' ⟨rfl, rfl⟩)
      go_ret
      rw [e1.out, e2.out]
      exact ⟨rfl, (Keeps.refl _ _).setCell _ _ (.inl (by rw [HF.out]; simp)), F, fun k hk => .inl hk, lv, ⟨blk_set hb.blk 2 _, hb.row.far _ _ hb.b_r, hb.short, hb.pt0, hb.pt1, by simp only; omega, g2⟩, HF.out⟩

set_option maxRecDepth 100000 in
theorem RfSwap_calls (w : World) (r : Nat) (F : List Nat) (s : BS) (h : RAt w r F s) :
    Calls Tryd.prog 71 #[.pointer (some ⟨r, 0, none⟩)] w (TurnedR w r F s.swap s.swapErr) := by
  have h0 := h
  obtain ⟨lv, hb, hF⟩ := h0
  have HF := Lib.hid hF; clear hF
  obtain ⟨c0, c1, c2, s0, s1, s2⟩ := three hb.blk
  by_cases h1 : s.mark < 0
  · have e1 := Lib.hid (show s.swap = s by simp [BS.swap, h1])
    have e2 := Lib.hid (show s.swapErr = 6 by simp [BS.swapErr, h1])
    go_enter Tryd.func71, Tryd.ntmps71
    go_wp2
    go_ret
    rw [e1.out, e2.out]
    exact TurnedR.same h (Keeps.refl _ _)
  · have e1 := Lib.hid (show s.swap = ⟨s.l, s.mark, s.point⟩ by simp [BS.swap, h1])
    have e2 := Lib.hid (show s.swapErr = 0 by simp [BS.swapErr, h1])
    have hfin : ∀ W : World, Keeps [r] w W → W.heap[r]? = some (.cells #[lv, .int .i64 s.mark, .int .i64 s.point] 44 (0, 0)) → TurnedR w r F s.swap s.swapErr (.returned (.int .i64 0)) W := by
      intro W hk hblk
      rw [e1.out, e2.out]
      have hr := hb.row.keeps hk (fun i hi hm => by simp at hm; subst hm; exact hb.b_r hi)
      exact ⟨rfl, hk.mono (fun k h => .inl (by rw [HF.out]; simp at h; simp [h])), F, fun k hk => .inl hk, lv, ⟨hblk, hr, hb.short, by simpa using h1, hb.mk1, by have := hb.pt0; simp only; omega, hb.pt1⟩, HF.out⟩
    have Hfin := Lib.hid hfin; clear hfin
    have hk0 := Keeps.refl [r] w
    have hblk := Lib.hid hb.blk
    go_enter Tryd.func71, Tryd.ntmps71
    go_wp2_with fail
    go_region
    all_goals go_wp2
    all_goals go_ret
    all_goals exact Hfin.out _ (((hk0.setCell _ _ (.inl (by simp))).setCell _ _ (.inl (by simp))).drew) (show (((w.setCell ⟨r, 1, none⟩ (.int .i64 s.mark)).setCell ⟨r, 2, none⟩ (.int .i64 s.point))).heap[r]? = _ from blk_set (blk_set hblk.out 1 _) 2 _)

theorem Moved_calls (w : World) (p f t : Int) (n : Nat) (hp0 : -1 ≤ p) (hp : p ≤ 4096) (hf0 : 0 ≤ f) (hft : f ≤ t) (ht : t ≤ 4096) (hn : n ≤ 4096) :
    Calls Tryd.prog 55 #[.int .i64 p, .int .i64 f, .int .i64 t, .int .i64 n] w fun e w' => e = .returned (.int .i64 (if t < p then p + n - (t - f) else p)) ∧ w = w' := by
  by_cases h : t < p
  · rw [if_pos h]
    go_enter Tryd.func55, Tryd.ntmps55
    go_wp2
    go_ret
    exact ⟨rfl, rfl⟩
  · rw [if_neg h]
    go_enter Tryd.func55, Tryd.ntmps55
    go_wp2
    go_ret
    exact ⟨rfl, rfl⟩
end Go.Proofs.YtmnmdpgckefefaaDoor.Buf
