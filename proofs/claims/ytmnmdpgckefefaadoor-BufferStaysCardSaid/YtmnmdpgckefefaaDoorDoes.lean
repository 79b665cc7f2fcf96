/- lanyardlaw07.does: an operation, by both. -/
import Derived.Test.YtmnmdpgckefefaaDoorRef5
import Derived.Test.YtmnmdpgckefefaaDoorOpV
import Derived.Deep.RegionWith
namespace Go.Proofs.YtmnmdpgckefefaaDoor.Buf
open Go Go.RowKit Go.Proofs.YtmnmdpgckefefaaDoor.Rw Go.Proofs.YtmnmdpgckefefaaDoor.SlR Go.Proofs.YtmnmdpgckefefaaDoor.Words Go.Proofs.YtmnmdpgckefefaaDoor.OpArg

/-- An operation's lists lie below. -/
def Low (base : Nat) (o : OpV) : Prop := (∀ a, o.A = some a → 0 < o.l.length → a.block < base) ∧ (∀ a, o.Ad = some a → 0 < o.ld.length → a.block < base) ∧ (∀ a, o.Ai = some a → 0 < o.li.length → a.block < base)
def BS.step (s : BS) (o : OpV) : BS :=
  if o.kd = 0 then s.after s.point s.point o.l else if o.kd = 1 then s.after o.f o.t [] else if o.kd = 2 then s.after o.f o.t o.l else if o.kd = 3 then s.apply ⟨o.at_, o.ld, o.li⟩
  else if o.kd = 4 then s.move o.f else if o.kd = 5 then s.setMark o.f else if o.kd = 6 then s.swap else s
/-- Both say the same, and stand as one state. -/
def Both (w : World) (b r : Nat) (F G : List Nat) (s : BS) (e : Ending) (w' : World) : Prop :=
  e = .returned (.bool true) ∧ Keeps (F ++ G) w w' ∧ ∃ F' G', (∀ k, k ∈ F' → k ∈ F ∨ w.heap.size ≤ k) ∧ (∀ k, k ∈ G' → k ∈ G ∨ w.heap.size ≤ k) ∧ (∀ k, k ∈ F' → k ∉ G') ∧ BAt w' b F' s ∧ RAt w' r G' s
theorem both_mk {w w0 w1 w2 W : World} {b r : Nat} {F G F1 G1 : List Nat} {s : BS} (hFG : ∀ k, k ∈ F → k ∉ G) (hFl : ∀ k, k ∈ F → k < w.heap.size) (hGl : ∀ k, k ∈ G → k < w.heap.size) (h0 : Keeps [] w w0) (hF1 : ∀ k, k ∈ F1 → k ∈ F ∨ w0.heap.size ≤ k) (h1 : Keeps F w0 w1) (hb1 : BAt w1 b F1 s)
    (h2 : Keeps [] w1 w2 ∨ ∃ n, w.heap.size ≤ n ∧ n < w0.heap.size ∧ Keeps [n] w1 w2) (hG1 : ∀ k, k ∈ G1 → k ∈ G ∨ w2.heap.size ≤ k) (h3 : Keeps G w2 W) (hb : BAt W b F1 s) (hr : RAt W r G1 s) {W' : World} (h4 : Keeps [] W W' ∨ ∃ n, w.heap.size ≤ n ∧ n < w0.heap.size ∧ Keeps [n] W W') {W2 : World} (h5 : Keeps [] W' W2) : Both w b r F G s (.returned (.bool true)) W2 := by
  have z0 := h0.size
  have z1 := h1.size
  have z3 := h3.size
  have z2 : w1.heap.size ≤ w2.heap.size := by rcases h2 with h | ⟨_, _, _, h⟩ <;> exact h.size
  have hl1 := hb1.lt
  have k1 : Keeps F w w1 := (h0.mono (fun _ h => by cases h)).trans h1
  have k2 : Keeps F w w2 := by
    rcases h2 with h | ⟨n, q1, _, h⟩
    · exact k1.then h (fun i hi => by cases hi)
    · exact k1.then h (fun i hi => by simp at hi; exact .inr (by omega))
  have k3 : Keeps (F ++ G) w W := (k2.mono (fun k hk => .inl (by simp [hk]))).then h3 (fun i hi => .inl (by simp [hi]))
  have dd : ∀ n, w.heap.size ≤ n → n < w0.heap.size → n ∉ F1 ∧ n ∉ G1 := fun n q1 q2 => ⟨fun hm => by
      rcases hF1 n hm with h | h
      · have := hFl n h; omega
      · omega, fun hm => by
      rcases hG1 n hm with h | h
      · have := hGl n h; omega
      · omega⟩
  have k4 : Keeps (F ++ G) w W' ∧ BAt W' b F1 s ∧ RAt W' r G1 s := by
    rcases h4 with h | ⟨n, q1, q2, h⟩
    · exact ⟨k3.then h (fun i hi => by cases hi), hb.keeps h (by simp), hr.keeps h (by simp)⟩
    · exact ⟨k3.then h (fun i hi => by simp at hi; exact .inr (by omega)), hb.keeps h (fun i hi hm => by simp at hm; subst hm; exact (dd i q1 q2).1 hi), hr.keeps h (fun i hi hm => by simp at hm; subst hm; exact (dd i q1 q2).2 hi)⟩
  refine ⟨rfl, k4.1.then h5 (fun i hi => by cases hi), F1, G1, fun k hk => ?_, fun k hk => ?_, fun k hk hg => ?_, k4.2.1.keeps h5 (by simp), k4.2.2.keeps h5 (by simp)⟩
  · rcases hF1 k hk with h | h
    · exact .inl h
    · exact .inr (by omega)
  · rcases hG1 k hk with h | h
    · exact .inl h
    · exact .inr (by omega)
  · have := hl1 k hk
    rcases hG1 k hg with h | h
    · rcases hF1 k hk with h' | h'
      · exact hFG k h' h
      · have := hGl k h; omega
    · omega
section
variable (w : World) (b r : Nat) (F G : List Nat) (s : BS) (base : Nat)

theorem edit_del (s : BS) (f t : Int) (l : List Int) (h : s.l.length ≤ 1024) : (s.edit f t l).del.length ≤ 70368744177664 := by
  unfold BS.edit
  split
  · simp only [List.length_take, List.length_drop]; omega
  · simp
theorem edit_ins (s : BS) (f t : Int) (l : List Int) (h : l.length ≤ 70368744177664) : (s.edit f t l).ins.length ≤ 70368744177664 := by
  unfold BS.edit
  split
  · exact h
  · simp
set_option maxRecDepth 100000 in
set_option maxHeartbeats 4000000 in
theorem does_insert (f t a : Int) (A : Option Addr) (c : Nat) (l : List Int) (Ad : Option Addr) (cd : Nat) (ld : List Int) (Ai : Option Addr) (ci : Nat) (li : List Int) (hb : BAt w b F s) (hr : RAt w r G s) (hFG : ∀ k, k ∈ F → k ∉ G) (hFb : ∀ k, k ∈ F → base ≤ k) (hGb : ∀ k, k ∈ G → base ≤ k) (ho : (OpV.mk 0 f t a A c l Ad cd ld Ai ci li).Ok w) (hlo : Low base (OpV.mk 0 f t a A c l Ad cd ld Ai ci li)) :
    Calls Tryd.prog 48 #[.pointer (some ⟨b, 0, none⟩), .pointer (some ⟨r, 0, none⟩), .agg #[.int .i64 0, .int .i64 f, .int .i64 t, .slice A l.length c, .int .i64 a, .slice Ad ld.length cd, .slice Ai li.length ci]] w (Both w b r F G (s.after s.point s.point l)) := by
  obtain ⟨_, hf, ht, ha, s0, s1, s2, wt, wd, wi⟩ := ho
  obtain ⟨l0, l1, l2⟩ := hlo
  simp only at hf ht ha s0 s1 s2 wt wd wi l0 l1 l2
  unfold reachBytes at wt wd wi
  have hlt := hb.lt
  have hltr := hr.lt
  have hk0 := (((Keeps.refl [] w).alloc (.cells #[.int .i64 0, .int .i64 f, .int .i64 t, .slice A l.length c, .int .i64 a, .slice Ad ld.length cd, .slice Ai li.length ci] 26)).alloc (.cells #[.int .i64 0, .slice none 0 0, .slice none 0 0] 24)).alloc (.cells #[.int .i64 0, .slice none 0 0, .slice none 0 0] 24)
  have hop := blk_alloc (blk_alloc (blk_new w (.cells #[.int .i64 0, .int .i64 f, .int .i64 t, .slice A l.length c, .int .i64 a, .slice Ad ld.length cd, .slice Ai li.length ci] 26)) (.cells #[.int .i64 0, .slice none 0 0, .slice none 0 0] 24)) (.cells #[.int .i64 0, .slice none 0 0, .slice none 0 0] 24)
  have hx := blk_alloc (blk_new (w.alloc (.cells #[.int .i64 0, .int .i64 f, .int .i64 t, .slice A l.length c, .int .i64 a, .slice Ad ld.length cd, .slice Ai li.length ci] 26)) (.cells #[.int .i64 0, .slice none 0 0, .slice none 0 0] 24)) (.cells #[.int .i64 0, .slice none 0 0, .slice none 0 0] 24)
  have hy := blk_new ((w.alloc (.cells #[.int .i64 0, .int .i64 f, .int .i64 t, .slice A l.length c, .int .i64 a, .slice Ad ld.length cd, .slice Ai li.length ci] 26)).alloc (.cells #[.int .i64 0, .slice none 0 0, .slice none 0 0] 24)) (.cells #[.int .i64 0, .slice none 0 0, .slice none 0 0] 24)
  have e1 : (w.alloc (.cells #[.int .i64 0, .int .i64 f, .int .i64 t, .slice A l.length c, .int .i64 a, .slice Ad ld.length cd, .slice Ai li.length ci] 26)).heap.size = w.heap.size + 1 := by simp
  have e2 : ((w.alloc (.cells #[.int .i64 0, .int .i64 f, .int .i64 t, .slice A l.length c, .int .i64 a, .slice Ad ld.length cd, .slice Ai li.length ci] 26)).alloc (.cells #[.int .i64 0, .slice none 0 0, .slice none 0 0] 24)).heap.size = w.heap.size + 2 := by simp
  rw [e1] at hx
  rw [e2] at hy
  have hz0 : w.heap.size + 3 ≤ (((w.alloc (.cells #[.int .i64 0, .int .i64 f, .int .i64 t, .slice A l.length c, .int .i64 a, .slice Ad ld.length cd, .slice Ai li.length ci] 26)).alloc (.cells #[.int .i64 0, .slice none 0 0, .slice none 0 0] 24)).alloc (.cells #[.int .i64 0, .slice none 0 0, .slice none 0 0] 24)).heap.size := by simp
  clear e1 e2
  go_enter Tryd.func48, Tryd.ntmps48
  go_wp2_with fail
  generalize (((w.alloc (.cells #[.int .i64 0, .int .i64 f, .int .i64 t, .slice A l.length c, .int .i64 a, .slice Ad ld.length cd, .slice Ai li.length ci] 26)).alloc (.cells #[.int .i64 0, .slice none 0 0, .slice none 0 0] 24)).alloc (.cells #[.int .i64 0, .slice none 0 0, .slice none 0 0] 24)) = w0 at *
  have hb0 := hb.keeps hk0 (by simp)
  have hr0 := hr.keeps hk0 (by simp)
  have qo := fun i => blk_cell hop i
  have o0 := qo 0
  have o1 := qo 1
  have o2 := qo 2
  have o3 := qo 3
  have o4 := qo 4
  have o5 := qo 5
  have o6 := qo 6
  clear qo
  obtain ⟨x0, x1, x2, xf0, xf1, xf2⟩ := three hx
  obtain ⟨y0, y1, y2, yf0, yf1, yf2⟩ := three hy
  have nF : ∀ n, w.heap.size ≤ n → n ∉ F := fun n hn hm => by have := hlt n hm; omega
  have nG : ∀ n, w.heap.size ≤ n → n ∉ G := fun n hn hm => by have := hltr n hm; omega
  refine (BInsert_calls w0 b F s A c l hb0 (by omega) (s0.keeps hk0 (by simp)) (fun a ha h0 hm => by have := hFb _ hm; have := l0 a ha (by rwa [ns_length] at h0); omega)).mono ?_
  rintro e w1 ⟨Xd, xd, Xi, xi, rfl, hd1, hi1, hk1, F1, hF1, hb1, hfd1, hfi1⟩
  have z1 := hk1.size
  have hl1 := hb1.lt
  have hr1 := hr0.keeps hk1 (fun i hi hm => hFG i hm hi)
  have hop1 := hk1.blk hop (nF _ (by omega))
  have hx1 := hk1.blk hx (nF _ (by omega))
  have hy1 := hk1.blk hy (nF _ (by omega))
  have hd1l := hd1.fp_lt
  have hi1l := hi1.fp_lt
  generalize hE : (s.edit s.point s.point l) = E at *
  generalize hC : (s.err s.point s.point l.length) = code at *
  clear x0 x1 x2 xf0 xf1 xf2 y0 y1 y2 yf0 yf1 yf2 o0 o1 o2 o3 o4 o5 o6
  obtain ⟨x0, x1, x2, xf0, xf1, xf2⟩ := three hx1
  have HE := Lib.hid hE
  have HC := Lib.hid hC
  clear hE hC
  go_upto_region 6 with fail
  have hkx : Keeps [w.heap.size + 1] w1 (((w1.setCell ⟨w.heap.size + 1, 0, none⟩ (.int .i64 E.at_)).setCell ⟨w.heap.size + 1, 1, none⟩ (.slice Xd E.del.length xd)).setCell ⟨w.heap.size + 1, 2, none⟩ (.slice Xi E.ins.length xi)) :=
    (((Keeps.refl _ w1).setCell _ _ (.inl (by simp))).setCell _ _ (.inl (by simp))).setCell _ _ (.inl (by simp))
  have hx2 : (((w1.setCell ⟨w.heap.size + 1, 0, none⟩ (.int .i64 E.at_)).setCell ⟨w.heap.size + 1, 1, none⟩ (.slice Xd E.del.length xd)).setCell ⟨w.heap.size + 1, 2, none⟩ (.slice Xi E.ins.length xi)).heap[w.heap.size + 1]? = some (.cells #[.int .i64 E.at_, .slice Xd E.del.length xd, .slice Xi E.ins.length xi] 24 (0, 0)) :=
    blk_set (blk_set (blk_set hx1 0 _) 1 _) 2 _
  generalize (((w1.setCell ⟨w.heap.size + 1, 0, none⟩ (.int .i64 E.at_)).setCell ⟨w.heap.size + 1, 1, none⟩ (.slice Xd E.del.length xd)).setCell ⟨w.heap.size + 1, 2, none⟩ (.slice Xi E.ins.length xi)) = w2 at *
  clear x0 x1 x2 xf0 xf1 xf2
  have hkd := hkx.drew
  have z2 := hkd.size
  have hF1n : ∀ n, w.heap.size ≤ n → n < w0.heap.size → n ∉ F1 := fun n h1 h2 hm => by
    rcases hF1 n hm with h | h
    · have := hlt n h; omega
    · omega
  have hb2 := hb1.keeps hkd (fun i hi hm => by simp at hm; subst hm; exact hF1n _ (by omega) (by omega) hi)
  have hr2 := hr1.keeps hkd (fun i hi hm => by simp at hm; subst hm; exact nG _ (by omega) hi)
  have hop2 := hkd.blk hop1 (by simp)
  have hx2d : w2.drew.heap[w.heap.size + 1]? = _ := hx2
  have hy2 := hkd.blk hy1 (by simp)
  have hd2 := hd1.keeps hkd (fun i hi hm => by have := (hfd1 i hi).1; simp at hm; omega)
  have hi2 := hi1.keeps hkd (fun i hi hm => by have := (hfi1 i hi).1; simp at hm; omega)
  have hkd' := hkx
  clear hkd hb2 hr2 hop2 hx2d hy2 hd2 hi2 z2
  have hkd := hkd'
  have z2 := hkd.size
  have hb2 := hb1.keeps hkd (fun i hi hm => by simp at hm; subst hm; exact hF1n _ (by omega) (by omega) hi)
  have hr2 := hr1.keeps hkd (fun i hi hm => by simp at hm; subst hm; exact nG _ (by omega) hi)
  have hop2 := hkd.blk hop1 (by simp)
  have hx2d : w2.heap[w.heap.size + 1]? = _ := hx2
  have hy2 := hkd.blk hy1 (by simp)
  have hd2 := hd1.keeps hkd (fun i hi hm => by have := (hfd1 i hi).1; simp at hm; omega)
  have hi2 := hi1.keeps hkd (fun i hi hm => by have := (hfi1 i hi).1; simp at hm; omega)
  have o1 := blk_cell hop2 1
  have o2 := blk_cell hop2 2
  have o3 := blk_cell hop2 3
  generalize hw3 : w2 = w3 at *
  clear hw3
  have hsA := (s0.keeps hk0 (by simp)).keeps hk1 (fun a ha h0 hm => by have := hFb _ hm; have := l0 a ha (by rwa [ns_length] at h0); omega)
  have hsA3 := hsA.keeps hkd (fun a ha h0 hm => by have := l0 a ha (by rwa [ns_length] at h0); have := Src.lt s0 a ha h0; simp at hm; omega)
  obtain ⟨L, lc, r0, r1, r2, _⟩ := hr2.cell0
  have hkdd := (Keeps.refl [] w3).drew
  have hy3 := hkdd.blk hy2 (by simp)
  have nGn := nG (w.heap.size + 2) (by omega)
  have hC2 := RfReplace_calls w3.drew r G s A c s.point s.point l (hr2.keeps hkdd (by simp)) (by omega) (hsA3.keeps hkdd (by simp)) (fun a ha h0 hm => by have := hGb _ hm; have := l0 a ha (by rwa [ns_length] at h0); omega)
  rw [HE.out, HC.out] at hC2
  go_region_with (go_at_call 20; refine hC2.mono ?_; rintro e w4 ⟨Yd, yd, Yi, yi, rfl, hd4, hi4, hk4', G4, hG4, hr4, hfd4, hfi4⟩; have hy4' := hk4'.blk hy3 nGn; obtain ⟨y0, y1, y2, yf0, yf1, yf2⟩ := three hy4')
  all_goals
    have hk4 := (hkdd.mono (fun _ h => by cases h)).trans hk4'
    have hzd : w3.heap.size ≤ w3.drew.heap.size := Nat.le_refl _
    have z4 := hk4.size
    have hb4 := hb2.keeps hk4 (fun i hi hm => by
      rcases hF1 i hi with h | h
      · exact hFG i h hm
      · have := hltr i hm; have := hk0.size; omega)
    have hx4 := hk4.blk hx2d (nG _ (by omega))
    have hy4 := hk4.blk hy2 (nG _ (by omega))
    have hdX := hd2.keeps hk4 (fun i hi hm => by have := (hfd1 i hi).1; have := hltr i hm; have := hk0.size; omega)
    have hiX := hi2.keeps hk4 (fun i hi hm => by have := (hfi1 i hi).1; have := hltr i hm; have := hk0.size; omega)
    obtain ⟨y0, y1, y2, yf0, yf1, yf2⟩ := three hy4
    obtain ⟨x0, x1, x2, xf0, xf1, xf2⟩ := three hx4
    have hne : w.heap.size + 1 ≠ w.heap.size + 2 := by omega
    have hne2 : w.heap.size + 2 ≠ w.heap.size + 1 := by omega
    have hky : Keeps [w.heap.size + 2] w4 (((w4.setCell ⟨w.heap.size + 2, 0, none⟩ (.int .i64 E.at_)).setCell ⟨w.heap.size + 2, 1, none⟩ (.slice Yd E.del.length yd)).setCell ⟨w.heap.size + 2, 2, none⟩ (.slice Yi E.ins.length yi)) :=
      (((Keeps.refl _ w4).setCell _ _ (.inl (by simp))).setCell _ _ (.inl (by simp))).setCell _ _ (.inl (by simp))
    have hdX5 := hdX.keeps hky (fun i hi hm => by have := (hfd1 i hi).1; simp at hm; omega)
    have hiX5 := hiX.keeps hky (fun i hi hm => by have := (hfi1 i hi).1; simp at hm; omega)
    have hdY5 := hd4.keeps hky (fun i hi hm => by have := (hfd4 i hi).1; simp at hm; omega)
    have hiY5 := hi4.keeps hky (fun i hi hm => by have := (hfi4 i hi).1; simp at hm; omega)
    have hEd : E.del.length ≤ 70368744177664 := by rw [← HE.out]; exact edit_del s _ _ _ hb.bounds.1
    have hEi : E.ins.length ≤ 70368744177664 := by rw [← HE.out]; exact edit_ins s _ _ _ (by first | omega | simp)
    go_wp2_with fail
    refine (SameEdit_true _ Xd Xi Yd Yi xd xi yd yi E.del E.ins E.at_ (row_src hdX5) (row_src hiX5) (row_src hdY5) (row_src hiY5) hEd hEi).mono ?_
    rintro e w6 ⟨rfl, hk6⟩
    go_wp2
    go_ret
    exact both_mk hFG hlt hltr hk0 hF1 hk1 hb1 (.inr ⟨w.heap.size + 1, by omega, by omega, hkd⟩) hG4 hk4 hb4 hr4 (.inr ⟨w.heap.size + 2, by omega, by omega, hky⟩) hk6

set_option maxRecDepth 100000 in
set_option maxHeartbeats 4000000 in
theorem does_delete (f t a : Int) (A : Option Addr) (c : Nat) (l : List Int) (Ad : Option Addr) (cd : Nat) (ld : List Int) (Ai : Option Addr) (ci : Nat) (li : List Int) (hb : BAt w b F s) (hr : RAt w r G s) (hFG : ∀ k, k ∈ F → k ∉ G) (_hFb : ∀ k, k ∈ F → base ≤ k) (_hGb : ∀ k, k ∈ G → base ≤ k) (ho : (OpV.mk 1 f t a A c l Ad cd ld Ai ci li).Ok w) (hlo : Low base (OpV.mk 1 f t a A c l Ad cd ld Ai ci li)) :
    Calls Tryd.prog 48 #[.pointer (some ⟨b, 0, none⟩), .pointer (some ⟨r, 0, none⟩), .agg #[.int .i64 1, .int .i64 f, .int .i64 t, .slice A l.length c, .int .i64 a, .slice Ad ld.length cd, .slice Ai li.length ci]] w (Both w b r F G (s.after f t [])) := by
  obtain ⟨_, hf, ht, ha, s0, s1, s2, wt, wd, wi⟩ := ho
  obtain ⟨l0, l1, l2⟩ := hlo
  simp only at hf ht ha s0 s1 s2 wt wd wi l0 l1 l2
  unfold reachBytes at wt wd wi
  have hlt := hb.lt
  have hltr := hr.lt
  have hk0 := (((Keeps.refl [] w).alloc (.cells #[.int .i64 1, .int .i64 f, .int .i64 t, .slice A l.length c, .int .i64 a, .slice Ad ld.length cd, .slice Ai li.length ci] 26)).alloc (.cells #[.int .i64 0, .slice none 0 0, .slice none 0 0] 24)).alloc (.cells #[.int .i64 0, .slice none 0 0, .slice none 0 0] 24)
  have hop := blk_alloc (blk_alloc (blk_new w (.cells #[.int .i64 1, .int .i64 f, .int .i64 t, .slice A l.length c, .int .i64 a, .slice Ad ld.length cd, .slice Ai li.length ci] 26)) (.cells #[.int .i64 0, .slice none 0 0, .slice none 0 0] 24)) (.cells #[.int .i64 0, .slice none 0 0, .slice none 0 0] 24)
  have hx := blk_alloc (blk_new (w.alloc (.cells #[.int .i64 1, .int .i64 f, .int .i64 t, .slice A l.length c, .int .i64 a, .slice Ad ld.length cd, .slice Ai li.length ci] 26)) (.cells #[.int .i64 0, .slice none 0 0, .slice none 0 0] 24)) (.cells #[.int .i64 0, .slice none 0 0, .slice none 0 0] 24)
  have hy := blk_new ((w.alloc (.cells #[.int .i64 1, .int .i64 f, .int .i64 t, .slice A l.length c, .int .i64 a, .slice Ad ld.length cd, .slice Ai li.length ci] 26)).alloc (.cells #[.int .i64 0, .slice none 0 0, .slice none 0 0] 24)) (.cells #[.int .i64 0, .slice none 0 0, .slice none 0 0] 24)
  have e1 : (w.alloc (.cells #[.int .i64 1, .int .i64 f, .int .i64 t, .slice A l.length c, .int .i64 a, .slice Ad ld.length cd, .slice Ai li.length ci] 26)).heap.size = w.heap.size + 1 := by simp
  have e2 : ((w.alloc (.cells #[.int .i64 1, .int .i64 f, .int .i64 t, .slice A l.length c, .int .i64 a, .slice Ad ld.length cd, .slice Ai li.length ci] 26)).alloc (.cells #[.int .i64 0, .slice none 0 0, .slice none 0 0] 24)).heap.size = w.heap.size + 2 := by simp
  rw [e1] at hx
  rw [e2] at hy
  have hz0 : w.heap.size + 3 ≤ (((w.alloc (.cells #[.int .i64 1, .int .i64 f, .int .i64 t, .slice A l.length c, .int .i64 a, .slice Ad ld.length cd, .slice Ai li.length ci] 26)).alloc (.cells #[.int .i64 0, .slice none 0 0, .slice none 0 0] 24)).alloc (.cells #[.int .i64 0, .slice none 0 0, .slice none 0 0] 24)).heap.size := by simp
  clear e1 e2
  go_enter Tryd.func48, Tryd.ntmps48
  go_wp2_with fail
  generalize (((w.alloc (.cells #[.int .i64 1, .int .i64 f, .int .i64 t, .slice A l.length c, .int .i64 a, .slice Ad ld.length cd, .slice Ai li.length ci] 26)).alloc (.cells #[.int .i64 0, .slice none 0 0, .slice none 0 0] 24)).alloc (.cells #[.int .i64 0, .slice none 0 0, .slice none 0 0] 24)) = w0 at *
  have hb0 := hb.keeps hk0 (by simp)
  have hr0 := hr.keeps hk0 (by simp)
  have qo := fun i => blk_cell hop i
  have o0 := qo 0
  have o1 := qo 1
  have o2 := qo 2
  have o3 := qo 3
  have o4 := qo 4
  have o5 := qo 5
  have o6 := qo 6
  clear qo
  obtain ⟨x0, x1, x2, xf0, xf1, xf2⟩ := three hx
  obtain ⟨y0, y1, y2, yf0, yf1, yf2⟩ := three hy
  have nF : ∀ n, w.heap.size ≤ n → n ∉ F := fun n hn hm => by have := hlt n hm; omega
  have nG : ∀ n, w.heap.size ≤ n → n ∉ G := fun n hn hm => by have := hltr n hm; omega
  refine (BDelete_calls w0 b F s f t hb0 hf ht).mono ?_
  rintro e w1 ⟨Xd, xd, Xi, xi, rfl, hd1, hi1, hk1, F1, hF1, hb1, hfd1, hfi1⟩
  have z1 := hk1.size
  have hl1 := hb1.lt
  have hr1 := hr0.keeps hk1 (fun i hi hm => hFG i hm hi)
  have hop1 := hk1.blk hop (nF _ (by omega))
  have hx1 := hk1.blk hx (nF _ (by omega))
  have hy1 := hk1.blk hy (nF _ (by omega))
  have hd1l := hd1.fp_lt
  have hi1l := hi1.fp_lt
  generalize hE : (s.edit f t []) = E at *
  generalize hC : (s.err f t 0) = code at *
  clear x0 x1 x2 xf0 xf1 xf2 y0 y1 y2 yf0 yf1 yf2 o0 o1 o2 o3 o4 o5 o6
  obtain ⟨x0, x1, x2, xf0, xf1, xf2⟩ := three hx1
  have HE := Lib.hid hE
  have HC := Lib.hid hC
  clear hE hC
  go_upto_region 9 with fail
  have hkx : Keeps [w.heap.size + 1] w1 (((w1.setCell ⟨w.heap.size + 1, 0, none⟩ (.int .i64 E.at_)).setCell ⟨w.heap.size + 1, 1, none⟩ (.slice Xd E.del.length xd)).setCell ⟨w.heap.size + 1, 2, none⟩ (.slice Xi E.ins.length xi)) :=
    (((Keeps.refl _ w1).setCell _ _ (.inl (by simp))).setCell _ _ (.inl (by simp))).setCell _ _ (.inl (by simp))
  have hx2 : (((w1.setCell ⟨w.heap.size + 1, 0, none⟩ (.int .i64 E.at_)).setCell ⟨w.heap.size + 1, 1, none⟩ (.slice Xd E.del.length xd)).setCell ⟨w.heap.size + 1, 2, none⟩ (.slice Xi E.ins.length xi)).heap[w.heap.size + 1]? = some (.cells #[.int .i64 E.at_, .slice Xd E.del.length xd, .slice Xi E.ins.length xi] 24 (0, 0)) :=
    blk_set (blk_set (blk_set hx1 0 _) 1 _) 2 _
  generalize (((w1.setCell ⟨w.heap.size + 1, 0, none⟩ (.int .i64 E.at_)).setCell ⟨w.heap.size + 1, 1, none⟩ (.slice Xd E.del.length xd)).setCell ⟨w.heap.size + 1, 2, none⟩ (.slice Xi E.ins.length xi)) = w2 at *
  clear x0 x1 x2 xf0 xf1 xf2
  have hkd := hkx.drew
  have z2 := hkd.size
  have hF1n : ∀ n, w.heap.size ≤ n → n < w0.heap.size → n ∉ F1 := fun n h1 h2 hm => by
    rcases hF1 n hm with h | h
    · have := hlt n h; omega
    · omega
  have hb2 := hb1.keeps hkd (fun i hi hm => by simp at hm; subst hm; exact hF1n _ (by omega) (by omega) hi)
  have hr2 := hr1.keeps hkd (fun i hi hm => by simp at hm; subst hm; exact nG _ (by omega) hi)
  have hop2 := hkd.blk hop1 (by simp)
  have hx2d : w2.drew.heap[w.heap.size + 1]? = _ := hx2
  have hy2 := hkd.blk hy1 (by simp)
  have hd2 := hd1.keeps hkd (fun i hi hm => by have := (hfd1 i hi).1; simp at hm; omega)
  have hi2 := hi1.keeps hkd (fun i hi hm => by have := (hfi1 i hi).1; simp at hm; omega)
  have hkd' := hkx
  clear hkd hb2 hr2 hop2 hx2d hy2 hd2 hi2 z2
  have hkd := hkd'
  have z2 := hkd.size
  have hb2 := hb1.keeps hkd (fun i hi hm => by simp at hm; subst hm; exact hF1n _ (by omega) (by omega) hi)
  have hr2 := hr1.keeps hkd (fun i hi hm => by simp at hm; subst hm; exact nG _ (by omega) hi)
  have hop2 := hkd.blk hop1 (by simp)
  have hx2d : w2.heap[w.heap.size + 1]? = _ := hx2
  have hy2 := hkd.blk hy1 (by simp)
  have hd2 := hd1.keeps hkd (fun i hi hm => by have := (hfd1 i hi).1; simp at hm; omega)
  have hi2 := hi1.keeps hkd (fun i hi hm => by have := (hfi1 i hi).1; simp at hm; omega)
  have o1 := blk_cell hop2 1
  have o2 := blk_cell hop2 2
  have o3 := blk_cell hop2 3
  generalize hw3 : w2 = w3 at *
  clear hw3
  have hC2 := RfReplace_calls w3 r G s none 0 f t [] hr2 (by simp) (Src.nil _ _) (fun a ha => by cases ha)
  simp only [List.length_nil] at hC2
  rw [HE.out, HC.out] at hC2
  go_wp2_with fail
  refine hC2.mono ?_
  rintro e w4 ⟨Yd, yd, Yi, yi, rfl, hd4, hi4, hk4, G4, hG4, hr4, hfd4, hfi4⟩
  clear hC2
  have z4 := hk4.size
  have hb4 := hb2.keeps hk4 (fun i hi hm => by
    rcases hF1 i hi with h | h
    · exact hFG i h hm
    · have := hltr i hm; have := hk0.size; omega)
  have hx4 := hk4.blk hx2d (nG _ (by omega))
  have hy4 := hk4.blk hy2 (nG _ (by omega))
  have hdX := hd2.keeps hk4 (fun i hi hm => by have := (hfd1 i hi).1; have := hltr i hm; have := hk0.size; omega)
  have hiX := hi2.keeps hk4 (fun i hi hm => by have := (hfi1 i hi).1; have := hltr i hm; have := hk0.size; omega)
  obtain ⟨y0, y1, y2, yf0, yf1, yf2⟩ := three hy4
  obtain ⟨x0, x1, x2, xf0, xf1, xf2⟩ := three hx4
  have hne : w.heap.size + 1 ≠ w.heap.size + 2 := by omega
  have hne2 : w.heap.size + 2 ≠ w.heap.size + 1 := by omega
  have hky : Keeps [w.heap.size + 2] w4 (((w4.setCell ⟨w.heap.size + 2, 0, none⟩ (.int .i64 E.at_)).setCell ⟨w.heap.size + 2, 1, none⟩ (.slice Yd E.del.length yd)).setCell ⟨w.heap.size + 2, 2, none⟩ (.slice Yi E.ins.length yi)) :=
    (((Keeps.refl _ w4).setCell _ _ (.inl (by simp))).setCell _ _ (.inl (by simp))).setCell _ _ (.inl (by simp))
  have hdX5 := hdX.keeps hky (fun i hi hm => by have := (hfd1 i hi).1; simp at hm; omega)
  have hiX5 := hiX.keeps hky (fun i hi hm => by have := (hfi1 i hi).1; simp at hm; omega)
  have hdY5 := hd4.keeps hky (fun i hi hm => by have := (hfd4 i hi).1; simp at hm; omega)
  have hiY5 := hi4.keeps hky (fun i hi hm => by have := (hfi4 i hi).1; simp at hm; omega)
  have hEd : E.del.length ≤ 70368744177664 := by rw [← HE.out]; exact edit_del s _ _ _ hb.bounds.1
  have hEi : E.ins.length ≤ 70368744177664 := by rw [← HE.out]; exact edit_ins s _ _ _ (by first | omega | simp)
  go_wp2_with fail
  refine (SameEdit_true _ Xd Xi Yd Yi xd xi yd yi E.del E.ins E.at_ (row_src hdX5) (row_src hiX5) (row_src hdY5) (row_src hiY5) hEd hEi).mono ?_
  rintro e w6 ⟨rfl, hk6⟩
  go_wp2
  go_ret
  exact both_mk hFG hlt hltr hk0 hF1 hk1 hb1 (.inr ⟨w.heap.size + 1, by omega, by omega, hkd⟩) hG4 hk4 hb4 hr4 (.inr ⟨w.heap.size + 2, by omega, by omega, hky⟩) hk6

set_option maxRecDepth 100000 in
set_option maxHeartbeats 4000000 in
theorem does_replace (f t a : Int) (A : Option Addr) (c : Nat) (l : List Int) (Ad : Option Addr) (cd : Nat) (ld : List Int) (Ai : Option Addr) (ci : Nat) (li : List Int) (hb : BAt w b F s) (hr : RAt w r G s) (hFG : ∀ k, k ∈ F → k ∉ G) (hFb : ∀ k, k ∈ F → base ≤ k) (hGb : ∀ k, k ∈ G → base ≤ k) (ho : (OpV.mk 2 f t a A c l Ad cd ld Ai ci li).Ok w) (hlo : Low base (OpV.mk 2 f t a A c l Ad cd ld Ai ci li)) :
    Calls Tryd.prog 48 #[.pointer (some ⟨b, 0, none⟩), .pointer (some ⟨r, 0, none⟩), .agg #[.int .i64 2, .int .i64 f, .int .i64 t, .slice A l.length c, .int .i64 a, .slice Ad ld.length cd, .slice Ai li.length ci]] w (Both w b r F G (s.after f t l)) := by
  obtain ⟨_, hf, ht, ha, s0, s1, s2, wt, wd, wi⟩ := ho
  obtain ⟨l0, l1, l2⟩ := hlo
  simp only at hf ht ha s0 s1 s2 wt wd wi l0 l1 l2
  unfold reachBytes at wt wd wi
  have hlt := hb.lt
  have hltr := hr.lt
  have hk0 := (((Keeps.refl [] w).alloc (.cells #[.int .i64 2, .int .i64 f, .int .i64 t, .slice A l.length c, .int .i64 a, .slice Ad ld.length cd, .slice Ai li.length ci] 26)).alloc (.cells #[.int .i64 0, .slice none 0 0, .slice none 0 0] 24)).alloc (.cells #[.int .i64 0, .slice none 0 0, .slice none 0 0] 24)
  have hop := blk_alloc (blk_alloc (blk_new w (.cells #[.int .i64 2, .int .i64 f, .int .i64 t, .slice A l.length c, .int .i64 a, .slice Ad ld.length cd, .slice Ai li.length ci] 26)) (.cells #[.int .i64 0, .slice none 0 0, .slice none 0 0] 24)) (.cells #[.int .i64 0, .slice none 0 0, .slice none 0 0] 24)
  have hx := blk_alloc (blk_new (w.alloc (.cells #[.int .i64 2, .int .i64 f, .int .i64 t, .slice A l.length c, .int .i64 a, .slice Ad ld.length cd, .slice Ai li.length ci] 26)) (.cells #[.int .i64 0, .slice none 0 0, .slice none 0 0] 24)) (.cells #[.int .i64 0, .slice none 0 0, .slice none 0 0] 24)
  have hy := blk_new ((w.alloc (.cells #[.int .i64 2, .int .i64 f, .int .i64 t, .slice A l.length c, .int .i64 a, .slice Ad ld.length cd, .slice Ai li.length ci] 26)).alloc (.cells #[.int .i64 0, .slice none 0 0, .slice none 0 0] 24)) (.cells #[.int .i64 0, .slice none 0 0, .slice none 0 0] 24)
  have e1 : (w.alloc (.cells #[.int .i64 2, .int .i64 f, .int .i64 t, .slice A l.length c, .int .i64 a, .slice Ad ld.length cd, .slice Ai li.length ci] 26)).heap.size = w.heap.size + 1 := by simp
  have e2 : ((w.alloc (.cells #[.int .i64 2, .int .i64 f, .int .i64 t, .slice A l.length c, .int .i64 a, .slice Ad ld.length cd, .slice Ai li.length ci] 26)).alloc (.cells #[.int .i64 0, .slice none 0 0, .slice none 0 0] 24)).heap.size = w.heap.size + 2 := by simp
  rw [e1] at hx
  rw [e2] at hy
  have hz0 : w.heap.size + 3 ≤ (((w.alloc (.cells #[.int .i64 2, .int .i64 f, .int .i64 t, .slice A l.length c, .int .i64 a, .slice Ad ld.length cd, .slice Ai li.length ci] 26)).alloc (.cells #[.int .i64 0, .slice none 0 0, .slice none 0 0] 24)).alloc (.cells #[.int .i64 0, .slice none 0 0, .slice none 0 0] 24)).heap.size := by simp
  clear e1 e2
  go_enter Tryd.func48, Tryd.ntmps48
  go_wp2_with fail
  generalize (((w.alloc (.cells #[.int .i64 2, .int .i64 f, .int .i64 t, .slice A l.length c, .int .i64 a, .slice Ad ld.length cd, .slice Ai li.length ci] 26)).alloc (.cells #[.int .i64 0, .slice none 0 0, .slice none 0 0] 24)).alloc (.cells #[.int .i64 0, .slice none 0 0, .slice none 0 0] 24)) = w0 at *
  have hb0 := hb.keeps hk0 (by simp)
  have hr0 := hr.keeps hk0 (by simp)
  have qo := fun i => blk_cell hop i
  have o0 := qo 0
  have o1 := qo 1
  have o2 := qo 2
  have o3 := qo 3
  have o4 := qo 4
  have o5 := qo 5
  have o6 := qo 6
  clear qo
  obtain ⟨x0, x1, x2, xf0, xf1, xf2⟩ := three hx
  obtain ⟨y0, y1, y2, yf0, yf1, yf2⟩ := three hy
  have nF : ∀ n, w.heap.size ≤ n → n ∉ F := fun n hn hm => by have := hlt n hm; omega
  have nG : ∀ n, w.heap.size ≤ n → n ∉ G := fun n hn hm => by have := hltr n hm; omega
  refine (BReplace_calls w0 b F s f t A c l hb0 hf ht (by omega) (s0.keeps hk0 (by simp)) (fun a ha h0 hm => by have := hFb _ hm; have := l0 a ha (by rwa [ns_length] at h0); omega)).mono ?_
  rintro e w1 ⟨Xd, xd, Xi, xi, rfl, hd1, hi1, hk1, F1, hF1, hb1, hfd1, hfi1⟩
  have z1 := hk1.size
  have hl1 := hb1.lt
  have hr1 := hr0.keeps hk1 (fun i hi hm => hFG i hm hi)
  have hop1 := hk1.blk hop (nF _ (by omega))
  have hx1 := hk1.blk hx (nF _ (by omega))
  have hy1 := hk1.blk hy (nF _ (by omega))
  have hd1l := hd1.fp_lt
  have hi1l := hi1.fp_lt
  generalize hE : (s.edit f t l) = E at *
  generalize hC : (s.err f t l.length) = code at *
  clear x0 x1 x2 xf0 xf1 xf2 y0 y1 y2 yf0 yf1 yf2 o0 o1 o2 o3 o4 o5 o6
  obtain ⟨x0, x1, x2, xf0, xf1, xf2⟩ := three hx1
  have HE := Lib.hid hE
  have HC := Lib.hid hC
  clear hE hC
  go_upto_region 12 with fail
  have hkx : Keeps [w.heap.size + 1] w1 (((w1.setCell ⟨w.heap.size + 1, 0, none⟩ (.int .i64 E.at_)).setCell ⟨w.heap.size + 1, 1, none⟩ (.slice Xd E.del.length xd)).setCell ⟨w.heap.size + 1, 2, none⟩ (.slice Xi E.ins.length xi)) :=
    (((Keeps.refl _ w1).setCell _ _ (.inl (by simp))).setCell _ _ (.inl (by simp))).setCell _ _ (.inl (by simp))
  have hx2 : (((w1.setCell ⟨w.heap.size + 1, 0, none⟩ (.int .i64 E.at_)).setCell ⟨w.heap.size + 1, 1, none⟩ (.slice Xd E.del.length xd)).setCell ⟨w.heap.size + 1, 2, none⟩ (.slice Xi E.ins.length xi)).heap[w.heap.size + 1]? = some (.cells #[.int .i64 E.at_, .slice Xd E.del.length xd, .slice Xi E.ins.length xi] 24 (0, 0)) :=
    blk_set (blk_set (blk_set hx1 0 _) 1 _) 2 _
  generalize (((w1.setCell ⟨w.heap.size + 1, 0, none⟩ (.int .i64 E.at_)).setCell ⟨w.heap.size + 1, 1, none⟩ (.slice Xd E.del.length xd)).setCell ⟨w.heap.size + 1, 2, none⟩ (.slice Xi E.ins.length xi)) = w2 at *
  clear x0 x1 x2 xf0 xf1 xf2
  have hkd := hkx.drew
  have z2 := hkd.size
  have hF1n : ∀ n, w.heap.size ≤ n → n < w0.heap.size → n ∉ F1 := fun n h1 h2 hm => by
    rcases hF1 n hm with h | h
    · have := hlt n h; omega
    · omega
  have hb2 := hb1.keeps hkd (fun i hi hm => by simp at hm; subst hm; exact hF1n _ (by omega) (by omega) hi)
  have hr2 := hr1.keeps hkd (fun i hi hm => by simp at hm; subst hm; exact nG _ (by omega) hi)
  have hop2 := hkd.blk hop1 (by simp)
  have hx2d : w2.drew.heap[w.heap.size + 1]? = _ := hx2
  have hy2 := hkd.blk hy1 (by simp)
  have hd2 := hd1.keeps hkd (fun i hi hm => by have := (hfd1 i hi).1; simp at hm; omega)
  have hi2 := hi1.keeps hkd (fun i hi hm => by have := (hfi1 i hi).1; simp at hm; omega)
  have hkd' := hkx
  clear hkd hb2 hr2 hop2 hx2d hy2 hd2 hi2 z2
  have hkd := hkd'
  have z2 := hkd.size
  have hb2 := hb1.keeps hkd (fun i hi hm => by simp at hm; subst hm; exact hF1n _ (by omega) (by omega) hi)
  have hr2 := hr1.keeps hkd (fun i hi hm => by simp at hm; subst hm; exact nG _ (by omega) hi)
  have hop2 := hkd.blk hop1 (by simp)
  have hx2d : w2.heap[w.heap.size + 1]? = _ := hx2
  have hy2 := hkd.blk hy1 (by simp)
  have hd2 := hd1.keeps hkd (fun i hi hm => by have := (hfd1 i hi).1; simp at hm; omega)
  have hi2 := hi1.keeps hkd (fun i hi hm => by have := (hfi1 i hi).1; simp at hm; omega)
  have o1 := blk_cell hop2 1
  have o2 := blk_cell hop2 2
  have o3 := blk_cell hop2 3
  generalize hw3 : w2 = w3 at *
  clear hw3
  have hsA := (s0.keeps hk0 (by simp)).keeps hk1 (fun a ha h0 hm => by have := hFb _ hm; have := l0 a ha (by rwa [ns_length] at h0); omega)
  have hsA3 := hsA.keeps hkd (fun a ha h0 hm => by have := l0 a ha (by rwa [ns_length] at h0); have := Src.lt s0 a ha h0; simp at hm; omega)
  have hC2 := RfReplace_calls w3 r G s A c f t l hr2 (by omega) hsA3 (fun a ha h0 hm => by have := hGb _ hm; have := l0 a ha (by rwa [ns_length] at h0); omega)
  rw [HE.out, HC.out] at hC2
  go_wp2_with fail
  refine hC2.mono ?_
  rintro e w4 ⟨Yd, yd, Yi, yi, rfl, hd4, hi4, hk4, G4, hG4, hr4, hfd4, hfi4⟩
  clear hC2
  have z4 := hk4.size
  have hb4 := hb2.keeps hk4 (fun i hi hm => by
    rcases hF1 i hi with h | h
    · exact hFG i h hm
    · have := hltr i hm; have := hk0.size; omega)
  have hx4 := hk4.blk hx2d (nG _ (by omega))
  have hy4 := hk4.blk hy2 (nG _ (by omega))
  have hdX := hd2.keeps hk4 (fun i hi hm => by have := (hfd1 i hi).1; have := hltr i hm; have := hk0.size; omega)
  have hiX := hi2.keeps hk4 (fun i hi hm => by have := (hfi1 i hi).1; have := hltr i hm; have := hk0.size; omega)
  obtain ⟨y0, y1, y2, yf0, yf1, yf2⟩ := three hy4
  obtain ⟨x0, x1, x2, xf0, xf1, xf2⟩ := three hx4
  have hne : w.heap.size + 1 ≠ w.heap.size + 2 := by omega
  have hne2 : w.heap.size + 2 ≠ w.heap.size + 1 := by omega
  have hky : Keeps [w.heap.size + 2] w4 (((w4.setCell ⟨w.heap.size + 2, 0, none⟩ (.int .i64 E.at_)).setCell ⟨w.heap.size + 2, 1, none⟩ (.slice Yd E.del.length yd)).setCell ⟨w.heap.size + 2, 2, none⟩ (.slice Yi E.ins.length yi)) :=
    (((Keeps.refl _ w4).setCell _ _ (.inl (by simp))).setCell _ _ (.inl (by simp))).setCell _ _ (.inl (by simp))
  have hdX5 := hdX.keeps hky (fun i hi hm => by have := (hfd1 i hi).1; simp at hm; omega)
  have hiX5 := hiX.keeps hky (fun i hi hm => by have := (hfi1 i hi).1; simp at hm; omega)
  have hdY5 := hd4.keeps hky (fun i hi hm => by have := (hfd4 i hi).1; simp at hm; omega)
  have hiY5 := hi4.keeps hky (fun i hi hm => by have := (hfi4 i hi).1; simp at hm; omega)
  have hEd : E.del.length ≤ 70368744177664 := by rw [← HE.out]; exact edit_del s _ _ _ hb.bounds.1
  have hEi : E.ins.length ≤ 70368744177664 := by rw [← HE.out]; exact edit_ins s _ _ _ (by first | omega | simp)
  go_wp2_with fail
  refine (SameEdit_true _ Xd Xi Yd Yi xd xi yd yi E.del E.ins E.at_ (row_src hdX5) (row_src hiX5) (row_src hdY5) (row_src hiY5) hEd hEi).mono ?_
  rintro e w6 ⟨rfl, hk6⟩
  go_wp2
  go_ret
  exact both_mk hFG hlt hltr hk0 hF1 hk1 hb1 (.inr ⟨w.heap.size + 1, by omega, by omega, hkd⟩) hG4 hk4 hb4 hr4 (.inr ⟨w.heap.size + 2, by omega, by omega, hky⟩) hk6

end
end Go.Proofs.YtmnmdpgckefefaaDoor.Buf
