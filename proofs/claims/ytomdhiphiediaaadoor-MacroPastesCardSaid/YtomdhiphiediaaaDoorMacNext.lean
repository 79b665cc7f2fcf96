/- macro.Queue.Next: the next byte of a queue, out of a macro, out of what was typed, or none. -/
import Derived.Test.YtomdhiphiediaaaDoorMac
namespace Go.Proofs.YtomdhiphiediaaaDoor.Mac
open Go Go.RowKit Go.Proofs.YtomdhiphiediaaaDoor.Rw

/-- The next byte, out of a macro. -/
def QS.popMacro (q : QS) (ls : List (List UInt8)) (r : List UInt8) : QS := { q with macros := if r = [] then ls else ls ++ [r], run := q.run + 1 }
/-- What popping a byte off the last macro leaves. -/
theorem QIn.pop_last {w : World} {b : Nat} {tv : Value} {vs : List Value} {q : QS} {g off mc : Nat} {v : Value} {ls : List (List UInt8)} {x : UInt8}
    (h : QIn w b tv (.slice (some ⟨g, off, none⟩) (vs ++ [v]).length mc) (vs ++ [v]) q) (hq : q.macros = ls ++ [[x]]) (hvs : Rows2 w vs ls) (u : Value) (hr : q.run < 256) :
    Left w (((w.setCell ⟨g, off + vs.length, none⟩ u).setCell ⟨b, 1, none⟩ (.slice (some ⟨g, off, none⟩) vs.length mc)).setCell ⟨b, 2, none⟩ (.int .i64 (q.run + 1))).drew b
      (QF b tv (.slice (some ⟨g, off, none⟩) (vs ++ [v]).length mc) (vs ++ [v])) (q.popMacro ls []) := by
  have hrun := h.run
  obtain ⟨g', off', c, hmv, hc1, hc2, hfg, _, _⟩ := h.macs.cell (i := vs.length) (by simp)
  cases hmv
  have hbg : b ≠ g := fun e => h.b_m (by rw [hfg, e]; simp)
  have e1 : q.popMacro ls [] = { q with macros := ls, run := q.run + 1 } := by simp [QS.popMacro]
  rw [e1]
  refine Left.drew (h.macros_left (mv' := .slice (some ⟨g, off, none⟩) vs.length mc) (ms' := vs) ls ((((Keeps.refl _ _).setCell _ _ (.inl ?_)).setCell _ _ (.inl ?_)).setCell _ _ (.inl ?_)) ?_ (by omega) ?_ ?_ ?_ ?_ ?_ ?_)
  · rw [hfg]; simp
  · simp
  · simp
  · exact blk_set (blk_set (blk_far h.blk ⟨g, _, none⟩ hbg u) 1 (.slice (some ⟨g, off, none⟩) vs.length mc)) 2 (.int .i64 (q.run + 1))
  · have h0 := (h.macs.set vs.length u (by simp)).cut 0 vs.length (by omega) (by simp)
    simp only [Nat.sub_zero, List.drop_zero, Nat.mul_one] at h0
    rw [List.set_append_right _ _ (Nat.le_refl _), Nat.sub_self, List.set_cons_zero, List.take_left] at h0
    have h1 : (if mc = 0 then (some ⟨g, off, none⟩ : Option Addr) else Option.map (fun a : Addr => a.add 0) (some ⟨g, off, none⟩)) = some ⟨g, off, none⟩ := by
      split <;> simp [Addr.add]
    rw [h1] at h0
    have hb0 : b ∉ fp (.slice (some ⟨g, off, none⟩) vs.length mc) := fun hk => by
      cases mc with
      | zero => simp at hc1
      | succ c => simp only [fp, List.mem_singleton] at hk; exact hbg hk
    exact (h0.far _ _ hb0).far _ _ hb0
  · refine hvs.stays fun k hk => ?_
    have hk' : k ∈ (vs ++ [v]).flatMap fp := by rw [List.flatMap_append]; exact List.mem_append_left _ hk
    rw [Below.heap_setCell _ _ _ _ (fun e => h.b_r (by cases e; exact hk')), Below.heap_setCell _ _ _ _ (fun e => h.b_r (by cases e; exact hk')), Below.heap_setCell _ _ _ _ (fun e => h.r_m hk' (by rw [hfg, e]; simp))]
  · intro y hy; exact h.full y (by rw [hq]; exact List.mem_append_left _ hy)
  · intro k hk
    refine .inl ?_
    rw [hfg]
    cases mc with
    | zero => simp at hc1
    | succ c => exact hk
  · intro k hk
    exact .inl (by rw [List.flatMap_append]; exact List.mem_append_left _ hk)
  · have ha := h.apart
    rw [List.flatMap_append, List.nodup_append, List.nodup_append] at ha
    exact ha.2.1.1
theorem QIn.pop_more {w : World} {b : Nat} {tv : Value} {vs : List Value} {q : QS} {g off mc gm om cm : Nat} {ls : List (List UInt8)} {x y : UInt8} {r : List UInt8}
    (h : QIn w b tv (.slice (some ⟨g, off, none⟩) (vs ++ [Value.slice (some ⟨gm, om, none⟩) (r.length + 1 + 1) cm]).length mc) (vs ++ [Value.slice (some ⟨gm, om, none⟩) (r.length + 1 + 1) cm]) q) (hq : q.macros = ls ++ [x :: y :: r]) (hvs : Rows2 w vs ls)
    (hv : Row w 5 1 (.slice (some ⟨gm, om, none⟩) (r.length + 1 + 1) cm) (r.length + 1 + 1) (bs (x :: y :: r))) (hr : q.run < 256) :
    Left w ((w.setCell ⟨g, off + vs.length, none⟩ (.slice (some ⟨gm, om + 1, none⟩) (r.length + 1) (cm - 1))).setCell ⟨b, 2, none⟩ (.int .i64 (q.run + 1))).drew b
      (QF b tv (.slice (some ⟨g, off, none⟩) (vs ++ [Value.slice (some ⟨gm, om, none⟩) (r.length + 1 + 1) cm]).length mc) (vs ++ [Value.slice (some ⟨gm, om, none⟩) (r.length + 1 + 1) cm])) (q.popMacro ls (y :: r)) := by
  have hrun := h.run
  obtain ⟨g', off', c, hmv, hc1, hc2, hfg, _, _⟩ := h.macs.cell (i := vs.length) (by simp)
  cases hmv
  have hbg : b ≠ g := fun e => h.b_m (by rw [hfg, e]; simp)
  have e1 : q.popMacro ls (y :: r) = { q with macros := ls ++ [y :: r], run := q.run + 1 } := by simp [QS.popMacro]
  rw [e1]
  obtain ⟨_, _, hsl, hcm, _⟩ := hv.slice
  cases hsl
  have hcut : Row w 5 1 (.slice (some ⟨gm, om + 1, none⟩) (r.length + 1) (cm - 1)) (r.length + 1) (bs (y :: r)) := by
    have h0 := hv.cut 1 (r.length + 1 + 1) (by omega) (Nat.le_refl _)
    rw [if_neg (by omega)] at h0
    have e3 : List.take ((r.length + 1 + 1 - 1) * 1) (List.drop (1 * 1) (bs (x :: y :: r))) = bs (y :: r) := by
      rw [List.take_of_length_le (by simp [bs])]; rfl
    rw [e3] at h0
    simpa [add_at] using h0
  have hfv : ∀ k, k ∈ fp (.slice (some ⟨gm, om + 1, none⟩) (r.length + 1) (cm - 1)) ↔ k ∈ fp (.slice (some ⟨gm, om, none⟩) (r.length + 1 + 1) cm) := by
    intro k
    rw [fp_some (by omega), fp_some (by omega)]
  refine Left.drew (h.macros_left (mv' := .slice (some ⟨g, off, none⟩) (vs ++ [Value.slice (some ⟨gm, om, none⟩) (r.length + 1 + 1) cm]).length mc) (ms' := vs ++ [.slice (some ⟨gm, om + 1, none⟩) (r.length + 1) (cm - 1)]) (ls ++ [y :: r]) (((Keeps.refl _ _).setCell _ _ (.inl ?_)).setCell _ _ (.inl ?_)) ?_ (by omega) ?_ ?_ ?_ ?_ ?_ ?_)
  · rw [hfg]; simp
  · simp
  · exact blk_set (blk_far h.blk ⟨g, _, none⟩ hbg _) 2 (.int .i64 (q.run + 1))
  · have h0 := h.macs.set vs.length (.slice (some ⟨gm, om + 1, none⟩) (r.length + 1) (cm - 1)) (by simp)
    rw [List.set_append_right _ _ (Nat.le_refl _), Nat.sub_self, List.set_cons_zero] at h0
    have e2 : (vs ++ [Value.slice (some ⟨gm, om, none⟩) (r.length + 1 + 1) cm]).length = (vs ++ [Value.slice (some ⟨gm, om + 1, none⟩) (r.length + 1) (cm - 1)]).length := by simp
    rw [e2] at h0 ⊢
    refine h0.stays fun k hk => ?_
    refine Below.heap_setCell _ _ _ _ ?_
    rintro rfl
    have hcc : 0 < mc := by simp at hc1; omega
    rw [fp_some hcc] at hk
    simp at hk; exact hbg hk
  · have hw : ∀ k, k ∈ (vs ++ [Value.slice (some ⟨gm, om, none⟩) (r.length + 1 + 1) cm]).flatMap fp → ((w.setCell ⟨g, off + vs.length, none⟩ (.slice (some ⟨gm, om + 1, none⟩) (r.length + 1) (cm - 1))).setCell ⟨b, 2, none⟩ (.int .i64 (q.run + 1))).heap[k]? = w.heap[k]? := fun k hk' => by
      rw [Below.heap_setCell _ _ _ _ (fun e => h.b_r (by cases e; exact hk')), Below.heap_setCell _ _ _ _ (fun e => h.r_m hk' (by rw [hfg, e]; simp))]
    refine Rows2.append (hvs.stays fun k hk => hw k (by rw [List.flatMap_append]; exact List.mem_append_left _ hk)) ⟨hcut.stays fun k hk => hw k ?_, trivial⟩
    rw [List.flatMap_append]
    refine List.mem_append_right _ ?_
    simp only [List.flatMap_cons, List.flatMap_nil, List.append_nil]
    exact (hfv k).1 hk
  · intro z hz
    rcases List.mem_append.1 hz with hz | hz
    · exact h.full z (by rw [hq]; exact List.mem_append_left _ hz)
    · simp at hz; subst hz; simp
  · exact fun k hk => .inl hk
  · intro k hk
    refine .inl ?_
    rw [List.flatMap_append] at hk ⊢
    rcases List.mem_append.1 hk with hk | hk
    · exact List.mem_append_left _ hk
    · refine List.mem_append_right _ ?_
      simp only [List.flatMap_cons, List.flatMap_nil, List.append_nil] at hk ⊢
      exact (hfv k).1 hk
  · have ha := h.apart
    rw [List.nodup_append] at ha
    have hn := ha.2.1
    rw [List.flatMap_append, List.nodup_append] at hn ⊢
    refine ⟨hn.1, by simp [fp_nodup], fun a ha' b' hb' => hn.2.2 a ha' b' ?_⟩
    simp only [List.flatMap_cons, List.flatMap_nil, List.append_nil] at hb' ⊢
    exact (hfv b').1 hb'


theorem QNext_macro (w : World) (b : Nat) (F : List Nat) (q : QS) (ls : List (List UInt8)) (x : UInt8) (r : List UInt8) (h : QAt w b F q) (hq : q.macros = ls ++ [x :: r]) (hr : q.run < 256) :
    Calls Tryd.prog 10 #[.pointer (some ⟨b, 0, none⟩)] w (Said (.tuple #[.int .u8 x.toNat, .bool true, .bool false]) fun w' => Left w w' b F (q.popMacro ls r)) := by
  obtain ⟨tv, mv, ms, h, rfl⟩ := h
  have hrows := h.rows
  rw [hq] at hrows
  obtain ⟨vs, v, rfl, hvs, hv⟩ := hrows.snoc
  obtain ⟨tA, tc, mA, mc, rfl, rfl, t1, t2, m1, m2⟩ := h.shape
  obtain ⟨c0, c1, c2, c3, f0, f1, f2, f3⟩ := h.four
  have hrun := h.run
  rw [List.length_append, List.length_singleton] at c1
  obtain ⟨g, off, c, hmv, hc1, hc2, hfg, hcg, hzg⟩ := h.macs.cell (i := vs.length) (by simp)
  simp only [List.getElem_concat_length] at hcg
  cases hmv
  obtain ⟨gm, om, cm, rfl, hn1, hn2, hfm, hcm, hzm⟩ := hv.cell (i := 0) (by simp [bs])
  have hcm' : w.cell? ⟨gm, om, none⟩ = some (.int .u8 x.toNat) := by simpa [bs] using hcm
  rw [List.length_cons] at hcg hn1
  rw [List.length_append, List.length_singleton] at m1
  unfold maxLen at hn2
  have hbg : b ≠ g := fun e => h.b_m (by rw [hfg, e]; simp)
  have Hq := Lib.hid hq
  clear hq hc1 hc2 hcm
  cases r with
  | nil =>
    rw [List.length_nil, Nat.zero_add] at hcg hn1
    by_cases h1 : cm = 1
    · subst h1
      have hfin := fun u => h.pop_last Hq.out hvs u hr
      have Hf := Lib.hid hfin; clear hfin
      go_enter Tryd.func10, Tryd.ntmps10
      go_wp2_with (go_at_call 31; refine (QNone_calls _ _ true c3).mono ?_; rintro e w' ⟨rfl, rfl⟩)
      go_region
      all_goals go_wp2
      go_ret3
      exact ⟨rfl, Hf.out _⟩
    · have h1' : 1 < cm := by omega
      clear h1
      have hfin := fun u => h.pop_last Hq.out hvs u hr
      have Hf := Lib.hid hfin; clear hfin
      go_enter Tryd.func10, Tryd.ntmps10
      go_wp2_with (go_at_call 31; refine (QNone_calls _ _ true c3).mono ?_; rintro e w' ⟨rfl, rfl⟩)
      go_region
      all_goals go_wp2
      go_ret3
      exact ⟨rfl, Hf.out _⟩
  | cons y r =>
    rw [List.length_cons] at hcg hn1
    have h1' : 1 < cm := by omega
    have Hf := Lib.hid (h.pop_more Hq.out hvs hv hr)
    go_enter Tryd.func10, Tryd.ntmps10
    go_wp2_with (go_at_call 31; refine (QNone_calls _ _ true c3).mono ?_; rintro e w' ⟨rfl, rfl⟩)
    go_region
    all_goals go_wp2
    go_ret3
    exact ⟨rfl, Hf.out⟩


theorem Left.trans {w w1 w2 : World} {b : Nat} {F : List Nat} {q q2 : QS} (h : Left w w1 b F q) (h2 : ∀ F', QAt w1 b F' q → Left w1 w2 b F' q2) : Left w w2 b F q2 := by
  obtain ⟨h0, F', h1, hq⟩ := h
  obtain ⟨k0, F2, k1, kq⟩ := h2 F' hq
  refine ⟨h0.then k0 h1, F2, fun k hk => ?_, kq⟩
  rcases k1 k hk with h | h
  · exact h1 k h
  · exact .inr (by have := h0.size; omega)

theorem self_QF {b : Nat} {tv mv : Value} {ms : List Value} : b ∈ QF b tv mv ms := mem_QF.2 (.inl rfl)
/-- The macros are let go of. -/
theorem QIn.no_macros {w : World} {b : Nat} {tv mv : Value} {ms : List Value} {q : QS} (h : QIn w b tv mv ms q) :
    QIn (w.setCell ⟨b, 1, none⟩ (.slice none 0 0)) b tv (.slice none 0 0) [] { q with macros := [] } :=
  ⟨blk_set h.blk 1 _, h.typed.far _ _ h.b_t, Row.nil _ _ _ _, trivial, by simpa using fp_nodup tv, h.run, by simp⟩
theorem QIn.no_macros_left {w : World} {b : Nat} {tv mv : Value} {ms : List Value} {q : QS} (h : QIn w b tv mv ms q) :
    Left w (w.setCell ⟨b, 1, none⟩ (.slice none 0 0)) b (QF b tv mv ms) { q with macros := [] } := by
  refine Left.of ((Keeps.refl _ _).setCell _ _ (.inl (mem_QF.2 (.inl rfl)))) h.no_macros (fun k hk => .inl (mem_QF.2 (.inr (.inl hk)))) (fun k hk => ?_) (fun k hk => ?_)
  · simp [fp] at hk
  · simp at hk
/-- A typed byte is read. -/
theorem QIn.typed_pop {w : World} {b : Nat} {mv : Value} {ms : List Value} {q : QS} {g o tc : Nat} {x : UInt8} {t : List UInt8} (h : QIn w b (.slice (some ⟨g, o, none⟩) q.typed.length tc) mv ms q) (hq : q.typed = x :: t) :
    Left w ((w.setCell ⟨b, 0, none⟩ (.slice (if tc = 1 then some ⟨g, o, none⟩ else some ⟨g, o + 1, none⟩) t.length (tc - 1))).setCell ⟨b, 2, none⟩ (.int .i64 0)) b
      (QF b (.slice (some ⟨g, o, none⟩) q.typed.length tc) mv ms) { q with typed := t, run := 0 } := by
  have hl : q.typed.length = t.length + 1 := by rw [hq]; rfl
  have hty := h.typed
  rw [hq] at hty
  have hcut := hty.cut 1 (t.length + 1) (by omega) (Nat.le_refl _)
  have e3 : List.take ((t.length + 1 - 1) * 1) (List.drop (1 * 1) (bs (x :: t))) = bs t := by
    rw [List.take_of_length_le (by simp [bs])]; rfl
  rw [e3] at hcut
  simp only [Option.map_some, add_at, Nat.mul_one, Nat.add_sub_cancel] at hcut
  have hfc : ∀ k, k ∈ fp (.slice (if tc = 1 then some ⟨g, o, none⟩ else some ⟨g, o + 1, none⟩) t.length (tc - 1)) → k ∈ fp (.slice (some ⟨g, o, none⟩) q.typed.length tc) := by
    intro k hk
    have := fp_cut (some ⟨g, o, none⟩) tc 1 t.length 1 q.typed.length k
    simp only [Option.map_some, add_at, Nat.mul_one] at this
    exact this hk
  refine Left.of (tv' := .slice (if tc = 1 then some ⟨g, o, none⟩ else some ⟨g, o + 1, none⟩) t.length (tc - 1)) (mv' := mv) (ms' := ms) (((Keeps.refl _ _).setCell _ _ (.inl (by exact self_QF))).setCell _ _ (.inl (by exact self_QF))) ⟨?_, ?_, ?_, ?_, ?_, Int.le_refl _, h.full⟩ ?_ ?_ ?_
  · exact blk_set (blk_set h.blk 0 (.slice (if tc = 1 then some ⟨g, o, none⟩ else some ⟨g, o + 1, none⟩) t.length (tc - 1))) 2 (.int .i64 0)
  · exact (hcut.far _ _ fun hx => h.b_t (hfc _ hx)).far _ _ fun hx => h.b_t (hfc _ hx)
  · exact (h.macs.far _ _ h.b_m).far _ _ h.b_m
  · refine h.rows.stays fun k hk => ?_
    rw [Below.heap_setCell _ _ _ _ (fun e => h.b_r (by cases e; exact hk)), Below.heap_setCell _ _ _ _ (fun e => h.b_r (by cases e; exact hk))]
  · have ha := h.apart
    rw [List.nodup_append] at ha ⊢
    exact ⟨fp_nodup _, ha.2.1, fun y hy z hz => ha.2.2 y (hfc y hy) z hz⟩
  · exact fun k hk => .inl (mem_QF.2 (.inr (.inl (hfc k hk))))
  · exact fun k hk => .inl (mem_QF.2 (.inr (.inr (.inl hk))))
  · exact fun k hk => .inl (mem_QF.2 (.inr (.inr (.inr hk))))

theorem QNext_typed (w : World) (b : Nat) (F : List Nat) (q : QS) (x : UInt8) (t : List UInt8) (h : QAt w b F q) (hq : q.typed = x :: t) (hm : q.macros = [] ∨ 256 ≤ q.run) :
    Calls Tryd.prog 10 #[.pointer (some ⟨b, 0, none⟩)] w (Said (.tuple #[.int .u8 x.toNat, .bool true, .bool true]) fun w' => Left w w' b F ⟨t, [], 0⟩) := by
  obtain ⟨tv, mv, ms, h, rfl⟩ := h
  obtain ⟨tA, tc, mA, mc, rfl, rfl, t1, t2, m1, m2⟩ := h.shape
  obtain ⟨c0, c1, c2, c3, f0, f1, f2, f3⟩ := h.four
  obtain ⟨g, o, c, hv, hc1, hc2, hfg, hcg, hzg⟩ := h.typed.cell (i := 0) (by rw [hq]; simp [bs])
  cases hv
  have hcx : w.cell? ⟨g, o, none⟩ = some (.int .u8 x.toNat) := by simpa [bs, hq] using hcg
  have hbg : b ≠ g := fun e => h.b_t (by rw [hfg, e]; simp)
  have hl : q.typed.length = t.length + 1 := by rw [hq]; rfl
  rw [hl] at c0 t1
  have Hl := Lib.hid hl
  have Hq := Lib.hid hq
  have ht1 : 1 ≤ tc := by omega
  by_cases hr : 256 ≤ q.run
  · have hfin : Left w (((w.setCell ⟨b, 1, none⟩ (.slice none 0 0)).setCell ⟨b, 0, none⟩ (.slice (if tc = 1 then some ⟨g, o, none⟩ else some ⟨g, o + 1, none⟩) t.length (tc - 1))).setCell ⟨b, 2, none⟩ (.int .i64 0)) b
        (QF b (.slice (some ⟨g, o, none⟩) q.typed.length tc) (.slice mA ms.length mc) ms) ⟨t, [], 0⟩ := by
      have hleft := QIn.typed_pop (q := { q with macros := [] }) h.no_macros Hq.out
      refine ⟨(h.no_macros_left.1).then hleft.1 (fun i hi => ?_), ?_⟩
      · rcases mem_QF.1 hi with hi | hi | hi | hi
        · exact .inl (mem_QF.2 (.inl hi))
        · exact .inl (mem_QF.2 (.inr (.inl hi)))
        · simp [fp] at hi
        · simp at hi
      · obtain ⟨F', h1, h2⟩ := hleft.2
        refine ⟨F', fun k hk => ?_, h2⟩
        rcases h1 k hk with hi | hi
        · rcases mem_QF.1 hi with hi | hi | hi | hi
          · exact .inl (mem_QF.2 (.inl hi))
          · exact .inl (mem_QF.2 (.inr (.inl hi)))
          · simp [fp] at hi
          · simp at hi
        · exact .inr (by simpa using hi)
    clear hm hl hq hcg hc1 hc2
    by_cases h1 : tc = 1
    · subst h1
      obtain rfl : t = [] := List.eq_nil_of_length_eq_zero (by omega)
      rw [if_pos rfl] at hfin
      have Hf := Lib.hid hfin; clear hfin
      go_enter Tryd.func10, Tryd.ntmps10
      go_wp2_with (go_at_call 31; refine (QNone_calls _ _ true c3).mono ?_; rintro e w' ⟨rfl, rfl⟩)
      go_ret3
      exact ⟨rfl, Hf.out⟩
    · rw [if_neg h1] at hfin
      have Hf := Lib.hid hfin; clear hfin
      have h1' : 1 < tc := by omega
      clear h1
      go_enter Tryd.func10, Tryd.ntmps10
      go_wp2_with (go_at_call 31; refine (QNone_calls _ _ true c3).mono ?_; rintro e w' ⟨rfl, rfl⟩)
      go_ret3
      exact ⟨rfl, Hf.out⟩
  · have hm0 : q.macros = [] := by rcases hm with h | h; exact h; omega
    have hms : ms = [] := by
      have := h.rows.len; rw [hm0] at this; exact List.eq_nil_of_length_eq_zero this
    subst hms
    have hleft := h.typed_pop Hq.out
    have e0 : ({ q with typed := t, run := 0 } : QS) = ⟨t, [], 0⟩ := by rw [hm0]
    rw [e0] at hleft
    rw [List.length_nil] at c1
    clear hm hl hq hcg hc1 hc2 hm0
    by_cases h1 : tc = 1
    · subst h1
      obtain rfl : t = [] := List.eq_nil_of_length_eq_zero (by omega)
      rw [if_pos rfl] at hleft
      have Hf := Lib.hid hleft; clear hleft
      go_enter Tryd.func10, Tryd.ntmps10
      go_wp2_with (go_at_call 31; refine (QNone_calls _ _ true c3).mono ?_; rintro e w' ⟨rfl, rfl⟩)
      go_ret3
      exact ⟨rfl, Hf.out⟩
    · rw [if_neg h1] at hleft
      have Hf := Lib.hid hleft; clear hleft
      have h1' : 1 < tc := by omega
      clear h1
      go_enter Tryd.func10, Tryd.ntmps10
      go_wp2_with (go_at_call 31; refine (QNone_calls _ _ true c3).mono ?_; rintro e w' ⟨rfl, rfl⟩)
      go_ret3
      exact ⟨rfl, Hf.out⟩

theorem QNext_none (w : World) (b : Nat) (F : List Nat) (q : QS) (h : QAt w b F q) (hq : q.typed = []) (hm : q.macros = [] ∨ 256 ≤ q.run) :
    Calls Tryd.prog 10 #[.pointer (some ⟨b, 0, none⟩)] w (Said (.tuple #[.int .u8 0, .bool false, .bool false]) fun w' => Left w w' b F ⟨[], [], q.run⟩) := by
  obtain ⟨tv, mv, ms, h, rfl⟩ := h
  have hl : q.typed.length = 0 := by rw [hq]; rfl
  obtain ⟨tA, tc, mA, mc, rfl, rfl, t1, t2, m1, m2⟩ := h.shape
  obtain ⟨c0, c1, c2, c3, f0, f1, f2, f3⟩ := h.four
  rw [hl] at c0
  by_cases hr : 256 ≤ q.run
  · have hleft := h.no_macros_left
    have e0 : ({ q with macros := [] } : QS) = ⟨[], [], q.run⟩ := by rw [hq]
    rw [e0] at hleft
    have Hf := Lib.hid hleft; clear hleft
    clear hm hl hq e0
    go_enter Tryd.func10, Tryd.ntmps10
    go_wp2_with (go_at_call 31; refine (QNone_calls _ _ true c3).mono ?_; rintro e w' ⟨rfl, rfl⟩)
    go_ret3
    exact ⟨rfl, Hf.out⟩
  · have hm0 : q.macros = [] := by rcases hm with h | h; exact h; omega
    have hms : ms = [] := by
      have := h.rows.len; rw [hm0] at this; exact List.eq_nil_of_length_eq_zero this
    subst hms
    have hleft : Left w w b (QF b (.slice tA q.typed.length tc) (.slice mA ([] : List Value).length mc) []) ⟨[], [], q.run⟩ := by
      have e0 : q = ⟨[], [], q.run⟩ := by rw [← hq, ← hm0]
      have := Left.refl (w := w) (b := b) ⟨_, _, _, h, rfl⟩
      rw [e0] at this
      rw [hq]; exact this
    have Hf := Lib.hid hleft; clear hleft
    rw [List.length_nil] at c1
    clear hm hl hq hm0
    go_enter Tryd.func10, Tryd.ntmps10
    go_wp2_with (go_at_call 31; refine (QNone_calls _ _ true c3).mono ?_; rintro e w' ⟨rfl, rfl⟩)
    go_ret3
    exact ⟨rfl, Hf.out⟩
end Go.Proofs.YtomdhiphiediaaaDoor.Mac
