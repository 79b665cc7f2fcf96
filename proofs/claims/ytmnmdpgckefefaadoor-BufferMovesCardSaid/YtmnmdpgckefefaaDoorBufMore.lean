/- buffer.Buffer: Move, SetMark, Swap, Line, Clone, Delete, over a buffer's state. -/
import Derived.Test.YtmnmdpgckefefaaDoorBufNew
import Derived.Deep.RegionHeld3
import Derived.Deep.RegionWith
import Derived.BigRegion
namespace Go.Proofs.YtmnmdpgckefefaaDoor.Buf
open Go Go.RowKit Go.Proofs.YtmnmdpgckefefaaDoor.Rw Go.Proofs.YtmnmdpgckefefaaDoor.SlR

/-- A whole number's range. -/
def In64 (n : Int) : Prop := -9223372036854775808 ≤ n ∧ n ≤ 9223372036854775807

def BS.moveErr (s : BS) (a : Int) : Int := if a < 0 then 70 else if (s.l.length : Int) < a then 70 else 0
def BS.move (s : BS) (a : Int) : BS := if a < 0 then s else if (s.l.length : Int) < a then s else ⟨s.l, a, s.mark⟩
def BS.markErr (s : BS) (a : Int) : Int := if a < -1 then 70 else if (s.l.length : Int) < a then 70 else 0
def BS.setMark (s : BS) (a : Int) : BS := if a < -1 then s else if (s.l.length : Int) < a then s else ⟨s.l, s.point, a⟩
def BS.swapErr (s : BS) : Int := if s.mark < 0 then 6 else 0
def BS.swap (s : BS) : BS := if s.mark < 0 then s else ⟨s.l, s.mark, s.point⟩

/-- An operation that answers a number and leaves a state. -/
def Turned (w : World) (b : Nat) (F : List Nat) (s' : BS) (code : Int) (e : Ending) (w' : World) : Prop :=
  e = .returned (.int .i64 code) ∧ Keeps F w w' ∧ ∃ F', (∀ k, k ∈ F' → k ∈ F ∨ w.heap.size ≤ k) ∧ BAt w' b F' s'
theorem Turned.same {w w' : World} {b : Nat} {F : List Nat} {s : BS} {code : Int} (h : BAt w b F s) (hk : Keeps [] w w') : Turned w b F s code (.returned (.int .i64 code)) w' :=
  ⟨rfl, hk.mono (fun _ h => by simp at h), F, fun k hk => .inl hk, h.keeps hk (by simp)⟩

set_option maxRecDepth 100000 in
theorem BMove_calls (w : World) (b : Nat) (F : List Nat) (s : BS) (a : Int) (h : BAt w b F s) (ha : In64 a) :
    Calls Tryd.prog 17 #[.pointer (some ⟨b, 0, none⟩), .int .i64 a] w (Turned w b F (s.move a) (s.moveErr a)) := by
  obtain ⟨ha1, ha2⟩ := ha
  have h0 := h
  obtain ⟨lv, N, fr, ub, xs, hb, hF⟩ := h0
  obtain ⟨c0, _⟩ := hb.six
  have HF := Lib.hid hF; clear hF
  by_cases h1 : a < 0
  · have e1 := Lib.hid (show s.move a = s by simp [BS.move, h1])
    have e2 := Lib.hid (show s.moveErr a = 70 by simp [BS.moveErr, h1])
    go_enter Tryd.func17, Tryd.ntmps17
    go_wp2_with (go_at_call 51; refine (BNone_calls _ _ true c0).mono ?_; rintro e w' ⟨rfl, rfl⟩)
    go_ret
    rw [e1.out, e2.out]
    exact Turned.same h (Keeps.refl _ _)
  · by_cases h2 : (s.l.length : Int) < a
    · have e1 := Lib.hid (show s.move a = s by simp [BS.move, h2])
      have e2 := Lib.hid (show s.moveErr a = 70 by simp [BS.moveErr, h2])
      go_enter Tryd.func17, Tryd.ntmps17
      go_wp2_with (first | (go_at_call 51; refine (BNone_calls _ _ true c0).mono ?_; rintro e w' ⟨rfl, rfl⟩) | (go_at_call 45; refine (BLen_calls _ b F s h).mono ?_; rintro e w1 ⟨rfl, hk1⟩))
      go_ret
      rw [e1.out, e2.out]
      exact Turned.same h hk1
    · have e1 := Lib.hid (show s.move a = ⟨s.l, a, s.mark⟩ by simp [BS.move, h1, h2])
      have e2 := Lib.hid (show s.moveErr a = 0 by simp [BS.moveErr, h1, h2])
      go_enter Tryd.func17, Tryd.ntmps17
      go_wp2_with (go_at_call 51; refine (BNone_calls _ _ true c0).mono ?_; rintro e w' ⟨rfl, rfl⟩)
      refine (BLen_calls _ b F s h).mono ?_
      rintro e w1 ⟨rfl, hk1⟩
      have hb1 := hb.stays (w' := w1) (fun k hk => hk1.block k (h.lt k (by rw [HF.out]; exact hk)) (by simp))
      obtain ⟨d0, d1, d2, d3, d4, d5, g1, g2, g3, g4, g5⟩ := hb1.six
      go_wp2
      go_ret
      rw [e1.out, e2.out]
      refine ⟨rfl, (hk1.mono (fun _ h => by simp at h)).setCell _ _ (.inl (by rw [HF.out]; simp)), F, fun k hk => .inl hk, lv, N, fr, ub, xs, ?_, HF.out⟩
      exact ⟨blk_set hb1.blk 4 _, hb1.row.far _ _ hb1.b_r, hb1.fr_to, hb1.to_N, hb1.text, hb1.small, hb1.short, by simpa using h1, by simpa using h2, hb1.mk0, hb1.mk1, hb1.one⟩

set_option maxRecDepth 100000 in
theorem BSetMark_calls (w : World) (b : Nat) (F : List Nat) (s : BS) (a : Int) (h : BAt w b F s) (ha : In64 a) :
    Calls Tryd.prog 42 #[.pointer (some ⟨b, 0, none⟩), .int .i64 a] w (Turned w b F (s.setMark a) (s.markErr a)) := by
  obtain ⟨ha1, ha2⟩ := ha
  have h0 := h
  obtain ⟨lv, N, fr, ub, xs, hb, hF⟩ := h0
  obtain ⟨c0, _⟩ := hb.six
  have HF := Lib.hid hF; clear hF
  by_cases h1 : a < -1
  · have e1 := Lib.hid (show s.setMark a = s by simp [BS.setMark, h1])
    have e2 := Lib.hid (show s.markErr a = 70 by simp [BS.markErr, h1])
    go_enter Tryd.func42, Tryd.ntmps42
    go_wp2_with (go_at_call 51; refine (BNone_calls _ _ true c0).mono ?_; rintro e w' ⟨rfl, rfl⟩)
    go_ret
    rw [e1.out, e2.out]
    exact Turned.same h (Keeps.refl _ _)
  · by_cases h2 : (s.l.length : Int) < a
    · have e1 := Lib.hid (show s.setMark a = s by simp [BS.setMark, h2])
      have e2 := Lib.hid (show s.markErr a = 70 by simp [BS.markErr, h2])
      go_enter Tryd.func42, Tryd.ntmps42
      go_wp2_with (first | (go_at_call 51; refine (BNone_calls _ _ true c0).mono ?_; rintro e w' ⟨rfl, rfl⟩) | (go_at_call 45; refine (BLen_calls _ b F s h).mono ?_; rintro e w1 ⟨rfl, hk1⟩))
      go_ret
      rw [e1.out, e2.out]
      exact Turned.same h hk1
    · have e1 := Lib.hid (show s.setMark a = ⟨s.l, s.point, a⟩ by simp [BS.setMark, h1, h2])
      have e2 := Lib.hid (show s.markErr a = 0 by simp [BS.markErr, h1, h2])
      go_enter Tryd.func42, Tryd.ntmps42
      go_wp2_with (go_at_call 51; refine (BNone_calls _ _ true c0).mono ?_; rintro e w' ⟨rfl, rfl⟩)
      refine (BLen_calls _ b F s h).mono ?_
      rintro e w1 ⟨rfl, hk1⟩
      have hb1 := hb.stays (w' := w1) (fun k hk => hk1.block k (h.lt k (by rw [HF.out]; exact hk)) (by simp))
      obtain ⟨d0, d1, d2, d3, d4, d5, g1, g2, g3, g4, g5⟩ := hb1.six
      go_wp2
      go_ret
      rw [e1.out, e2.out]
      refine ⟨rfl, (hk1.mono (fun _ h => by simp at h)).setCell _ _ (.inl (by rw [HF.out]; simp)), F, fun k hk => .inl hk, lv, N, fr, ub, xs, ?_, HF.out⟩
      exact ⟨blk_set hb1.blk 5 _, hb1.row.far _ _ hb1.b_r, hb1.fr_to, hb1.to_N, hb1.text, hb1.small, hb1.short, hb1.pt0, hb1.pt1, by simp only; omega, by simp only; omega, hb1.one⟩

set_option maxRecDepth 100000 in
theorem BSwap_calls (w : World) (b : Nat) (F : List Nat) (s : BS) (h : BAt w b F s) :
    Calls Tryd.prog 43 #[.pointer (some ⟨b, 0, none⟩)] w (Turned w b F s.swap s.swapErr) := by
  have h0 := h
  obtain ⟨lv, N, fr, ub, xs, hb, hF⟩ := h0
  obtain ⟨c0, c1, c2, c3, c4, c5, g1, g2, g3, g4, g5⟩ := hb.six
  have HF := Lib.hid hF; clear hF
  by_cases h1 : s.mark < 0
  · have e1 := Lib.hid (show s.swap = s by simp [BS.swap, h1])
    have e2 := Lib.hid (show s.swapErr = 6 by simp [BS.swapErr, h1])
    go_enter Tryd.func43, Tryd.ntmps43
    go_wp2_with (go_at_call 51; refine (BNone_calls _ _ true c0).mono ?_; rintro e w' ⟨rfl, rfl⟩)
    go_ret
    rw [e1.out, e2.out]
    exact Turned.same h (Keeps.refl _ _)
  · have e1 := Lib.hid (show s.swap = ⟨s.l, s.mark, s.point⟩ by simp [BS.swap, h1])
    have e2 := Lib.hid (show s.swapErr = 0 by simp [BS.swapErr, h1])
    have hfin : ∀ W : World, Keeps [b] w W → W.heap[b]? = some (.cells #[.bool true, lv, .int .i64 fr, .int .i64 ub, .int .i64 s.mark, .int .i64 s.point] 67 (0, 0)) → Turned w b F s.swap s.swapErr (.returned (.int .i64 0)) W := by
      intro W hk hblk
      rw [e1.out, e2.out]
      have hr := hb.row.keeps hk (fun i hi hm => by simp at hm; subst hm; exact hb.b_r hi)
      exact ⟨rfl, hk.mono (fun k h => .inl (by rw [HF.out]; simp at h; simp [h])), F, fun k hk => .inl hk, lv, N, fr, ub, xs, ⟨hblk, hr, hb.fr_to, hb.to_N, hb.text, hb.small, hb.short, by simpa using h1, hb.mk1, by have := hb.pt0; simp only; omega, hb.pt1, hb.one⟩, HF.out⟩
    have Hfin := Lib.hid hfin; clear hfin
    have hk0 := Keeps.refl [b] w
    have hblk := Lib.hid hb.blk
    go_enter Tryd.func43, Tryd.ntmps43
    go_wp2_with (go_at_call 51; refine (BNone_calls _ _ true c0).mono ?_; rintro e w' ⟨rfl, rfl⟩)
    go_region
    all_goals go_wp2
    all_goals go_ret
    all_goals exact Hfin.out _ (((hk0.setCell _ _ (.inl (by simp))).setCell _ _ (.inl (by simp))).drew) (show (((w.setCell ⟨b, 4, none⟩ (.int .i64 s.mark)).setCell ⟨b, 5, none⟩ (.int .i64 s.point))).heap[b]? = _ from blk_set (blk_set hblk.out 4 _) 5 _)
end Go.Proofs.YtmnmdpgckefefaaDoor.Buf
