/- lanyardlaw07.BufferBack: what it comes to. -/
import Derived.Test.YtmnmdpgckefefaaDoorOwn
namespace Go.Proofs.YtmnmdpgckefefaaDoor.Buf
open Go Go.RowKit Go.Proofs.YtmnmdpgckefefaaDoor.Rw Go.Proofs.YtmnmdpgckefefaaDoor.SlR Go.Proofs.YtmnmdpgckefefaaDoor.Words Go.Proofs.YtmnmdpgckefefaaDoor.OpArg

theorem err_bound (s : BS) (f t : Int) (n : Nat) : s.err f t n = 0 ∨ s.err f t n = 3 ∨ s.err f t n = 70 := by
  unfold BS.err; (repeat' split) <;> simp
/-- What is done where the text has just what is to go. -/
theorem apply_parts (s : BS) (P D S I : List Int) (h : s.l = P ++ (D ++ S)) (hfit : P.length + I.length + S.length ≤ 1024) :
    s.applyErr ⟨P.length, D, I⟩ = 0 ∧ (s.apply ⟨P.length, D, I⟩).l = P ++ (I ++ S) := by
  have hl : s.l.length = P.length + (D.length + S.length) := by rw [h]; simp
  have h1 : ¬ ((P.length : Int) < 0) := by omega
  have h2 : ¬ ((s.l.length : Int) < (P.length : Int)) := by omega
  have h3 : ¬ ((s.l.length : Int) - (P.length : Int) < (D.length : Int)) := by omega
  have h4 : (s.l.drop P.length).take D.length = D := by rw [h]; simp
  have e1 : s.err (P.length : Int) ((P.length : Int) + (D.length : Int)) I.length = 0 := by
    unfold BS.err
    rw [if_neg (by omega), if_neg (by omega)]
  simp only [BS.apply, BS.applyErr, if_neg h1, if_neg h2, if_neg h3, Int.toNat_natCast]
  rw [if_neg (by simpa using h4), if_neg (by simpa using h4)]
  refine ⟨e1, ?_⟩
  simp only [BS.after, e1, if_true, BS.splice]
  rw [h, show ((P.length : Int) + (D.length : Int)).toNat = P.length + D.length by omega, Int.toNat_natCast]
  have e2 : (P ++ (D ++ S)).drop (P.length + D.length) = S := by
    rw [← List.append_assoc]
    have : P.length + D.length = (P ++ D).length := by simp
    rw [this, List.drop_left]
  rw [e2, List.take_left]
  simp

set_option maxRecDepth 100000 in
theorem back_long (w : World) (A : Option Addr) (n c : Nat) (hn : n ≤ maxLen) (hlong : 1024 < n) (x0 x1 x2 x3 x4 x5 x6 : Value) :
    Calls Tryd.prog 5 #[.slice A n c, .agg #[x0, x1, x2, x3, x4, x5, x6]] w (Yea w) := by
  have hk0 := (Keeps.refl [] w).alloc (.cells #[x0, x1, x2, x3, x4, x5, x6] 26)
  have hn2 := hn
  unfold maxLen at hn2
  go_enter Tryd.func5, Tryd.ntmps5
  go_wp2_with fail
  refine (New_long _ A n c hlong hn).mono ?_
  rintro e w' ⟨rfl, rfl⟩
  go_wp2_with fail
  refine (live07_calls _).mono ?_
  rintro e w2 ⟨rfl, hk2⟩
  have hk3 := hk0.trans hk2
  go_wp2
  go_ret
  exact ⟨by show Ending.returned (Value.bool (decide ((1024 : Int) < (n : Int)))) = _; rw [decide_eq_true (by omega)], hk3⟩

set_option maxRecDepth 100000 in
theorem back_no (w : World) (A : Option Addr) (c : Nat) (l txt : List Int) (hs : Src w A (ns .i32 l)) (hl : l.length ≤ 1024) (kd f t : Int) (B : Option Addr) (d : Nat) (x4 x5 x6 : Value) (hf : In64 f) (ht : In64 t) (hB : Src w B (ns .i32 txt)) (htl : txt.length ≤ 70368744177664)
    (herr : BS.err ⟨l, l.length, -1⟩ f t txt.length ≠ 0) :
    Calls Tryd.prog 5 #[.slice A l.length c, .agg #[.int .i64 kd, .int .i64 f, .int .i64 t, .slice B txt.length d, x4, x5, x6]] w (Yea w) := by
  have hk0 := (Keeps.refl [] w).alloc (.cells #[.int .i64 kd, .int .i64 f, .int .i64 t, .slice B txt.length d, x4, x5, x6] 26)
  have hq := blk_new w (.cells #[.int .i64 kd, .int .i64 f, .int .i64 t, .slice B txt.length d, x4, x5, x6] 26)
  have hz : (w.alloc (.cells #[.int .i64 kd, .int .i64 f, .int .i64 t, .slice B txt.length d, x4, x5, x6] 26)).heap.size = w.heap.size + 1 := by simp
  have Hz := Lib.hid hz; clear hz
  have hBlt := Src.lt hB
  have hlm : l.length ≤ maxLen := by unfold maxLen; omega
  have haf : BS.after ⟨l, l.length, -1⟩ f t txt = ⟨l, l.length, -1⟩ := by unfold BS.after; rw [if_neg herr]
  have Haf := Lib.hid haf; clear haf
  have Herr := Lib.hid herr; clear herr
  go_enter Tryd.func5, Tryd.ntmps5
  go_wp2_with fail
  refine (New_ok _ A c l (hs.keeps hk0 (by simp)) hl).mono ?_
  rintro e w1 ⟨b, F, rfl, hb, hk1, hF⟩
  go_wp2_with fail
  refine (live07_calls _).mono ?_
  rintro e w2 ⟨rfl, hk2⟩
  have hq2 := hk2.blk (hk1.blk hq (by simp)) (by simp)
  have q0 := blk_cell hq2 0
  have q1 := blk_cell hq2 1
  have q2 := blk_cell hq2 2
  have q3 := blk_cell hq2 3
  have hb2 := hb.keeps hk2 (by simp)
  have hk02 := (hk0.trans hk1).trans hk2
  go_wp2_with fail
  have hR := BReplace_calls w2 b F ⟨l, l.length, -1⟩ f t B d txt hb2 hf ht htl (hB.keeps hk02 (by simp)) (fun a ha h0 hh => by have := hBlt a ha h0; have := hF _ hh; have := Hz.out; omega)
  rw [Haf.out] at hR
  have Hne := Herr.out
  generalize BS.err ⟨l, l.length, -1⟩ f t txt.length = code at *
  refine hR.mono ?_
  rintro e w3 ⟨Ad, cd, Ai, ci, rfl, hd, hi, hk3, F', hF', hb3, hfd, hfi⟩
  have hk03 := hk02.then hk3 (fun i hi => .inr (by have := hF i hi; have := Hz.out; omega))
  clear q0 q1 q2 q3 Herr
  go_upto_region 6 with fail
  generalize (BS.edit ⟨l, l.length, -1⟩ f t txt) = E at *
  have hka := (Keeps.refl [] w3).alloc (.cells #[.int .i64 E.at_, .slice Ad E.del.length cd, .slice Ai E.ins.length ci] 24)
  have hb4 := hb3.keeps hka (by simp)
  have hk04 := hk03.trans hka
  generalize w3.alloc (.cells #[.int .i64 E.at_, .slice Ad E.del.length cd, .slice Ai E.ins.length ci] 24) = w4 at *
  go_wp2_with fail
  refine (BText_calls w4 b F' _ hb4).mono ?_
  rintro e w5 ⟨T, tc, rfl, hrT, hk5, hfT⟩
  have hk05 := hk04.trans hk5
  have hb5 := hb4.keeps hk5 (by simp)
  go_wp2_with fail
  refine (Same_calls w5 T A l.length l.length tc c l l (row_src hrT) (hs.keeps hk05 (by simp)) rfl rfl hlm hlm).mono ?_
  rintro e w6 ⟨rfl, hk6⟩
  simp only [decide_true]
  have hb6 := hb5.keeps hk6 (by simp)
  have hk06 := hk05.trans hk6
  go_wp2_with (go_at_call 23; refine (BPoint_calls _ b F' _ hb6).mono ?_; rintro e w' ⟨rfl, rfl⟩)
  go_ret
  exact ⟨by simp, hk06⟩
end Go.Proofs.YtmnmdpgckefefaaDoor.Buf
