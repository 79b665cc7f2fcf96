/- lanyardref07: where words, blanks and characters begin and end: the same as buffer's. -/
import Derived.Test.YtmnmdpgckefefaaDoorWords3
import Derived.Test.YtmnmdpgckefefaaDoorRefKind2
import Derived.Deep.DeepCutAuto
import Derived.Deep.CutBlock
namespace Go.Proofs.YtmnmdpgckefefaaDoor.Words
open Go Go.RowKit Go.Proofs.YtmnmdpgckefefaaDoor.Rw Go.Proofs.YtmnmdpgckefefaaDoor.SlR Go.Proofs.YtmnmdpgckefefaaDoor.Kinds

theorem backN_go (p : Int → Bool) (l : List Int) (i : Nat) (h : p (l.getD i 0) = true) : backN p l (i + 1) = backN p l i := by simp only [backN, h, if_true]
theorem backN_halt (p : Int → Bool) (l : List Int) (i : Nat) (h : p (l.getD i 0) = false) : backN p l (i + 1) = i + 1 := by simp only [backN, h]; rfl
theorem cut_any (w : World) (A : Option Addr) (n c : Nat) (a : Int) (hn : n ≤ maxLen) : Calls Tryd.prog 64 #[.slice A n c, .int .i64 a] w fun e w' => e = .returned (.int .i64 (clampN a n)) ∧ w = w' := by
  unfold maxLen at hn
  by_cases h0 : a < 0
  · rw [show clampN a n = 0 by unfold clampN; omega]
    go_enter Tryd.func64, Tryd.ntmps64
    go_wp2
    go_ret
    refine ⟨?_, rfl⟩
    exact congrArg (fun b => Ending.returned (.int .i64 b)) (by first | rfl | omega)
  · by_cases h1 : (n : Int) < a
    · rw [show clampN a n = n by unfold clampN; omega]
      go_enter Tryd.func64, Tryd.ntmps64
      go_wp2
      go_ret
      refine ⟨?_, rfl⟩
      exact congrArg (fun b => Ending.returned (.int .i64 b)) (by first | rfl | omega)
    · have e : ((clampN a n : Nat) : Int) = a := by unfold clampN; omega
      rw [e]
      go_enter Tryd.func64, Tryd.ntmps64
      go_wp2
      go_ret
      refine ⟨?_, rfl⟩
      exact congrArg (fun b => Ending.returned (.int .i64 b)) (by first | rfl | omega)
theorem RfBlank_calls (w : World) (r : Int) : Calls Tryd.prog 68 #[.int .i32 r] w fun e w' => e = .returned (.bool (blankR r)) ∧ w = w' := by
  by_cases h1 : r = 32
  · subst h1
    go_enter Tryd.func68, Tryd.ntmps68
    go_wp2
    go_ret
    exact ⟨rfl, rfl⟩
  · by_cases h2 : r = 9
    · subst h2
      go_enter Tryd.func68, Tryd.ntmps68
      go_wp2
      go_ret
      exact ⟨rfl, rfl⟩
    · rw [show blankR r = false by simp [blankR, h1, h2]]
      go_enter Tryd.func68, Tryd.ntmps68
      go_wp2
      all_goals go_ret
      all_goals exact ⟨by simp [h1, h2], rfl⟩
theorem Own_calls (w : World) (r : Int) (hr : R32 r) : Calls Tryd.prog 65 #[.int .i32 r] w fun e w' => e = .returned (.bool (beginsR r)) ∧ Keeps [] w w' := by
  have hC := RfControl_calls w r hr.1 hr.2
  have hW := RfWidth_calls w r hr.1 hr.2
  have hk0 := Keeps.refl [] w
  cases c : ctl r with
  | true =>
    rw [show beginsR r = true by simp [beginsR, c]]
    rw [c] at hC
    clear hW c hr
    go_enter Tryd.func65, Tryd.ntmps65
    go_wp2_with (go_at_call 77; refine hC.mono ?_; rintro e w' ⟨rfl, rfl⟩)
    go_ret
    exact ⟨rfl, hk0⟩
  | false =>
    rw [show beginsR r = !(width r == 0) by simp only [beginsR, c]; by_cases h : width r = 0 <;> simp [h]]
    rw [c] at hC
    generalize width r = wd at *
    clear c hr
    go_enter Tryd.func65, Tryd.ntmps65
    go_wp2_with (first | (go_at_call 77; refine hC.mono ?_; rintro e w' ⟨rfl, rfl⟩) | (go_at_call 78; refine hW.mono ?_; rintro e w1 ⟨rfl, hk1⟩))
    go_ret
    refine ⟨?_, hk1⟩
    first | rfl | (refine congrArg (fun b => Ending.returned (.bool b)) ?_; simp [bne])
section
variable (w : World) (A : Option Addr) (n c : Nat) (a : Int) (l : List Int)

set_option maxRecDepth 100000 in
set_option maxHeartbeats 1000000 in
theorem RfWordEnd_any (hl : Src w A (ns .i32 l)) (hln : l.length = n) (hn : n ≤ maxLen) (hD : ∀ r ∈ l, R32 r) :
    Calls Tryd.prog 35 #[.slice A n c, .int .i64 a] w fun e w' => e = .returned (.int .i64 (overN letter l (overN (fun r => !letter r) l (clampN a n)))) ∧ Keeps [] w w' := by
  have hC := cut_any w A n c a hn
  have hcl := clamp_le a n
  unfold maxLen at hn
  generalize clampN a n = a0 at *
  obtain ⟨m, hm⟩ : ∃ m, m = overN (fun r => !letter r) l a0 := ⟨_, rfl⟩
  have hmn : m ≤ n := by rw [hm]; exact Nat.le_trans (overN_le _ l a0 (by omega)) (by omega)
  rw [← hm]
  have Hm := Lib.hid hm; clear hm
  have Hn := Lib.hid hln; clear hln
  go_enter Tryd.func35, Tryd.ntmps35
  go_upto_block 0 with (go_at_call 64; refine hC.mono ?_; rintro e w' ⟨rfl, rfl⟩)
  go_cut [1] (fun v wx => v = .int .i64 (overN (fun r => !letter r) l a0 : Nat) ∧ Keeps [] w wx)
  case first =>
    go_wp2_with fail
    go_loopw [1] (fun i wr => ∃ j : Nat, j ≤ n ∧ i = .int .i64 j ∧ Keeps [] w wr ∧ Hid (overN (fun r => !letter r) l (a0) = overN (fun r => !letter r) l j)) (fun i _ => n - (intOf i).toNat)
    case atStart => exact ⟨a0, hcl, rfl, Keeps.refl _ _, rfl⟩
    case round =>
      obtain ⟨j, hj, rfl, hkr, hov⟩ := hrel
      by_cases hlt : j < n
      · have hx : j < l.length := by rw [Hn.out]; exact hlt
        obtain ⟨ad, rfl, hc⟩ := src_num (hl.keeps hkr (by simp)) j hx
        obtain ⟨x, hxe⟩ : ∃ x, x = l[j] := ⟨_, rfl⟩
        rw [← hxe] at hc
        have Hxe := Lib.hid hxe; clear hxe
        have hDx : R32 x := by rw [Hxe.out]; exact hD _ (List.getElem_mem hx)
        go_wp2_with fail
        refine (RfLetter_calls wr x hDx.1 hDx.2).mono ?_
        rintro e w1 ⟨rfl, hk1⟩
        have hk2 := hkr.trans hk1
        obtain ⟨q, hq⟩ : ∃ q, q = letter x := ⟨_, rfl⟩
        rw [← hq]
        have Hq := Lib.hid hq; clear hq
        cases q with
        | false =>
          have Hst := Lib.hid (overN_step (p := (fun r => !letter r)) hx (by first | (rw [← Hxe.out, ← Hq.out]; done) | (rw [← Hxe.out, ← Hq.out]; rfl)))
          go_wp2
          go_roundw
          case rel => exact ⟨j + 1, by omega, by go_num, hk2, by show _ = _; rw [hov.out, Hst.out]⟩
          case measure => simp [intOf]; omega
        | true =>
          have Hst := Lib.hid (overN_stop (p := (fun r => !letter r)) hx (by first | (rw [← Hxe.out, ← Hq.out]; done) | (rw [← Hxe.out, ← Hq.out]; rfl)))
          go_wp2
          go_meet
          exact ⟨by rw [hov.out, Hst.out], hk2⟩
      · obtain rfl : j = n := by omega
        go_wp2
        go_meet
        exact ⟨by rw [hov.out, overN_end (by rw [Hn.out]; omega)], hkr⟩
  case rest =>
    obtain ⟨w5, rfl⟩ : ∃ w5, w5 = wc := ⟨_, rfl⟩
    obtain ⟨rfl, hk5⟩ := hcut
    rw [← Hm.out]
    go_upto_block 2 with fail
    go_cut [1] (fun v wx => v = .int .i64 (overN letter l m : Nat) ∧ Keeps [] w wx)
    case first =>
      go_wp2_with fail
      go_loopw [1] (fun i wr => ∃ j : Nat, j ≤ n ∧ i = .int .i64 j ∧ Keeps [] w wr ∧ Hid (overN letter l (m) = overN letter l j)) (fun i _ => n - (intOf i).toNat)
      case atStart => exact ⟨m, hmn, rfl, hk5, rfl⟩
      case round =>
        obtain ⟨j, hj, rfl, hkr, hov⟩ := hrel
        by_cases hlt : j < n
        · have hx : j < l.length := by rw [Hn.out]; exact hlt
          obtain ⟨ad, rfl, hc⟩ := src_num (hl.keeps hkr (by simp)) j hx
          obtain ⟨x, hxe⟩ : ∃ x, x = l[j] := ⟨_, rfl⟩
          rw [← hxe] at hc
          have Hxe := Lib.hid hxe; clear hxe
          have hDx : R32 x := by rw [Hxe.out]; exact hD _ (List.getElem_mem hx)
          go_wp2_with fail
          refine (RfLetter_calls wr x hDx.1 hDx.2).mono ?_
          rintro e w1 ⟨rfl, hk1⟩
          have hk2 := hkr.trans hk1
          obtain ⟨q, hq⟩ : ∃ q, q = letter x := ⟨_, rfl⟩
          rw [← hq]
          have Hq := Lib.hid hq; clear hq
          cases q with
          | true =>
            have Hst := Lib.hid (overN_step (p := letter) hx (by first | (rw [← Hxe.out, ← Hq.out]; done) | (rw [← Hxe.out, ← Hq.out]; rfl)))
            go_wp2
            go_roundw
            case rel => exact ⟨j + 1, by omega, by go_num, hk2, by show _ = _; rw [hov.out, Hst.out]⟩
            case measure => simp [intOf]; omega
          | false =>
            have Hst := Lib.hid (overN_stop (p := letter) hx (by first | (rw [← Hxe.out, ← Hq.out]; done) | (rw [← Hxe.out, ← Hq.out]; rfl)))
            go_wp2
            go_meet
            exact ⟨by rw [hov.out, Hst.out], hk2⟩
        · obtain rfl : j = n := by omega
          go_wp2
          go_meet
          exact ⟨by rw [hov.out, overN_end (by rw [Hn.out]; omega)], hkr⟩
    case rest =>
      obtain ⟨w6, rfl⟩ : ∃ w6, w6 = wc := ⟨_, rfl⟩
      obtain ⟨rfl, hk6⟩ := hcut
      go_wp2
      go_ret
      exact ⟨rfl, hk6⟩
set_option maxRecDepth 100000 in
set_option maxHeartbeats 1000000 in
theorem RfWordStart_any (hl : Src w A (ns .i32 l)) (hln : l.length = n) (hn : n ≤ maxLen) (hD : ∀ r ∈ l, R32 r) :
    Calls Tryd.prog 36 #[.slice A n c, .int .i64 a] w fun e w' => e = .returned (.int .i64 (backN letter l (backN (fun r => !letter r) l (clampN a n)))) ∧ Keeps [] w w' := by
  have hC := cut_any w A n c a hn
  have hcl := clamp_le a n
  unfold maxLen at hn
  generalize clampN a n = a0 at *
  obtain ⟨m, hm⟩ : ∃ m, m = backN (fun r => !letter r) l a0 := ⟨_, rfl⟩
  have hmn : m ≤ n := by rw [hm]; exact Nat.le_trans (backN_le _ l a0) hcl
  rw [← hm]
  have Hm := Lib.hid hm; clear hm
  have Hn := Lib.hid hln; clear hln
  go_enter Tryd.func36, Tryd.ntmps36
  go_upto_block 0 with (go_at_call 64; refine hC.mono ?_; rintro e w' ⟨rfl, rfl⟩)
  go_cut [1] (fun v wx => v = .int .i64 (backN (fun r => !letter r) l a0 : Nat) ∧ Keeps [] w wx)
  case first =>
    go_wp2_with fail
    go_loopw [1] (fun i wr => ∃ j : Nat, j ≤ n ∧ i = .int .i64 j ∧ Keeps [] w wr ∧ Hid (backN (fun r => !letter r) l (a0) = backN (fun r => !letter r) l j)) (fun i _ => (intOf i).toNat)
    case atStart => exact ⟨a0, hcl, rfl, Keeps.refl _ _, rfl⟩
    case round =>
      obtain ⟨j, hj, rfl, hkr, hov⟩ := hrel
      by_cases h0 : 0 < j
      · obtain ⟨i, hi⟩ : ∃ i : Nat, (j : Int) - 1 = (i : Int) := ⟨j - 1, by omega⟩
        have Hij := Lib.hid (show j = i + 1 by omega)
        have hin : i < n := by omega
        have hij : i < j := by omega
        have hx : i < l.length := by rw [Hn.out]; exact hin
        obtain ⟨ad, rfl, hc⟩ := src_num (hl.keeps hkr (by simp)) i hx
        obtain ⟨x, hxe⟩ : ∃ x, x = l[i] := ⟨_, rfl⟩
        rw [← hxe] at hc
        have Hxe := Lib.hid hxe; clear hxe
        have hDx : R32 x := by rw [Hxe.out]; exact hD _ (List.getElem_mem hx)
        have hgd : Hid (l.getD i 0 = x) := by show _ = _; rw [Hxe.out]; simp [List.getD, hx]
        go_wp2_with fail
        refine (RfLetter_calls wr x hDx.1 hDx.2).mono ?_
        rintro e w1 ⟨rfl, hk1⟩
        have hk2 := hkr.trans hk1
        obtain ⟨q, hq⟩ : ∃ q, q = letter x := ⟨_, rfl⟩
        rw [← hq]
        have Hq := Lib.hid hq; clear hq
        cases q with
        | false =>
          have Hst := Lib.hid (show backN (fun r => !letter r) l j = backN (fun r => !letter r) l i by rw [Hij.out]; exact backN_go (fun r => !letter r) l i (by show (!letter (l.getD i 0)) = true; rw [hgd.out, ← Hq.out]; rfl))
          go_wp2
          go_roundw
          case rel => exact ⟨i, by omega, rfl, hk2, by show _ = _; rw [hov.out, Hst.out]⟩
          case measure => simp [intOf]; omega
        | true =>
          have Hst := Lib.hid (show backN (fun r => !letter r) l j = j by rw [Hij.out]; exact backN_halt (fun r => !letter r) l i (by show (!letter (l.getD i 0)) = false; rw [hgd.out, ← Hq.out]; rfl))
          clear hi
          go_wp2
          go_meet
          exact ⟨by rw [hov.out, Hst.out], hk2⟩
      · obtain rfl : j = 0 := by omega
        go_wp2
        go_meet
        exact ⟨by rw [hov.out]; rfl, hkr⟩
  case rest =>
    obtain ⟨w5, rfl⟩ : ∃ w5, w5 = wc := ⟨_, rfl⟩
    obtain ⟨rfl, hk5⟩ := hcut
    rw [← Hm.out]
    go_upto_block 2 with fail
    go_cut [1] (fun v wx => v = .int .i64 (backN letter l m : Nat) ∧ Keeps [] w wx)
    case first =>
      go_wp2_with fail
      go_loopw [1] (fun i wr => ∃ j : Nat, j ≤ n ∧ i = .int .i64 j ∧ Keeps [] w wr ∧ Hid (backN letter l (m) = backN letter l j)) (fun i _ => (intOf i).toNat)
      case atStart => exact ⟨m, hmn, rfl, hk5, rfl⟩
      case round =>
        obtain ⟨j, hj, rfl, hkr, hov⟩ := hrel
        by_cases h0 : 0 < j
        · obtain ⟨i, hi⟩ : ∃ i : Nat, (j : Int) - 1 = (i : Int) := ⟨j - 1, by omega⟩
          have Hij := Lib.hid (show j = i + 1 by omega)
          have hin : i < n := by omega
          have hij : i < j := by omega
          have hx : i < l.length := by rw [Hn.out]; exact hin
          obtain ⟨ad, rfl, hc⟩ := src_num (hl.keeps hkr (by simp)) i hx
          obtain ⟨x, hxe⟩ : ∃ x, x = l[i] := ⟨_, rfl⟩
          rw [← hxe] at hc
          have Hxe := Lib.hid hxe; clear hxe
          have hDx : R32 x := by rw [Hxe.out]; exact hD _ (List.getElem_mem hx)
          have hgd : Hid (l.getD i 0 = x) := by show _ = _; rw [Hxe.out]; simp [List.getD, hx]
          go_wp2_with fail
          refine (RfLetter_calls wr x hDx.1 hDx.2).mono ?_
          rintro e w1 ⟨rfl, hk1⟩
          have hk2 := hkr.trans hk1
          obtain ⟨q, hq⟩ : ∃ q, q = letter x := ⟨_, rfl⟩
          rw [← hq]
          have Hq := Lib.hid hq; clear hq
          cases q with
          | true =>
            have Hst := Lib.hid (show backN letter l j = backN letter l i by rw [Hij.out]; exact backN_go letter l i (by show letter (l.getD i 0) = true; rw [hgd.out, ← Hq.out]))
            go_wp2
            go_roundw
            case rel => exact ⟨i, by omega, rfl, hk2, by show _ = _; rw [hov.out, Hst.out]⟩
            case measure => simp [intOf]; omega
          | false =>
            have Hst := Lib.hid (show backN letter l j = j by rw [Hij.out]; exact backN_halt letter l i (by show letter (l.getD i 0) = false; rw [hgd.out, ← Hq.out]))
            clear hi
            go_wp2
            go_meet
            exact ⟨by rw [hov.out, Hst.out], hk2⟩
        · obtain rfl : j = 0 := by omega
          go_wp2
          go_meet
          exact ⟨by rw [hov.out]; rfl, hkr⟩
    case rest =>
      obtain ⟨w6, rfl⟩ : ∃ w6, w6 = wc := ⟨_, rfl⟩
      obtain ⟨rfl, hk6⟩ := hcut
      go_wp2
      go_ret
      exact ⟨rfl, hk6⟩
set_option maxRecDepth 100000 in
set_option maxHeartbeats 1000000 in
theorem RfBlankEnd_any (hl : Src w A (ns .i32 l)) (hln : l.length = n) (hn : n ≤ maxLen) (hD : ∀ r ∈ l, R32 r) :
    Calls Tryd.prog 40 #[.slice A n c, .int .i64 a] w fun e w' => e = .returned (.int .i64 (overN (fun r => !blankR r) l (overN blankR l (clampN a n)))) ∧ Keeps [] w w' := by
  have hC := cut_any w A n c a hn
  have hcl := clamp_le a n
  unfold maxLen at hn
  generalize clampN a n = a0 at *
  obtain ⟨m, hm⟩ : ∃ m, m = overN blankR l a0 := ⟨_, rfl⟩
  have hmn : m ≤ n := by rw [hm]; exact Nat.le_trans (overN_le _ l a0 (by omega)) (by omega)
  rw [← hm]
  have Hm := Lib.hid hm; clear hm
  have Hn := Lib.hid hln; clear hln
  go_enter Tryd.func40, Tryd.ntmps40
  go_upto_block 0 with (go_at_call 64; refine hC.mono ?_; rintro e w' ⟨rfl, rfl⟩)
  go_cut [1] (fun v wx => v = .int .i64 (overN blankR l a0 : Nat) ∧ Keeps [] w wx)
  case first =>
    go_wp2_with fail
    go_loopw [1] (fun i wr => ∃ j : Nat, j ≤ n ∧ i = .int .i64 j ∧ Keeps [] w wr ∧ Hid (overN blankR l (a0) = overN blankR l j)) (fun i _ => n - (intOf i).toNat)
    case atStart => exact ⟨a0, hcl, rfl, Keeps.refl _ _, rfl⟩
    case round =>
      obtain ⟨j, hj, rfl, hkr, hov⟩ := hrel
      by_cases hlt : j < n
      · have hx : j < l.length := by rw [Hn.out]; exact hlt
        obtain ⟨ad, rfl, hc⟩ := src_num (hl.keeps hkr (by simp)) j hx
        obtain ⟨x, hxe⟩ : ∃ x, x = l[j] := ⟨_, rfl⟩
        rw [← hxe] at hc
        have Hxe := Lib.hid hxe; clear hxe
        have hDx : R32 x := by rw [Hxe.out]; exact hD _ (List.getElem_mem hx)
        go_wp2_with fail
        refine ((RfBlank_calls wr x).mono (fun e w2 (h : e = .returned (.bool (blankR x)) ∧ wr = w2) => (⟨h.1, h.2 ▸ Keeps.refl _ _⟩ : e = .returned (.bool (blankR x)) ∧ Keeps [] wr w2))).mono ?_
        rintro e w1 ⟨rfl, hk1⟩
        have hk2 := hkr.trans hk1
        obtain ⟨q, hq⟩ : ∃ q, q = blankR x := ⟨_, rfl⟩
        rw [← hq]
        have Hq := Lib.hid hq; clear hq
        cases q with
        | true =>
          have Hst := Lib.hid (overN_step (p := blankR) hx (by first | (rw [← Hxe.out, ← Hq.out]; done) | (rw [← Hxe.out, ← Hq.out]; rfl)))
          go_wp2
          go_roundw
          case rel => exact ⟨j + 1, by omega, by go_num, hk2, by show _ = _; rw [hov.out, Hst.out]⟩
          case measure => simp [intOf]; omega
        | false =>
          have Hst := Lib.hid (overN_stop (p := blankR) hx (by first | (rw [← Hxe.out, ← Hq.out]; done) | (rw [← Hxe.out, ← Hq.out]; rfl)))
          go_wp2
          go_meet
          exact ⟨by rw [hov.out, Hst.out], hk2⟩
      · obtain rfl : j = n := by omega
        go_wp2
        go_meet
        exact ⟨by rw [hov.out, overN_end (by rw [Hn.out]; omega)], hkr⟩
  case rest =>
    obtain ⟨w5, rfl⟩ : ∃ w5, w5 = wc := ⟨_, rfl⟩
    obtain ⟨rfl, hk5⟩ := hcut
    rw [← Hm.out]
    go_upto_block 2 with fail
    go_cut [1] (fun v wx => v = .int .i64 (overN (fun r => !blankR r) l m : Nat) ∧ Keeps [] w wx)
    case first =>
      go_wp2_with fail
      go_loopw [1] (fun i wr => ∃ j : Nat, j ≤ n ∧ i = .int .i64 j ∧ Keeps [] w wr ∧ Hid (overN (fun r => !blankR r) l (m) = overN (fun r => !blankR r) l j)) (fun i _ => n - (intOf i).toNat)
      case atStart => exact ⟨m, hmn, rfl, hk5, rfl⟩
      case round =>
        obtain ⟨j, hj, rfl, hkr, hov⟩ := hrel
        by_cases hlt : j < n
        · have hx : j < l.length := by rw [Hn.out]; exact hlt
          obtain ⟨ad, rfl, hc⟩ := src_num (hl.keeps hkr (by simp)) j hx
          obtain ⟨x, hxe⟩ : ∃ x, x = l[j] := ⟨_, rfl⟩
          rw [← hxe] at hc
          have Hxe := Lib.hid hxe; clear hxe
          have hDx : R32 x := by rw [Hxe.out]; exact hD _ (List.getElem_mem hx)
          go_wp2_with fail
          refine ((RfBlank_calls wr x).mono (fun e w2 (h : e = .returned (.bool (blankR x)) ∧ wr = w2) => (⟨h.1, h.2 ▸ Keeps.refl _ _⟩ : e = .returned (.bool (blankR x)) ∧ Keeps [] wr w2))).mono ?_
          rintro e w1 ⟨rfl, hk1⟩
          have hk2 := hkr.trans hk1
          obtain ⟨q, hq⟩ : ∃ q, q = blankR x := ⟨_, rfl⟩
          rw [← hq]
          have Hq := Lib.hid hq; clear hq
          cases q with
          | false =>
            have Hst := Lib.hid (overN_step (p := (fun r => !blankR r)) hx (by first | (rw [← Hxe.out, ← Hq.out]; done) | (rw [← Hxe.out, ← Hq.out]; rfl)))
            go_wp2
            go_roundw
            case rel => exact ⟨j + 1, by omega, by go_num, hk2, by show _ = _; rw [hov.out, Hst.out]⟩
            case measure => simp [intOf]; omega
          | true =>
            have Hst := Lib.hid (overN_stop (p := (fun r => !blankR r)) hx (by first | (rw [← Hxe.out, ← Hq.out]; done) | (rw [← Hxe.out, ← Hq.out]; rfl)))
            go_wp2
            go_meet
            exact ⟨by rw [hov.out, Hst.out], hk2⟩
        · obtain rfl : j = n := by omega
          go_wp2
          go_meet
          exact ⟨by rw [hov.out, overN_end (by rw [Hn.out]; omega)], hkr⟩
    case rest =>
      obtain ⟨w6, rfl⟩ : ∃ w6, w6 = wc := ⟨_, rfl⟩
      obtain ⟨rfl, hk6⟩ := hcut
      go_wp2
      go_ret
      exact ⟨rfl, hk6⟩
set_option maxRecDepth 100000 in
set_option maxHeartbeats 1000000 in
theorem RfBlankStart_any (hl : Src w A (ns .i32 l)) (hln : l.length = n) (hn : n ≤ maxLen) (hD : ∀ r ∈ l, R32 r) :
    Calls Tryd.prog 38 #[.slice A n c, .int .i64 a] w fun e w' => e = .returned (.int .i64 (backN (fun r => !blankR r) l (backN blankR l (clampN a n)))) ∧ Keeps [] w w' := by
  have hC := cut_any w A n c a hn
  have hcl := clamp_le a n
  unfold maxLen at hn
  generalize clampN a n = a0 at *
  obtain ⟨m, hm⟩ : ∃ m, m = backN blankR l a0 := ⟨_, rfl⟩
  have hmn : m ≤ n := by rw [hm]; exact Nat.le_trans (backN_le _ l a0) hcl
  rw [← hm]
  have Hm := Lib.hid hm; clear hm
  have Hn := Lib.hid hln; clear hln
  go_enter Tryd.func38, Tryd.ntmps38
  go_upto_block 0 with (go_at_call 64; refine hC.mono ?_; rintro e w' ⟨rfl, rfl⟩)
  go_cut [1] (fun v wx => v = .int .i64 (backN blankR l a0 : Nat) ∧ Keeps [] w wx)
  case first =>
    go_wp2_with fail
    go_loopw [1] (fun i wr => ∃ j : Nat, j ≤ n ∧ i = .int .i64 j ∧ Keeps [] w wr ∧ Hid (backN blankR l (a0) = backN blankR l j)) (fun i _ => (intOf i).toNat)
    case atStart => exact ⟨a0, hcl, rfl, Keeps.refl _ _, rfl⟩
    case round =>
      obtain ⟨j, hj, rfl, hkr, hov⟩ := hrel
      by_cases h0 : 0 < j
      · obtain ⟨i, hi⟩ : ∃ i : Nat, (j : Int) - 1 = (i : Int) := ⟨j - 1, by omega⟩
        have Hij := Lib.hid (show j = i + 1 by omega)
        have hin : i < n := by omega
        have hij : i < j := by omega
        have hx : i < l.length := by rw [Hn.out]; exact hin
        obtain ⟨ad, rfl, hc⟩ := src_num (hl.keeps hkr (by simp)) i hx
        obtain ⟨x, hxe⟩ : ∃ x, x = l[i] := ⟨_, rfl⟩
        rw [← hxe] at hc
        have Hxe := Lib.hid hxe; clear hxe
        have hDx : R32 x := by rw [Hxe.out]; exact hD _ (List.getElem_mem hx)
        have hgd : Hid (l.getD i 0 = x) := by show _ = _; rw [Hxe.out]; simp [List.getD, hx]
        go_wp2_with fail
        refine ((RfBlank_calls wr x).mono (fun e w2 (h : e = .returned (.bool (blankR x)) ∧ wr = w2) => (⟨h.1, h.2 ▸ Keeps.refl _ _⟩ : e = .returned (.bool (blankR x)) ∧ Keeps [] wr w2))).mono ?_
        rintro e w1 ⟨rfl, hk1⟩
        have hk2 := hkr.trans hk1
        obtain ⟨q, hq⟩ : ∃ q, q = blankR x := ⟨_, rfl⟩
        rw [← hq]
        have Hq := Lib.hid hq; clear hq
        cases q with
        | true =>
          have Hst := Lib.hid (show backN blankR l j = backN blankR l i by rw [Hij.out]; exact backN_go blankR l i (by show blankR (l.getD i 0) = true; rw [hgd.out, ← Hq.out]))
          go_wp2
          go_roundw
          case rel => exact ⟨i, by omega, rfl, hk2, by show _ = _; rw [hov.out, Hst.out]⟩
          case measure => simp [intOf]; omega
        | false =>
          have Hst := Lib.hid (show backN blankR l j = j by rw [Hij.out]; exact backN_halt blankR l i (by show blankR (l.getD i 0) = false; rw [hgd.out, ← Hq.out]))
          clear hi
          go_wp2
          go_meet
          exact ⟨by rw [hov.out, Hst.out], hk2⟩
      · obtain rfl : j = 0 := by omega
        go_wp2
        go_meet
        exact ⟨by rw [hov.out]; rfl, hkr⟩
  case rest =>
    obtain ⟨w5, rfl⟩ : ∃ w5, w5 = wc := ⟨_, rfl⟩
    obtain ⟨rfl, hk5⟩ := hcut
    rw [← Hm.out]
    go_upto_block 2 with fail
    go_cut [1] (fun v wx => v = .int .i64 (backN (fun r => !blankR r) l m : Nat) ∧ Keeps [] w wx)
    case first =>
      go_wp2_with fail
      go_loopw [1] (fun i wr => ∃ j : Nat, j ≤ n ∧ i = .int .i64 j ∧ Keeps [] w wr ∧ Hid (backN (fun r => !blankR r) l (m) = backN (fun r => !blankR r) l j)) (fun i _ => (intOf i).toNat)
      case atStart => exact ⟨m, hmn, rfl, hk5, rfl⟩
      case round =>
        obtain ⟨j, hj, rfl, hkr, hov⟩ := hrel
        by_cases h0 : 0 < j
        · obtain ⟨i, hi⟩ : ∃ i : Nat, (j : Int) - 1 = (i : Int) := ⟨j - 1, by omega⟩
          have Hij := Lib.hid (show j = i + 1 by omega)
          have hin : i < n := by omega
          have hij : i < j := by omega
          have hx : i < l.length := by rw [Hn.out]; exact hin
          obtain ⟨ad, rfl, hc⟩ := src_num (hl.keeps hkr (by simp)) i hx
          obtain ⟨x, hxe⟩ : ∃ x, x = l[i] := ⟨_, rfl⟩
          rw [← hxe] at hc
          have Hxe := Lib.hid hxe; clear hxe
          have hDx : R32 x := by rw [Hxe.out]; exact hD _ (List.getElem_mem hx)
          have hgd : Hid (l.getD i 0 = x) := by show _ = _; rw [Hxe.out]; simp [List.getD, hx]
          go_wp2_with fail
          refine ((RfBlank_calls wr x).mono (fun e w2 (h : e = .returned (.bool (blankR x)) ∧ wr = w2) => (⟨h.1, h.2 ▸ Keeps.refl _ _⟩ : e = .returned (.bool (blankR x)) ∧ Keeps [] wr w2))).mono ?_
          rintro e w1 ⟨rfl, hk1⟩
          have hk2 := hkr.trans hk1
          obtain ⟨q, hq⟩ : ∃ q, q = blankR x := ⟨_, rfl⟩
          rw [← hq]
          have Hq := Lib.hid hq; clear hq
          cases q with
          | false =>
            have Hst := Lib.hid (show backN (fun r => !blankR r) l j = backN (fun r => !blankR r) l i by rw [Hij.out]; exact backN_go (fun r => !blankR r) l i (by show (!blankR (l.getD i 0)) = true; rw [hgd.out, ← Hq.out]; rfl))
            go_wp2
            go_roundw
            case rel => exact ⟨i, by omega, rfl, hk2, by show _ = _; rw [hov.out, Hst.out]⟩
            case measure => simp [intOf]; omega
          | true =>
            have Hst := Lib.hid (show backN (fun r => !blankR r) l j = j by rw [Hij.out]; exact backN_halt (fun r => !blankR r) l i (by show (!blankR (l.getD i 0)) = false; rw [hgd.out, ← Hq.out]; rfl))
            clear hi
            go_wp2
            go_meet
            exact ⟨by rw [hov.out, Hst.out], hk2⟩
        · obtain rfl : j = 0 := by omega
          go_wp2
          go_meet
          exact ⟨by rw [hov.out]; rfl, hkr⟩
    case rest =>
      obtain ⟨w6, rfl⟩ : ∃ w6, w6 = wc := ⟨_, rfl⟩
      obtain ⟨rfl, hk6⟩ := hcut
      go_wp2
      go_ret
      exact ⟨rfl, hk6⟩
set_option maxRecDepth 100000 in
set_option maxHeartbeats 1000000 in
theorem RfNext_any (hl : Src w A (ns .i32 l)) (hln : l.length = n) (hn : n ≤ maxLen) (hD : ∀ r ∈ l, R32 r) :
    Calls Tryd.prog 33 #[.slice A n c, .int .i64 a] w fun e w' => e = .returned (.int .i64 (nextN l (clampN a n))) ∧ Keeps [] w w' := by
  have hC := cut_any w A n c a hn
  have hcl := clamp_le a n
  unfold maxLen at hn
  generalize clampN a n = a0 at *
  by_cases h0 : a0 < n
  · rw [show nextN l a0 = overN (fun r => !beginsR r) l (a0 + 1) by unfold nextN; rw [if_pos (by omega)]]
    obtain ⟨b0, hb0⟩ : ∃ b0 : Nat, (a0 : Int) + 1 = (b0 : Int) := ⟨a0 + 1, by omega⟩
    have Hb := Lib.hid (show a0 + 1 = b0 by omega)
    have hbn : b0 ≤ n := by omega
    rw [Hb.out]
    have Hn := Lib.hid hln; clear hln
    go_enter Tryd.func33, Tryd.ntmps33
    go_upto_block 0 with (go_at_call 64; refine hC.mono ?_; rintro e w' ⟨rfl, rfl⟩)
    clear hb0
    go_cut [1] (fun v wx => v = .int .i64 (overN (fun r => !beginsR r) l b0 : Nat) ∧ Keeps [] w wx)
    case first =>
      go_wp2_with fail
      go_loopw [1] (fun i wr => ∃ j : Nat, j ≤ n ∧ i = .int .i64 j ∧ Keeps [] w wr ∧ Hid (overN (fun r => !beginsR r) l (b0) = overN (fun r => !beginsR r) l j)) (fun i _ => n - (intOf i).toNat)
      case atStart => exact ⟨b0, hbn, rfl, Keeps.refl _ _, rfl⟩
      case round =>
        obtain ⟨j, hj, rfl, hkr, hov⟩ := hrel
        by_cases hlt : j < n
        · have hx : j < l.length := by rw [Hn.out]; exact hlt
          obtain ⟨ad, rfl, hc⟩ := src_num (hl.keeps hkr (by simp)) j hx
          obtain ⟨x, hxe⟩ : ∃ x, x = l[j] := ⟨_, rfl⟩
          rw [← hxe] at hc
          have Hxe := Lib.hid hxe; clear hxe
          have hDx : R32 x := by rw [Hxe.out]; exact hD _ (List.getElem_mem hx)
          go_wp2_with fail
          refine (Own_calls wr x hDx).mono ?_
          rintro e w1 ⟨rfl, hk1⟩
          have hk2 := hkr.trans hk1
          obtain ⟨q, hq⟩ : ∃ q, q = beginsR x := ⟨_, rfl⟩
          rw [← hq]
          have Hq := Lib.hid hq; clear hq
          cases q with
          | false =>
            have Hst := Lib.hid (overN_step (p := (fun r => !beginsR r)) hx (by first | (rw [← Hxe.out, ← Hq.out]; done) | (rw [← Hxe.out, ← Hq.out]; rfl)))
            go_wp2
            go_roundw
            case rel => exact ⟨j + 1, by omega, by go_num, hk2, by show _ = _; rw [hov.out, Hst.out]⟩
            case measure => simp [intOf]; omega
          | true =>
            have Hst := Lib.hid (overN_stop (p := (fun r => !beginsR r)) hx (by first | (rw [← Hxe.out, ← Hq.out]; done) | (rw [← Hxe.out, ← Hq.out]; rfl)))
            go_wp2
            go_meet
            exact ⟨by rw [hov.out, Hst.out], hk2⟩
        · obtain rfl : j = n := by omega
          go_wp2
          go_meet
          exact ⟨by rw [hov.out, overN_end (by rw [Hn.out]; omega)], hkr⟩
    case rest =>
      obtain ⟨w6, rfl⟩ : ∃ w6, w6 = wc := ⟨_, rfl⟩
      obtain ⟨rfl, hk6⟩ := hcut
      go_wp2
      go_ret
      exact ⟨rfl, hk6⟩
  · obtain rfl : a0 = n := by omega
    rw [show nextN l a0 = a0 by unfold nextN; rw [if_neg (by omega)]]
    clear h0
    go_enter Tryd.func33, Tryd.ntmps33
    go_wp2_with (go_at_call 64; refine hC.mono ?_; rintro e w' ⟨rfl, rfl⟩)
    go_loopw [1] (fun i wr => i = .int .i64 (a0 : Nat) ∧ Keeps [] w wr) (fun i _ => a0 - (intOf i).toNat)
    case atStart => exact ⟨rfl, Keeps.refl _ _⟩
    case round =>
      obtain ⟨rfl, hkr⟩ := hrel
      go_wp2
      go_ret
      exact ⟨rfl, hkr⟩
set_option maxRecDepth 100000 in
set_option maxHeartbeats 1000000 in
theorem RfPrevious_any (hl : Src w A (ns .i32 l)) (hln : l.length = n) (hn : n ≤ maxLen) (hD : ∀ r ∈ l, R32 r) :
    Calls Tryd.prog 34 #[.slice A n c, .int .i64 a] w fun e w' => e = .returned (.int .i64 (prevN l (clampN a n))) ∧ Keeps [] w w' := by
  have hC := cut_any w A n c a hn
  have hcl := clamp_le a n
  unfold maxLen at hn
  generalize clampN a n = a0 at *
  by_cases h0 : 0 < a0
  · obtain ⟨b0, hb0⟩ : ∃ b0 : Nat, (a0 : Int) - 1 = (b0 : Int) := ⟨a0 - 1, by omega⟩
    have Hb := Lib.hid (show a0 = b0 + 1 by omega)
    have hbn : b0 < n := by omega
    have Hn := Lib.hid hln; clear hln
    go_enter Tryd.func34, Tryd.ntmps34
    go_wp2_with (go_at_call 64; refine hC.mono ?_; rintro e w' ⟨rfl, rfl⟩)
    clear hb0
    go_loopw [1] (fun i wr => ∃ j : Nat, j < n ∧ i = .int .i64 j ∧ Keeps [] w wr ∧ Hid (prevN l a0 = prevN l (j + 1))) (fun i _ => (intOf i).toNat)
    case atStart => exact ⟨b0, hbn, rfl, Keeps.refl _ _, by show _ = _; rw [Hb.out]⟩
    case round =>
      obtain ⟨j, hj, rfl, hkr, hov⟩ := hrel
      by_cases h1 : 0 < j
      · obtain ⟨i, hi⟩ : ∃ i : Nat, (j : Int) - 1 = (i : Int) := ⟨j - 1, by omega⟩
        have Hij := Lib.hid (show j = i + 1 by omega)
        have hin : i < n := by omega
        have hij : i < j := by omega
        have hx : j < l.length := by rw [Hn.out]; exact hj
        obtain ⟨ad, rfl, hc⟩ := src_num (hl.keeps hkr (by simp)) j hx
        obtain ⟨x, hxe⟩ : ∃ x, x = l[j] := ⟨_, rfl⟩
        rw [← hxe] at hc
        have Hxe := Lib.hid hxe; clear hxe
        have hDx : R32 x := by rw [Hxe.out]; exact hD _ (List.getElem_mem hx)
        have hgd : Hid (l.getD j 0 = x) := by show _ = _; rw [Hxe.out]; simp [List.getD, hx]
        go_wp2_with fail
        refine (Own_calls wr x hDx).mono ?_
        rintro e w1 ⟨rfl, hk1⟩
        have hk2 := hkr.trans hk1
        obtain ⟨q, hq⟩ : ∃ q, q = beginsR x := ⟨_, rfl⟩
        rw [← hq]
        have Hq := Lib.hid hq; clear hq
        cases q with
        | true =>
          have Hst := Lib.hid (show prevN l (j + 1) = j by simp only [prevN]; rw [hgd.out, ← Hq.out]; rfl)
          clear hi
          go_wp2
          go_ret
          exact ⟨by rw [hov.out, Hst.out]; rfl, hk2⟩
        | false =>
          have Hst := Lib.hid (show prevN l (j + 1) = prevN l j by simp only [prevN]; rw [hgd.out, ← Hq.out]; rfl)
          go_wp2
          go_roundw
          case rel => exact ⟨i, by omega, rfl, hk2, by show _ = _; rw [hov.out, Hst.out, ← Hij.out]⟩
          case measure => simp [intOf]; omega
      · obtain rfl : j = 0 := by omega
        have Hst := Lib.hid (show prevN l (0 + 1) = 0 by simp only [prevN]; split <;> rfl)
        go_wp2
        go_ret
        exact ⟨by rw [hov.out, Hst.out]; rfl, hkr⟩
  · obtain rfl : a0 = 0 := by omega
    rw [show prevN l 0 = 0 from rfl]
    clear h0
    go_enter Tryd.func34, Tryd.ntmps34
    go_wp2_with (go_at_call 64; refine hC.mono ?_; rintro e w' ⟨rfl, rfl⟩)
    go_loopw [1] (fun i wr => i = .int .i64 (0 : Nat) ∧ Keeps [] w wr) (fun i _ => (intOf i).toNat)
    case atStart => exact ⟨rfl, Keeps.refl _ _⟩
    case round =>
      obtain ⟨rfl, hkr⟩ := hrel
      go_wp2
      go_ret
      exact ⟨rfl, hkr⟩
set_option maxRecDepth 100000 in
set_option maxHeartbeats 1000000 in
theorem BFind_fwd (r : Int) (hl : Src w A (ns .i32 l)) (hln : l.length = n) (hn : n ≤ 70368744177664) :
    Calls Tryd.prog 31 #[.slice A n c, .int .i64 a, .int .i32 r, .bool true] w fun e w' => e = .returned (.tuple #[.int .i64 (findF l r (n - (clampN a n + 1)) (clampN a n + 1)).1, .bool (findF l r (n - (clampN a n + 1)) (clampN a n + 1)).2]) ∧ Keeps [] w w' := by
  have hC := within_any w A n c a (by unfold maxLen; omega)
  have hcl := clamp_le a n
  generalize clampN a n = a0 at *
  have Hn := Lib.hid hln; clear hln
  generalize hR : findF l r (n - (a0 + 1)) (a0 + 1) = R at *
  have HR := Lib.hid hR; clear hR
  obtain ⟨R1, R2⟩ := R
  go_enter Tryd.func31, Tryd.ntmps31
  go_wp2_with (go_at_call 59; refine hC.mono ?_; rintro e w' ⟨rfl, rfl⟩)
  go_loopw [10] (fun i wr => ∃ j : Nat, j ≤ n + 1 ∧ i = .int .i64 j ∧ Keeps [] w wr ∧ Hid (findF l r (n - j) j = (R1, R2))) (fun i _ => n - (intOf i).toNat)
  case atStart => exact ⟨a0 + 1, by omega, by go_num, Keeps.refl _ _, HR⟩
  case round =>
    obtain ⟨j, hj, rfl, hkr, hov⟩ := hrel
    by_cases hlt : j < n
    · have hx : j < l.length := by rw [Hn.out]; exact hlt
      obtain ⟨ad, rfl, hc⟩ := src_num (hl.keeps hkr (by simp)) j hx
      obtain ⟨x, hxe⟩ : ∃ x, x = l[j] := ⟨_, rfl⟩
      rw [← hxe] at hc
      have Hxe := Lib.hid hxe; clear hxe
      have hgd : Hid (l.getD j 0 = x) := by show _ = _; rw [Hxe.out]; simp [List.getD, hx]
      have hstep : Hid (findF l r (n - j) j = if x = r then ((j : Int), true) else findF l r (n - (j + 1)) (j + 1)) := by
        show _ = _
        rw [show n - j = (n - (j + 1)) + 1 by omega]; simp only [findF]; rw [hgd.out]
      by_cases hxr : x = r
      · have hres := Lib.hid (show (R1, R2) = ((j : Int), true) by rw [← hov.out, hstep.out, if_pos hxr])
        have Hxr := Lib.hid hxr
        subst hxr
        go_wp2
        go_ret2
        have h := hres.out
        simp only [Prod.mk.injEq] at h
        exact ⟨by first | (rw [h.1, h.2]; done) | (rw [h.1, h.2]; rfl), hkr⟩
      · have hnx : Hid (findF l r (n - (j + 1)) (j + 1) = (R1, R2)) := by show _ = _; rw [← hov.out, hstep.out, if_neg hxr]
        go_wp2
        go_roundw
        case rel => exact ⟨j + 1, by omega, by go_num, hkr, hnx⟩
        case measure => simp [intOf]; omega
    · have hres := Lib.hid (show (R1, R2) = ((0 : Int), false) by rw [← hov.out, show n - j = 0 by omega]; rfl)
      go_wp2
      go_ret2
      have h := hres.out
      simp only [Prod.mk.injEq] at h
      exact ⟨by first | (rw [h.1, h.2]; done) | (rw [h.1, h.2]; rfl), hkr⟩
set_option maxRecDepth 100000 in
set_option maxHeartbeats 1000000 in
theorem BFind_back (r : Int) (hl : Src w A (ns .i32 l)) (hln : l.length = n) (hn : n ≤ 70368744177664) :
    Calls Tryd.prog 31 #[.slice A n c, .int .i64 a, .int .i32 r, .bool false] w fun e w' => e = .returned (.tuple #[.int .i64 (findB l r (clampN a n)).1, .bool (findB l r (clampN a n)).2]) ∧ Keeps [] w w' := by
  have hC := within_any w A n c a (by unfold maxLen; omega)
  have hcl := clamp_le a n
  generalize clampN a n = a0 at *
  have Hn := Lib.hid hln; clear hln
  generalize hR : findB l r a0 = R at *
  have HR := Lib.hid hR; clear hR
  obtain ⟨R1, R2⟩ := R
  go_enter Tryd.func31, Tryd.ntmps31
  go_wp2_with (go_at_call 59; refine hC.mono ?_; rintro e w' ⟨rfl, rfl⟩)
  go_loopw [11] (fun i wr => ∃ j : Nat, j ≤ n ∧ i = .int .i64 ((j : Int) - 1) ∧ Keeps [] w wr ∧ Hid (findB l r j = (R1, R2))) (fun i _ => (intOf i + 1).toNat)
  case atStart => exact ⟨a0, hcl, rfl, Keeps.refl _ _, HR⟩
  case round =>
    obtain ⟨j, hj, rfl, hkr, hov⟩ := hrel
    by_cases h1 : 0 < j
    · obtain ⟨i, hi⟩ : ∃ i : Nat, (j : Int) - 1 = (i : Int) := ⟨j - 1, by omega⟩
      rw [hi]
      have Hij := Lib.hid (show j = i + 1 by omega)
      have hin : i < n := by omega
      clear hi
      have hx : i < l.length := by rw [Hn.out]; exact hin
      obtain ⟨ad, rfl, hc⟩ := src_num (hl.keeps hkr (by simp)) i hx
      obtain ⟨x, hxe⟩ : ∃ x, x = l[i] := ⟨_, rfl⟩
      rw [← hxe] at hc
      have Hxe := Lib.hid hxe; clear hxe
      have hgd : Hid (l.getD i 0 = x) := by show _ = _; rw [Hxe.out]; simp [List.getD, hx]
      have hstep : Hid (findB l r j = if x = r then ((i : Int), true) else findB l r i) := by
        show _ = _
        rw [Hij.out]; simp only [findB]; rw [hgd.out]
      by_cases hxr : x = r
      · have hres := Lib.hid (show (R1, R2) = ((i : Int), true) by rw [← hov.out, hstep.out, if_pos hxr])
        subst hxr
        go_wp2
        go_ret2
        have h := hres.out
        simp only [Prod.mk.injEq] at h
        exact ⟨by first | (rw [h.1, h.2]; done) | (rw [h.1, h.2]; rfl), hkr⟩
      · have hnx : Hid (findB l r i = (R1, R2)) := by show _ = _; rw [← hov.out, hstep.out, if_neg hxr]
        go_wp2
        go_roundw
        case rel => exact ⟨i, by omega, rfl, hkr, hnx⟩
        case measure => first | (simp [intOf]; done) | (simp [intOf]; omega)
    · obtain rfl : j = 0 := by omega
      have hres := Lib.hid (show (R1, R2) = ((0 : Int), false) by rw [← hov.out]; rfl)
      go_wp2
      go_ret2
      have h := hres.out
      simp only [Prod.mk.injEq] at h
      exact ⟨by first | (rw [h.1, h.2]; done) | (rw [h.1, h.2]; rfl), hkr⟩
set_option maxRecDepth 100000 in
set_option maxHeartbeats 1000000 in
theorem RfFind_fwd (r : Int) (hl : Src w A (ns .i32 l)) (hln : l.length = n) (hn : n ≤ 70368744177664) :
    Calls Tryd.prog 32 #[.slice A n c, .int .i64 a, .int .i32 r, .bool true] w fun e w' => e = .returned (.tuple #[.int .i64 (findF l r (n - (clampN a n + 1)) (clampN a n + 1)).1, .bool (findF l r (n - (clampN a n + 1)) (clampN a n + 1)).2]) ∧ Keeps [] w w' := by
  have hC := cut_any w A n c a (by unfold maxLen; omega)
  have hcl := clamp_le a n
  generalize clampN a n = a0 at *
  have Hn := Lib.hid hln; clear hln
  generalize hR : findF l r (n - (a0 + 1)) (a0 + 1) = R at *
  have HR := Lib.hid hR; clear hR
  obtain ⟨R1, R2⟩ := R
  go_enter Tryd.func32, Tryd.ntmps32
  go_wp2_with (go_at_call 64; refine hC.mono ?_; rintro e w' ⟨rfl, rfl⟩)
  go_loopw [10] (fun i wr => ∃ j : Nat, j ≤ n + 1 ∧ i = .int .i64 j ∧ Keeps [] w wr ∧ Hid (findF l r (n - j) j = (R1, R2))) (fun i _ => n - (intOf i).toNat)
  case atStart => exact ⟨a0 + 1, by omega, by go_num, Keeps.refl _ _, HR⟩
  case round =>
    obtain ⟨j, hj, rfl, hkr, hov⟩ := hrel
    by_cases hlt : j < n
    · have hx : j < l.length := by rw [Hn.out]; exact hlt
      obtain ⟨ad, rfl, hc⟩ := src_num (hl.keeps hkr (by simp)) j hx
      obtain ⟨x, hxe⟩ : ∃ x, x = l[j] := ⟨_, rfl⟩
      rw [← hxe] at hc
      have Hxe := Lib.hid hxe; clear hxe
      have hgd : Hid (l.getD j 0 = x) := by show _ = _; rw [Hxe.out]; simp [List.getD, hx]
      have hstep : Hid (findF l r (n - j) j = if x = r then ((j : Int), true) else findF l r (n - (j + 1)) (j + 1)) := by
        show _ = _
        rw [show n - j = (n - (j + 1)) + 1 by omega]; simp only [findF]; rw [hgd.out]
      by_cases hxr : x = r
      · have hres := Lib.hid (show (R1, R2) = ((j : Int), true) by rw [← hov.out, hstep.out, if_pos hxr])
        have Hxr := Lib.hid hxr
        subst hxr
        go_wp2
        go_ret2
        have h := hres.out
        simp only [Prod.mk.injEq] at h
        exact ⟨by first | (rw [h.1, h.2]; done) | (rw [h.1, h.2]; rfl), hkr⟩
      · have hnx : Hid (findF l r (n - (j + 1)) (j + 1) = (R1, R2)) := by show _ = _; rw [← hov.out, hstep.out, if_neg hxr]
        go_wp2
        go_roundw
        case rel => exact ⟨j + 1, by omega, by go_num, hkr, hnx⟩
        case measure => simp [intOf]; omega
    · have hres := Lib.hid (show (R1, R2) = ((0 : Int), false) by rw [← hov.out, show n - j = 0 by omega]; rfl)
      go_wp2
      go_ret2
      have h := hres.out
      simp only [Prod.mk.injEq] at h
      exact ⟨by first | (rw [h.1, h.2]; done) | (rw [h.1, h.2]; rfl), hkr⟩
set_option maxRecDepth 100000 in
set_option maxHeartbeats 1000000 in
theorem RfFind_back (r : Int) (hl : Src w A (ns .i32 l)) (hln : l.length = n) (hn : n ≤ 70368744177664) :
    Calls Tryd.prog 32 #[.slice A n c, .int .i64 a, .int .i32 r, .bool false] w fun e w' => e = .returned (.tuple #[.int .i64 (findB l r (clampN a n)).1, .bool (findB l r (clampN a n)).2]) ∧ Keeps [] w w' := by
  have hC := cut_any w A n c a (by unfold maxLen; omega)
  have hcl := clamp_le a n
  generalize clampN a n = a0 at *
  have Hn := Lib.hid hln; clear hln
  generalize hR : findB l r a0 = R at *
  have HR := Lib.hid hR; clear hR
  obtain ⟨R1, R2⟩ := R
  go_enter Tryd.func32, Tryd.ntmps32
  go_wp2_with (go_at_call 64; refine hC.mono ?_; rintro e w' ⟨rfl, rfl⟩)
  go_loopw [11] (fun i wr => ∃ j : Nat, j ≤ n ∧ i = .int .i64 ((j : Int) - 1) ∧ Keeps [] w wr ∧ Hid (findB l r j = (R1, R2))) (fun i _ => (intOf i + 1).toNat)
  case atStart => exact ⟨a0, hcl, rfl, Keeps.refl _ _, HR⟩
  case round =>
    obtain ⟨j, hj, rfl, hkr, hov⟩ := hrel
    by_cases h1 : 0 < j
    · obtain ⟨i, hi⟩ : ∃ i : Nat, (j : Int) - 1 = (i : Int) := ⟨j - 1, by omega⟩
      rw [hi]
      have Hij := Lib.hid (show j = i + 1 by omega)
      have hin : i < n := by omega
      clear hi
      have hx : i < l.length := by rw [Hn.out]; exact hin
      obtain ⟨ad, rfl, hc⟩ := src_num (hl.keeps hkr (by simp)) i hx
      obtain ⟨x, hxe⟩ : ∃ x, x = l[i] := ⟨_, rfl⟩
      rw [← hxe] at hc
      have Hxe := Lib.hid hxe; clear hxe
      have hgd : Hid (l.getD i 0 = x) := by show _ = _; rw [Hxe.out]; simp [List.getD, hx]
      have hstep : Hid (findB l r j = if x = r then ((i : Int), true) else findB l r i) := by
        show _ = _
        rw [Hij.out]; simp only [findB]; rw [hgd.out]
      by_cases hxr : x = r
      · have hres := Lib.hid (show (R1, R2) = ((i : Int), true) by rw [← hov.out, hstep.out, if_pos hxr])
        subst hxr
        go_wp2
        go_ret2
        have h := hres.out
        simp only [Prod.mk.injEq] at h
        exact ⟨by first | (rw [h.1, h.2]; done) | (rw [h.1, h.2]; rfl), hkr⟩
      · have hnx : Hid (findB l r i = (R1, R2)) := by show _ = _; rw [← hov.out, hstep.out, if_neg hxr]
        go_wp2
        go_roundw
        case rel => exact ⟨i, by omega, rfl, hkr, hnx⟩
        case measure => first | (simp [intOf]; done) | (simp [intOf]; omega)
    · obtain rfl : j = 0 := by omega
      have hres := Lib.hid (show (R1, R2) = ((0 : Int), false) by rw [← hov.out]; rfl)
      go_wp2
      go_ret2
      have h := hres.out
      simp only [Prod.mk.injEq] at h
      exact ⟨by first | (rw [h.1, h.2]; done) | (rw [h.1, h.2]; rfl), hkr⟩
end
end Go.Proofs.YtmnmdpgckefefaaDoor.Words
