/- lanyardref01: Width, Letter. -/
import Derived.Test.YtobogbjpdagklaaDoorRefKinds
namespace Go.Proofs.YtobogbjpdagklaaDoor.Kinds
open Go Go.RowKit Go.Proofs.YtobogbjpdagklaaDoor.Rw

def excT : List (Int × Int) := [(215, 215), (247, 247), (8192, 8303), (12288, 12351), (65280, 65295), (65533, 65533)]
def lowT : List (Int × Int) := [(48, 57), (65, 90), (97, 122)]
theorem excT_eq (r : Int) : inT excT r = excl r := by
  rw [Bool.eq_iff_iff]; simp [inT, excT, excl]; omega
theorem lowT_eq (r : Int) : inT lowT r = lowLetter r := by
  rw [Bool.eq_iff_iff]; simp [inT, lowT, lowLetter]
/-- A table that a call lays anew. -/
theorem In_new (w : World) (T : List (Int × Int)) (cs : Array Value) (n c : Nat) (hc : cs.toList = ns .i32 (flat T)) (hn : (flat T).length = n) (hn2 : n ≤ 100) (r : Int) :
    Calls Tryd.prog 52 #[.int .i32 r, .slice (some ⟨w.heap.size, 0, none⟩) n c] (w.alloc (.cells cs 21)) fun e w' => e = .returned (.bool (inT T r)) ∧ Keeps [] w w' :=
  (RfIn_calls _ _ n c T (by have := Src.new w cs 21; rwa [hc] at this) hn hn2 r).mono fun e w' h => ⟨h.1, ((Keeps.refl [] w).alloc _).trans h.2⟩
set_option maxRecDepth 100000 in
set_option maxHeartbeats 2000000 in
theorem RfWidth_calls (w : World) (r : Int) (h0 : -2147483648 ≤ r) (h1 : r ≤ 2147483647) : Calls Tryd.prog 28 #[.int .i32 r] w fun e w' => e = .returned (.int .i64 (width r)) ∧ Keeps [] w w' := by
  have hV := RfRune_calls w r h0 h1
  have hC := RfControl_calls w r h0 h1
  have hk0 := Keeps.refl [] w
  by_cases v : valid r = false
  · rw [show width r = 0 by simp [width, v]]
    rw [v] at hV
    clear hC v
    go_enter Tryd.func28, Tryd.ntmps28
    go_wp2_with (go_at_call 18; refine hV.mono ?_; rintro e w' ⟨rfl, rfl⟩)
    go_ret
    exact ⟨rfl, hk0⟩
  · have v' : valid r = true := by simpa using v
    rw [v'] at hV
    by_cases c : ctl r = true
    · rw [show width r = 0 by simp [width, v', c]]
      rw [c] at hC
      clear c v v'
      go_enter Tryd.func28, Tryd.ntmps28
      go_wp2_with (first | (go_at_call 18; refine hV.mono ?_; rintro e w' ⟨rfl, rfl⟩) | (go_at_call 29; refine hC.mono ?_; rintro e w' ⟨rfl, rfl⟩))
      go_ret
      exact ⟨rfl, hk0⟩
    · have c' : ctl r = false := by simpa using c
      rw [c'] at hC
      have hN := fun (cs : Array Value) (hc : cs.toList = ns .i32 (flat noneT)) => In_new w noneT cs 30 30 hc rfl (by decide) r
      have hD := fun (w1 : World) (cs : Array Value) (hc : cs.toList = ns .i32 (flat wideT)) => In_new w1 wideT cs 28 28 hc rfl (by decide) r
      by_cases n : inT noneT r = true
      · rw [show width r = 0 by simp [width, v', c', n]]
        rw [n] at hN
        clear n c c' v v' hD
        have HN := Lib.hid hN; clear hN
        go_enter Tryd.func28, Tryd.ntmps28
        go_wp2_with (first | (go_at_call 18; refine hV.mono ?_; rintro e w' ⟨rfl, rfl⟩) | (go_at_call 29; refine hC.mono ?_; rintro e w' ⟨rfl, rfl⟩) | (go_at_call 52; refine (HN.out _ rfl).mono ?_; rintro e w1 ⟨rfl, hk1⟩))
        go_ret
        exact ⟨rfl, hk1⟩
      · have n' : inT noneT r = false := by simpa using n
        rw [n'] at hN
        have HN := Lib.hid hN; clear hN
        by_cases d : inT wideT r = true
        · rw [show width r = 2 by simp [width, v', c', n', d]]
          rw [d] at hD
          have HD := Lib.hid hD; clear hD
          clear n n' c c' v v' d
          go_enter Tryd.func28, Tryd.ntmps28
          go_wp2_with (first | (go_at_call 18; refine hV.mono ?_; rintro e w' ⟨rfl, rfl⟩) | (go_at_call 29; refine hC.mono ?_; rintro e w' ⟨rfl, rfl⟩))
          refine (HN.out _ rfl).mono ?_
          rintro e w1 ⟨rfl, hk1⟩
          go_wp2_with fail
          refine (HD.out w1 _ rfl).mono ?_
          rintro e w2 ⟨rfl, hk2⟩
          go_wp2
          go_ret
          exact ⟨rfl, hk1.trans hk2⟩
        · have d' : inT wideT r = false := by simpa using d
          rw [show width r = 1 by simp [width, v', c', n', d']]
          rw [d'] at hD
          have HD := Lib.hid hD; clear hD
          clear n n' c c' v v' d d'
          go_enter Tryd.func28, Tryd.ntmps28
          go_wp2_with (first | (go_at_call 18; refine hV.mono ?_; rintro e w' ⟨rfl, rfl⟩) | (go_at_call 29; refine hC.mono ?_; rintro e w' ⟨rfl, rfl⟩))
          refine (HN.out _ rfl).mono ?_
          rintro e w1 ⟨rfl, hk1⟩
          go_wp2_with fail
          refine (HD.out w1 _ rfl).mono ?_
          rintro e w2 ⟨rfl, hk2⟩
          go_wp2
          go_ret
          exact ⟨rfl, hk1.trans hk2⟩

theorem letter_full (r : Int) : letter r = if lowLetter r = true then true else if r < 192 then false else if valid r = false then false else if width r = 0 then false else !excl r := by
  have hw : width r = 0 ∨ width r = 1 ∨ width r = 2 := by unfold width; repeat' (first | split | simp)
  by_cases h : r < 192
  · rw [letter_low r h]
    cases hl : lowLetter r <;> simp [h]
  · have hl : lowLetter r = false := by simp [lowLetter]; omega
    simp only [letter, hl, if_neg h, Bool.false_eq_true, if_false]
    cases excl r <;> cases valid r <;> rcases hw with hw | hw | hw <;> simp [hw]
set_option maxRecDepth 100000 in
set_option maxHeartbeats 2000000 in
theorem RfLetter_calls (w : World) (r : Int) (h0 : -2147483648 ≤ r) (h1 : r ≤ 2147483647) : Calls Tryd.prog 31 #[.int .i32 r] w fun e w' => e = .returned (.bool (letter r)) ∧ Keeps [] w w' := by
  have hL := fun (cs : Array Value) (hc : cs.toList = ns .i32 (flat lowT)) => In_new w lowT cs 6 6 hc rfl (by decide) r
  rw [lowT_eq] at hL
  have hE := fun (w1 : World) (cs : Array Value) (hc : cs.toList = ns .i32 (flat excT)) => In_new w1 excT cs 12 12 hc rfl (by decide) r
  rw [excT_eq] at hE
  have hV := fun w1 => RfRune_calls w1 r h0 h1
  have hW := fun w1 => RfWidth_calls w1 r h0 h1
  rw [letter_full]
  cases l : lowLetter r with
  | true =>
    rw [l] at hL
    have HL := Lib.hid hL; clear hL hE hV hW l
    go_enter Tryd.func31, Tryd.ntmps31
    go_wp2_with fail
    refine (HL.out _ rfl).mono ?_
    rintro e w1 ⟨rfl, hk1⟩
    go_wp2
    go_ret
    exact ⟨rfl, hk1⟩
  | false =>
    rw [l] at hL
    have HL := Lib.hid hL; clear hL l
    by_cases h : r < 192
    · rw [show (if false = true then true else if r < 192 then false else if valid r = false then false else if width r = 0 then false else !excl r) = false by simp [h]]
      clear hE hV hW
      go_enter Tryd.func31, Tryd.ntmps31
      go_wp2_with fail
      refine (HL.out _ rfl).mono ?_
      rintro e w1 ⟨rfl, hk1⟩
      go_wp2
      go_ret
      exact ⟨rfl, hk1⟩
    · cases v : valid r with
      | false =>
        rw [show (if false = true then true else if r < 192 then false else if false = false then false else if width r = 0 then false else !excl r) = false by simp]
        rw [v] at hV
        have HV := Lib.hid hV; clear hE hV hW v
        go_enter Tryd.func31, Tryd.ntmps31
        go_wp2_with fail
        refine (HL.out _ rfl).mono ?_
        rintro e w1 ⟨rfl, hk1⟩
        go_wp2_with fail
        refine (HV.out w1).mono ?_
        rintro e w' ⟨rfl, rfl⟩
        go_wp2
        go_ret
        exact ⟨rfl, hk1⟩
      | true =>
        rw [v] at hV
        have HV := Lib.hid hV; clear hV
        by_cases d : width r = 0
        · rw [show (if false = true then true else if r < 192 then false else if true = false then false else if width r = 0 then false else !excl r) = false by simp [d]]
          rw [d] at hW
          have HW := Lib.hid hW; clear hE hW v d
          go_enter Tryd.func31, Tryd.ntmps31
          go_wp2_with fail
          refine (HL.out _ rfl).mono ?_
          rintro e w1 ⟨rfl, hk1⟩
          go_wp2_with fail
          refine (HV.out w1).mono ?_
          rintro e w' ⟨rfl, rfl⟩
          go_wp2_with fail
          refine (HW.out w1).mono ?_
          rintro e w2 ⟨rfl, hk2⟩
          go_wp2
          go_ret
          exact ⟨rfl, hk1.trans hk2⟩
        · rw [show (if false = true then true else if r < 192 then false else if true = false then false else if width r = 0 then false else !excl r) = !excl r by simp [h, d]]
          have HW := Lib.hid hW; clear hW v
          have HE := Lib.hid hE; clear hE
          have d2 : (width r == 0) = false := by simpa using d
          generalize width r = wd at *
          generalize excl r = ex at *
          go_enter Tryd.func31, Tryd.ntmps31
          go_wp2_with fail
          refine (HL.out _ rfl).mono ?_
          rintro e w1 ⟨rfl, hk1⟩
          go_wp2_with fail
          refine (HV.out w1).mono ?_
          rintro e w' ⟨rfl, rfl⟩
          go_wp2_with fail
          refine (HW.out w1).mono ?_
          rintro e w2 ⟨rfl, hk2⟩
          go_wp2_with fail
          refine (HE.out w2 _ rfl).mono ?_
          rintro e w3 ⟨rfl, hk3⟩
          go_wp2
          go_ret
          exact ⟨rfl, (hk1.trans hk2).trans hk3⟩
end Go.Proofs.YtobogbjpdagklaaDoor.Kinds
