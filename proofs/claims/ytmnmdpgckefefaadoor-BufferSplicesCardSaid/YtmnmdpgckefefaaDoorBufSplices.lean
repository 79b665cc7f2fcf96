/- lanyardlaw07.BufferSplices: what it comes to. -/
import Derived.Test.YtmnmdpgckefefaaDoorBufLive
import Derived.Test.YtmnmdpgckefefaaDoorOpArg
import Derived.Deep.DeepCutAuto
import Derived.Deep.CutBlock
import Derived.Deep.RegionHeld3
namespace Go.Proofs.YtmnmdpgckefefaaDoor.Buf
open Go Go.RowKit Go.Proofs.YtmnmdpgckefefaaDoor.Rw Go.Proofs.YtmnmdpgckefefaaDoor.SlR Go.Proofs.YtmnmdpgckefefaaDoor.Words Go.Proofs.YtmnmdpgckefefaaDoor.OpArg

def Yea (w : World) (e : Ending) (w' : World) : Prop := e = .returned (.bool true) ∧ Keeps [] w w'

set_option maxRecDepth 100000 in
theorem splices_long (w : World) (A : Option Addr) (n c : Nat) (hn : n ≤ maxLen) (hlong : 1024 < n) (x0 x1 x2 x3 x4 x5 x6 : Value) :
    Calls Tryd.prog 3 #[.slice A n c, .agg #[x0, x1, x2, x3, x4, x5, x6]] w (Yea w) := by
  have hk0 := (Keeps.refl [] w).alloc (.cells #[x0, x1, x2, x3, x4, x5, x6] 26)
  have hn2 := hn
  unfold maxLen at hn2
  go_enter Tryd.func3, Tryd.ntmps3
  go_wp2_with fail
  refine (New_long _ A n c hlong hn).mono ?_
  rintro e w' ⟨rfl, rfl⟩
  go_wp2_with fail
  refine (live07_calls _).mono ?_
  rintro e w2 ⟨rfl, hk2⟩
  have hk3 := hk0.trans hk2
  go_wp2
  go_ret
  exact ⟨by show Ending.returned (Value.bool (decide ((1024 : Int) < (n : Int)))) = _; rw [decide_eq_true (by omega)], hk3⟩

set_option maxRecDepth 100000 in
theorem splices_place (w : World) (A : Option Addr) (c : Nat) (l : List Int) (hs : Src w A (ns .i32 l)) (hl : l.length ≤ 1024) (kd f t : Int) (B : Option Addr) (m d : Nat) (x4 x5 x6 : Value) (hf : I64 f) (ht : I64 t) (hbad : f < 0 ∨ t < f ∨ (l.length : Int) < t) :
    Calls Tryd.prog 3 #[.slice A l.length c, .agg #[.int .i64 kd, .int .i64 f, .int .i64 t, .slice B m d, x4, x5, x6]] w (Yea w) := by
  have hk0 := (Keeps.refl [] w).alloc (.cells #[.int .i64 kd, .int .i64 f, .int .i64 t, .slice B m d, x4, x5, x6] 26)
  have hq := blk_new w (.cells #[.int .i64 kd, .int .i64 f, .int .i64 t, .slice B m d, x4, x5, x6] 26)
  go_enter Tryd.func3, Tryd.ntmps3
  go_wp2_with fail
  refine (New_ok _ A c l (hs.keeps hk0 (by simp)) hl).mono ?_
  rintro e w1 ⟨b, F, rfl, hb, hk1, hF⟩
  go_wp2_with fail
  refine (live07_calls _).mono ?_
  rintro e w2 ⟨rfl, hk2⟩
  have hq2 := hk2.blk (hk1.blk hq (by simp)) (by simp)
  have q0 := blk_cell hq2 0
  have q1 := blk_cell hq2 1
  have q2 := blk_cell hq2 2
  have q3 := blk_cell hq2 3
  have hb2 := hb.keeps hk2 (by simp)
  have hk02 := (hk0.trans hk1).trans hk2
  go_wp2_with fail
  refine (BReplace_place w2 b F _ f t B m d hb2 hf.1 hf.2 ht.1 ht.2 (by simp only; omega)).mono ?_
  rintro e w3 ⟨rfl, hk3⟩
  have hq3 := hk3.blk hq2 (by simp)
  have hk03 := hk02.trans hk3
  clear q0 q1 q2 q3
  have hq4 := blk_alloc hq3 (.cells #[.int .i64 0, .slice none 0 0, .slice none 0 0] 24)
  have hkx := hk03.alloc (.cells #[.int .i64 0, .slice none 0 0, .slice none 0 0] 24)
  go_upto_region 5 with fail
  generalize w3.alloc (.cells #[.int .i64 0, .slice none 0 0, .slice none 0 0] 24) = w4 at *
  have q1 := blk_cell hq4 1
  have q2 := blk_cell hq4 2
  go_wp2
  all_goals go_ret
  all_goals exact ⟨rfl, hkx⟩

set_option maxRecDepth 100000 in
theorem splices_over (w : World) (A : Option Addr) (c : Nat) (l : List Int) (hs : Src w A (ns .i32 l)) (hl : l.length ≤ 1024) (kd : Int) (f t : Nat) (B : Option Addr) (m d : Nat) (x4 x5 x6 : Value) (hft : f ≤ t) (htl : t ≤ l.length) (hm : m ≤ 70368744177664) (hlong : 1024 < l.length - (t - f) + m) :
    Calls Tryd.prog 3 #[.slice A l.length c, .agg #[.int .i64 kd, .int .i64 f, .int .i64 t, .slice B m d, x4, x5, x6]] w (Yea w) := by
  have hl2 : (1024 : Int) < (l.length : Int) - ((t : Int) - (f : Int)) + (m : Int) := by omega
  have hk0 := (Keeps.refl [] w).alloc (.cells #[.int .i64 kd, .int .i64 f, .int .i64 t, .slice B m d, x4, x5, x6] 26)
  have hq := blk_new w (.cells #[.int .i64 kd, .int .i64 f, .int .i64 t, .slice B m d, x4, x5, x6] 26)
  go_enter Tryd.func3, Tryd.ntmps3
  go_wp2_with fail
  refine (New_ok _ A c l (hs.keeps hk0 (by simp)) hl).mono ?_
  rintro e w1 ⟨b, F, rfl, hb, hk1, hF⟩
  go_wp2_with fail
  refine (live07_calls _).mono ?_
  rintro e w2 ⟨rfl, hk2⟩
  have hq2 := hk2.blk (hk1.blk hq (by simp)) (by simp)
  have q0 := blk_cell hq2 0
  have q1 := blk_cell hq2 1
  have q2 := blk_cell hq2 2
  have q3 := blk_cell hq2 3
  have hb2 := hb.keeps hk2 (by simp)
  have hk02 := (hk0.trans hk1).trans hk2
  go_wp2_with fail
  refine (BReplace_long w2 b F _ f t B m d hb2 hft htl hlong (by omega)).mono ?_
  rintro e w3 ⟨rfl, hk3⟩
  have hq3 := hk3.blk hq2 (by simp)
  have hk03 := hk02.trans hk3
  clear q0 q1 q2 q3
  have hq4 := blk_alloc hq3 (.cells #[.int .i64 0, .slice none 0 0, .slice none 0 0] 24)
  have hkx := hk03.alloc (.cells #[.int .i64 0, .slice none 0 0, .slice none 0 0] 24)
  go_upto_region 5 with fail
  generalize w3.alloc (.cells #[.int .i64 0, .slice none 0 0, .slice none 0 0] 24) = w4 at *
  have q1 := blk_cell hq4 1
  have q2 := blk_cell hq4 2
  have q3 := blk_cell hq4 3
  go_wp2
  all_goals go_ret
  all_goals exact ⟨rfl, hkx⟩

theorem Same_true (w : World) (A B : Option Addr) (n c d : Nat) (xs : List Int) (hA : Src w A (ns .i32 xs)) (hB : Src w B (ns .i32 xs)) (hn : xs.length = n) (hn2 : n ≤ maxLen) :
    Calls Tryd.prog 14 #[.slice A n c, .slice B n d] w fun e w' => e = .returned (.bool true) ∧ Keeps [] w w' :=
  (Same_calls w A B n n c d xs xs hA hB hn hn hn2 hn2).mono fun e w' h => ⟨by rw [h.1]; simp, h.2⟩
theorem row_src {w : World} {e : TypeId} {A : Option Addr} {n c sz : Nat} {xs : List Value} (h : Row w e sz (.slice A n c) n xs) : Src w A xs := by
  obtain ⟨_, _, hv, _, _, hs, _⟩ := h.src
  cases hv; exact hs
theorem ns_take_drop (l : List Int) (f n : Nat) : ((ns .i32 l).drop f).take n = ns .i32 ((l.drop f).take n) := by simp [ns, List.map_take, List.map_drop]
theorem drop_len (l : List Int) (t : Nat) : ((ns .i32 l).drop t).length = l.length - t := by rw [List.length_drop, ns_length]
set_option maxRecDepth 100000 in
set_option maxHeartbeats 1000000 in
theorem splices_ok (w : World) (A : Option Addr) (c : Nat) (l txt : List Int) (hs : Src w A (ns .i32 l)) (hl : l.length ≤ 1024) (hlc : l.length ≤ c) (hcm : c ≤ maxLen) (kd : Int) (f t : Nat) (B : Option Addr) (d : Nat) (x4 x5 x6 : Value) (hft : f ≤ t) (htl : t ≤ l.length) (hB : Src w B (ns .i32 txt)) (hfit : l.length - (t - f) + txt.length ≤ 1024) :
    Calls Tryd.prog 3 #[.slice A l.length c, .agg #[.int .i64 kd, .int .i64 f, .int .i64 t, .slice B txt.length d, x4, x5, x6]] w (Yea w) := by
  have hk0 := (Keeps.refl [] w).alloc (.cells #[.int .i64 kd, .int .i64 f, .int .i64 t, .slice B txt.length d, x4, x5, x6] 26)
  have hq := blk_new w (.cells #[.int .i64 kd, .int .i64 f, .int .i64 t, .slice B txt.length d, x4, x5, x6] 26)
  have hz : (w.alloc (.cells #[.int .i64 kd, .int .i64 f, .int .i64 t, .slice B txt.length d, x4, x5, x6] 26)).heap.size = w.heap.size + 1 := by simp
  have hBlt := Src.lt hB
  go_enter Tryd.func3, Tryd.ntmps3
  go_wp2_with fail
  refine (New_ok _ A c l (hs.keeps hk0 (by simp)) hl).mono ?_
  rintro e w1 ⟨b, F, rfl, hb, hk1, hF⟩
  go_wp2_with fail
  refine (live07_calls _).mono ?_
  rintro e w2 ⟨rfl, hk2⟩
  have hq2 := hk2.blk (hk1.blk hq (by simp)) (by simp)
  have q0 := blk_cell hq2 0
  have q1 := blk_cell hq2 1
  have q2 := blk_cell hq2 2
  have q3 := blk_cell hq2 3
  have hb2 := hb.keeps hk2 (by simp)
  have hk02 := (hk0.trans hk1).trans hk2
  go_wp2_with fail
  refine (BReplace_ok w2 b F ⟨l, l.length, -1⟩ f t B d txt hb2 hft htl hfit (hB.keeps hk02 (by simp)) (fun a ha h0 hh => by have := hBlt a ha h0; have := hF _ hh; omega)).mono ?_
  rintro e w3 ⟨Ad, cd, Ai, ci, rfl, hd, hi, hk3, F', hF', hb3, hfd, hfi⟩
  have hq3 := hk3.blk hq2 (fun hh => by have := hF _ hh; omega)
  have hk03 := hk02.then hk3 (fun i hi => .inr (by have := hF i hi; omega))
  clear q0 q1 q2 q3
  have hka := (Keeps.refl [] w3).alloc (.cells #[.int .i64 f, .slice Ad (t - f) cd, .slice Ai txt.length ci] 24)
  have hq4 := hka.blk hq3 (by simp)
  have hkx := hk03.trans hka
  have he4 := blk_new w3 (.cells #[.int .i64 f, .slice Ad (t - f) cd, .slice Ai txt.length ci] 24)
  have hb4 := hb3.keeps hka (by simp)
  have hd4 := hd.keeps hka (by simp)
  have hi4 := hi.keeps hka (by simp)
  go_upto_region 5 with fail
  generalize w3.alloc (.cells #[.int .i64 f, .slice Ad (t - f) cd, .slice Ai txt.length ci] 24) = w4 at *
  have q1 := blk_cell hq4 1
  have q2 := blk_cell hq4 2
  have q3 := blk_cell hq4 3
  have hA4 := hs.keeps hkx (by simp)
  have hB4 := hB.keeps hkx (by simp)
  have hfl : f ≤ l.length := by omega
  obtain ⟨tot, htot⟩ : ∃ tot, tot = f + txt.length + (l.length - t) := ⟨_, rfl⟩
  have Htot := Lib.hid htot; clear htot
  unfold maxLen at hcm
  have htc : t ≤ c := by omega
  have hfc : f ≤ c := by omega
  have hl2 : (l.length : Int) - ((t : Int) - (f : Int)) + (txt.length : Int) ≤ 1024 := by omega
  have hl3 : ¬ (1024 : Int) < (l.length : Int) - ((t : Int) - (f : Int)) + (txt.length : Int) := by omega
  go_upto_region 9 with fail
  go_cut [8] (fun v wx => ∃ Aw cw, v = .slice Aw tot cw ∧ Row wx 21 1 (.slice Aw tot cw) tot (((ns .i32 l).take f ++ ns .i32 txt) ++ (ns .i32 l).drop t) ∧ Keeps [] w4 wx)
  case first =>
    have hka := ((Keeps.refl [] w4).alloc (.cells #[] 21)).drew
    have hqa := blk_alloc hq4 (.cells #[] 21)
    have q1a := blk_cell hqa 1
    have q2a := blk_cell hqa 2
    have q3a := blk_cell hqa 3
    have hAa := hA4.keeps hka (by simp)
    have hBa := hB4.keeps hka (by simp)
    go_region_held3 (fun w' => w'.cell? ⟨w.heap.size, 1, none⟩ = some (.int .i64 f) ∧ w'.cell? ⟨w.heap.size, 2, none⟩ = some (.int .i64 t) ∧ w'.cell? ⟨w.heap.size, 3, none⟩ = some (.slice B txt.length d)) (first | exact ⟨q1, q2, q3⟩ | exact ⟨q1a, q2a, q3a⟩ | exact ⟨q51, q52, q53⟩ | exact ⟨q61, q62, q63⟩ | exact ⟨q71, q72, q73⟩) (first
      | (refine step_append_row rfl _ _ 22 rfl el (.slice _ 0 0) 0 [] rfl (Row.nil _ _ _ _) A f c ((ns .i32 l).take f) rfl (by rw [List.length_take, ns_length]; omega) (hAa.take f) (fun u hu => ns_one .i32 l u (List.mem_of_mem_take hu)) (by unfold maxLen; omega) (by omega) ?_
         intro A1 c1 w5 hrow5 hk5 hf5
         rw [fp_zero] at hk5 hf5
         rw [Nat.zero_add] at hrow5 hf5
         rw [List.nil_append] at hrow5
         have q51 := hk5.cell q1a (by simp)
         have q52 := hk5.cell q2a (by simp)
         have q53 := hk5.cell q3a (by simp)
         have hk45 := hka.trans hk5)
      | (refine step_append_row rfl _ _ 22 rfl el (.slice A1 f c1) f _ (by first | rfl | exact congrArg (fun x => Value.slice A1 x c1) (Nat.zero_add f)) hrow5 B txt.length d (ns .i32 txt) rfl (by rw [ns_length]; omega) (hBa.keeps hk5 (by simp)) (ns_one .i32 txt) (by unfold maxLen; omega) (by omega) ?_
         intro A2 c2 w6 hrow6 hk6 hf6
         have hk46 := hk45.then hk6 (fun i hi => .inr ((hf5 i hi).elim (fun h => by cases h) (fun h => Nat.le_trans hka.size h)))
         have q61 := hk46.cell q1 (by simp)
         have q62 := hk46.cell q2 (by simp)
         have q63 := hk46.cell q3 (by simp))
      | (refine step_append_row rfl _ _ 22 rfl el (.slice A2 (f + txt.length) c2) (f + txt.length) _ rfl hrow6 (if c = t then A else A.map (·.add t)) (l.length - t) (c - t) ((ns .i32 l).drop t) rfl (by rw [drop_len]; omega) ((hA4.keeps hk46 (by simp)).cut c t (by rw [ns_length]; omega)) (fun u hu => ns_one .i32 l u (List.mem_of_mem_drop hu)) (by unfold maxLen; omega) (by omega) ?_
         intro A3 c3 w7 hrow7 hk7 hf7
         have hk47 := hk46.then hk7 (fun i hi => .inr ((hf6 i hi).elim (fun h => (hf5 i h).elim (fun h => by cases h) (fun h => Nat.le_trans hka.size h)) (fun h => Nat.le_trans hk45.size h)))
         have q71 := hk47.cell q1 (by simp)
         have q72 := hk47.cell q2 (by simp)
         have q73 := hk47.cell q3 (by simp)))
    all_goals generalize (if c = t then A else Option.map (fun x => Addr.add x t) A) = Z
    all_goals go_wp2_with fail
    all_goals go_meet
    all_goals exact ⟨A3, c3, by rw [Htot.out], by rw [Htot.out]; exact hrow7, hk47⟩
  case rest =>
    obtain ⟨w9, rfl⟩ : ∃ w9, w9 = wc := ⟨_, rfl⟩
    obtain ⟨Aw, cw, rfl, hrow9, hk9⟩ := hcut
    have hq9 := hk9.blk hq4 (by simp)
    have he9 := hk9.blk he4 (by simp)
    have hb9 := hb4.keeps hk9 (by simp)
    have hd9 := row_src (hd4.keeps hk9 (by simp))
    have hi9 := row_src (hi4.keeps hk9 (by simp))
    have hA9 := hA4.keeps hk9 (by simp)
    have hB9 := hB4.keeps hk9 (by simp)
    have hk09 := hkx.trans hk9
    have hww : ((ns .i32 l).take f ++ ns .i32 txt) ++ (ns .i32 l).drop t = ns .i32 (l.take f ++ txt ++ l.drop t) := by simp [ns, List.map_take, List.map_drop]
    rw [hww] at hrow9
    have hs9 := row_src hrow9
    have hlen9 : (l.take f ++ txt ++ l.drop t).length = tot := by rw [Htot.out]; simp; omega
    have hcutA := (hA9.cut c f (by rw [ns_length]; omega)).take (t - f)
    rw [ns_take_drop] at hcutA
    have hcl : ((l.drop f).take (t - f)).length = t - f := by simp; omega
    clear q1 q2 q3 hA4 hB4 hd4 hi4 hb4 hrow9 hww
    have q1 := blk_cell hq9 1
    have q2 := blk_cell hq9 2
    have q3 := blk_cell hq9 3
    obtain ⟨e0, e1, e2, _⟩ := three he9
    have hsl : (BS.splice ⟨l, l.length, -1⟩ f t txt).l = l.take f ++ txt ++ l.drop t := rfl
    have hsn : (BS.splice ⟨l, l.length, -1⟩ f t txt).l.length = tot := hlen9
    have hkd := (Keeps.refl [] w9).drew
    have hT := BText_calls w9.drew b F' _ (hb9.keeps hkd (by simp))
    rw [hsn, hsl] at hT
    have htot2 : tot ≤ 1024 := by rw [Htot.out]; omega
    have htm : tot ≤ maxLen := by unfold maxLen; omega
    have htxm : txt.length ≤ maxLen := by unfold maxLen; omega
    have htfm : t - f ≤ maxLen := by unfold maxLen; omega
    clear hsl hsn
    go_upto_region 10 with fail
    go_region_held3 (fun w' => w'.cell? ⟨w.heap.size, 1, none⟩ = some (.int .i64 f) ∧ w'.cell? ⟨w.heap.size, 2, none⟩ = some (.int .i64 t) ∧ w'.cell? ⟨w.heap.size, 3, none⟩ = some (.slice B txt.length d) ∧ w'.cell? ⟨w3.heap.size, 0, none⟩ = some (.int .i64 f) ∧ w'.cell? ⟨w3.heap.size, 1, none⟩ = some (.slice Ad (t - f) cd) ∧ w'.cell? ⟨w3.heap.size, 2, none⟩ = some (.slice Ai txt.length ci)) (first | exact ⟨q1, q2, q3, e0, e1, e2⟩ | exact ⟨hkT.cell q1 (by simp), hkT.cell q2 (by simp), hkT.cell q3 (by simp), hkT.cell e0 (by simp), hkT.cell e1 (by simp), hkT.cell e2 (by simp)⟩ | exact ⟨hkU.cell q1 (by simp), hkU.cell q2 (by simp), hkU.cell q3 (by simp), hkU.cell e0 (by simp), hkU.cell e1 (by simp), hkU.cell e2 (by simp)⟩ | exact ⟨hkV.cell q1 (by simp), hkV.cell q2 (by simp), hkV.cell q3 (by simp), hkV.cell e0 (by simp), hkV.cell e1 (by simp), hkV.cell e2 (by simp)⟩ | exact ⟨hkX.cell q1 (by simp), hkX.cell q2 (by simp), hkX.cell q3 (by simp), hkX.cell e0 (by simp), hkX.cell e1 (by simp), hkX.cell e2 (by simp)⟩) (first
      | (go_at_call 14
         refine (Same_true wV Ai B txt.length ci d txt (hi9.keeps hkV (by simp)) (hB9.keeps hkV (by simp)) rfl htxm).mono ?_
         rintro e wX ⟨rfl, hkX0⟩
         have hkX := hkV.trans hkX0)
      | (go_at_call 14
         refine (Same_true wU Ad _ (t - f) cd (c - f) ((l.drop f).take (t - f)) (hd9.keeps hkU (by simp)) (hcutA.keeps hkU (by simp)) hcl htfm).mono ?_
         rintro e wV ⟨rfl, hkV0⟩
         have hkV := hkU.trans hkV0
         generalize (if c = f then A else Option.map (fun x => Addr.add x f) A) = Z)
      | (go_at_call 14
         refine (Same_true wT T Aw tot tc cw (l.take f ++ txt ++ l.drop t) (row_src hrT) (hs9.keeps hkT (by simp)) hlen9 htm).mono ?_
         rintro e wU ⟨rfl, hkU0⟩
         have hkU := hkT.trans hkU0)
      | (go_at_call 15
         refine hT.mono ?_
         rintro e wT ⟨T, tc, rfl, hrT, hkT0, hfT⟩
         have hkT := hkd.trans hkT0))
    go_wp2
    go_ret
    exact ⟨rfl, hk09.trans hkX⟩
end Go.Proofs.YtmnmdpgckefefaaDoor.Buf
