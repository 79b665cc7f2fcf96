/- lanyardlaw07.BufferBack, where the change is done. -/
import Derived.Test.YtmnmdpgckefefaaDoorBack
namespace Go.Proofs.YtmnmdpgckefefaaDoor.Buf
open Go Go.RowKit Go.Proofs.YtmnmdpgckefefaaDoor.Rw Go.Proofs.YtmnmdpgckefefaaDoor.SlR Go.Proofs.YtmnmdpgckefefaaDoor.Words Go.Proofs.YtmnmdpgckefefaaDoor.OpArg

set_option maxRecDepth 100000 in
set_option maxHeartbeats 2000000 in
theorem back_ok (w : World) (A : Option Addr) (c : Nat) (l txt : List Int) (hs : Src w A (ns .i32 l)) (hl : l.length ≤ 1024) (kd f t : Int) (B : Option Addr) (d : Nat) (x4 x5 x6 : Value) (hf : In64 f) (ht : In64 t) (hB : Src w B (ns .i32 txt)) (htl : txt.length ≤ 70368744177664)
    (P D S : List Int) (hPDS : l = P ++ (D ++ S)) (hfit : P.length + txt.length + S.length ≤ 1024)
    (herr : BS.err ⟨l, l.length, -1⟩ f t txt.length = 0) (hed : BS.edit ⟨l, l.length, -1⟩ f t txt = ⟨P.length, D, txt⟩) (haf : (BS.after ⟨l, l.length, -1⟩ f t txt).l = P ++ (txt ++ S)) :
    Calls Tryd.prog 5 #[.slice A l.length c, .agg #[.int .i64 kd, .int .i64 f, .int .i64 t, .slice B txt.length d, x4, x5, x6]] w (Yea w) := by
  have hk0 := (Keeps.refl [] w).alloc (.cells #[.int .i64 kd, .int .i64 f, .int .i64 t, .slice B txt.length d, x4, x5, x6] 26)
  have hq := blk_new w (.cells #[.int .i64 kd, .int .i64 f, .int .i64 t, .slice B txt.length d, x4, x5, x6] 26)
  have hz : (w.alloc (.cells #[.int .i64 kd, .int .i64 f, .int .i64 t, .slice B txt.length d, x4, x5, x6] 26)).heap.size = w.heap.size + 1 := by simp
  have Hz := Lib.hid hz; clear hz
  have hBlt := Src.lt hB
  have hlm : l.length ≤ maxLen := by unfold maxLen; omega
  have hDl : P.length + D.length + S.length ≤ 1024 := by
    have : l.length = P.length + (D.length + S.length) := by rw [hPDS]; simp
    omega
  have Haf := Lib.hid haf; clear haf
  have Herr := Lib.hid herr; clear herr
  have Hed := Lib.hid hed; clear hed
  have HP := Lib.hid hPDS; clear hPDS
  go_enter Tryd.func5, Tryd.ntmps5
  go_wp2_with fail
  refine (New_ok _ A c l (hs.keeps hk0 (by simp)) hl).mono ?_
  rintro e w1 ⟨b, F, rfl, hb, hk1, hF⟩
  go_wp2_with fail
  refine (live07_calls _).mono ?_
  rintro e w2 ⟨rfl, hk2⟩
  have hq2 := hk2.blk (hk1.blk hq (by simp)) (by simp)
  have q0 := blk_cell hq2 0
  have q1 := blk_cell hq2 1
  have q2 := blk_cell hq2 2
  have q3 := blk_cell hq2 3
  have hb2 := hb.keeps hk2 (by simp)
  have hk02 := (hk0.trans hk1).trans hk2
  have hFl := hb2.lt
  go_wp2_with fail
  have hR := BReplace_calls w2 b F ⟨l, l.length, -1⟩ f t B d txt hb2 hf ht htl (hB.keeps hk02 (by simp)) (fun a ha h0 hh => by have := hBlt a ha h0; have := hF _ hh; have := Hz.out; omega)
  rw [Herr.out, Hed.out] at hR
  have haf2 := Haf.out
  generalize BS.after ⟨l, l.length, -1⟩ f t txt = s1 at *
  refine hR.mono ?_
  rintro e w3 ⟨Ad, cd, Ai, ci, rfl, hd, hi, hk3, F', hF', hb3, hfd, hfi⟩
  have Haf2 := Lib.hid haf2; clear haf2 hR
  simp only at hd hi hfd hfi
  have hk03 := hk02.then hk3 (fun i hi => .inr (by have := hF i hi; have := Hz.out; omega))
  have z2 := hk02.size
  have z3 := hk3.size
  have hF3l := hb3.lt
  have hF3w : ∀ k, k ∈ F' → w.heap.size ≤ k := fun k hk => by
    rcases hF' k hk with h | h
    · have := hF k h; have := Hz.out; omega
    · omega
  have hdl := hd.fp_lt
  have hil := hi.fp_lt
  clear q0 q1 q2 q3
  have hka := (Keeps.refl [] w3).alloc (.cells #[.int .i64 (P.length : Int), .slice Ad D.length cd, .slice Ai txt.length ci] 24)
  have hb4 := hb3.keeps hka (by simp)
  have hk04 := hk03.trans hka
  have hd4 := hd.keeps hka (by simp)
  have hi4 := hi.keeps hka (by simp)
  have he4 := blk_new w3 (.cells #[.int .i64 (P.length : Int), .slice Ad D.length cd, .slice Ai txt.length ci] 24)
  have z4 := hka.size
  go_upto_region 7 with fail
  generalize w3.alloc (.cells #[.int .i64 (P.length : Int), .slice Ad D.length cd, .slice Ai txt.length ci] 24) = w4 at *
  clear hd hi hb3 hb2 hb hk0 hk1 hk2 hk3 hk02 hk03 hq hq2
  go_wp2_with fail
  refine (BText_calls w4 b F' _ hb4).mono ?_
  rintro e w5 ⟨T, tc, rfl, hrT, hk5, hfT⟩
  have hb5 := hb4.keeps hk5 (by simp)
  have he5 := hk5.blk he4 (by simp)
  obtain ⟨e0, e1, e2, _⟩ := three he5
  have hd5 := row_src (hd4.keeps hk5 (by simp))
  have hi5 := row_src (hi4.keeps hk5 (by simp))
  have z5 := hk5.size
  have hTl := hrT.fp_lt
  go_wp2_with fail
  refine (BReverse_calls w5 (P.length : Int) Ad Ai cd ci D txt hd5 hi5 (by omega) (by omega)).mono ?_
  rintro e w6 ⟨A1, c1, A2, c2, rfl, hr1, hr2, hk6, hf1, hf2⟩
  have hb6 := hb5.keeps hk6 (by simp)
  have z6 := hk6.size
  have hap := apply_parts s1 P txt S D Haf2.out (by omega)
  have hT := BApply_calls w6 b F' s1 A1 A2 c1 c2 ⟨P.length, txt, D⟩ hb6 ⟨by simp only; omega, by simp only; omega⟩ (row_src hr1) (row_src hr2) (by simp only; omega) (by simp only; unfold maxLen; omega)
    (fun x hx h0 hh => by
      obtain ⟨_, _, hv, _, _, _, hA⟩ := hr2.src
      cases hv
      have := hf2 _ (hA x hx h0); have := hF3l _ hh; omega)
  rw [hap.1] at hT
  have Hap := Lib.hid hap.2
  clear hap
  generalize s1.apply ⟨P.length, txt, D⟩ = s2 at *
  go_wp2_with fail
  refine hT.mono ?_
  rintro e w7 ⟨rfl, hk7, F7, hF7, hb7⟩
  clear hT
  have z7 := hk7.size
  have e37 := hk7.blk (hk6.blk he5 (by simp)) (fun hm => by have := hF3l _ hm; omega)
  have hl2 : s2.l = l := by rw [Hap.out, HP.out]
  have hT2 := BText_calls w7 b F7 s2 hb7
  rw [hl2] at hT2
  clear e0 e1 e2
  go_wp2_with fail
  refine hT2.mono ?_
  rintro e w8 ⟨U, uc, rfl, hrU, hk8, hfU⟩
  clear hT2
  have hk4w : Keeps [] w w7 := ((hk04.trans hk5).trans hk6).then hk7 (fun i hi => .inr (hF3w i hi))
  have hs8 := (hs.keeps hk4w (by simp)).keeps hk8 (by simp)
  have hb8 := hb7.keeps hk8 (by simp)
  have e38 := hk8.blk e37 (by simp)
  go_wp2_with fail
  refine (Same_calls w8 U A l.length l.length uc c l l (row_src hrU) hs8 rfl rfl hlm hlm).mono ?_
  rintro e w9 ⟨rfl, hk9⟩
  simp only [decide_true]
  have hb9 := hb8.keeps hk9 (by simp)
  have e39 := hk9.blk e38 (by simp)
  have hk9w : Keeps [] w w9 := (hk4w.trans hk8).trans hk9
  have hk89 := hk8.trans hk9
  have z9 := hk89.size
  have hk79 : Keeps [] w7 w9 := hk89
  -- the edit's rows and what was there, as they lie now
  have hd9 := ((hd4.keeps hk5 (by simp)).keeps hk6 (by simp)).keeps hk7 (fun i hi hm => (hfd i hi).2 hm) |>.keeps hk79 (by simp)
  have hi9 := ((hi4.keeps hk5 (by simp)).keeps hk6 (by simp)).keeps hk7 (fun i hi hm => (hfi i hi).2.1 hm) |>.keeps hk79 (by simp)
  have hr9 := ((hrT.keeps hk6 (by simp)).keeps hk7 (fun i hi hm => by have := hfT i hi; have := hF3l i hm; omega)).keeps hk79 (by simp)
  have hF7w : ∀ k, k ∈ F7 → (k ∈ F' ∨ w6.heap.size ≤ k) := hF7
  clear hr1 hr2 hrU hrT hd4 hi4 hk04 hk5 hk6 hk7 hk8 hk9 hk4w hs8 hb8 hb7 hb6 hb5 hb4 hk89
  obtain ⟨e0, e1, e2, _⟩ := three e39
  go_wp2_with fail
  have hkd := (Keeps.refl [] w9).drew
  have hapx := apply_parts s2 P D S txt (by rw [hl2]; exact HP.out) (by omega)
  have hTx := BApply_calls w9.drew b F7 s2 Ad Ai cd ci ⟨P.length, D, txt⟩ (hb9.keeps hkd (by simp)) ⟨by simp only; omega, by simp only; omega⟩ ((row_src hd9).keeps hkd (by simp)) ((row_src hi9).keeps hkd (by simp)) (by simp only; omega) (by simp only; unfold maxLen; omega)
    (fun x hx h0 hh => by
      obtain ⟨_, _, hv, _, _, _, hA⟩ := hi9.src
      cases hv
      have h1 := hA x hx h0
      have h2 := hfi _ h1
      have h3 := hil _ h1
      rcases hF7 _ hh with h | h
      · exact h2.2.1 h
      · omega)
  rw [hapx.1] at hTx
  have Hapx := Lib.hid hapx.2
  clear hapx
  generalize s2.apply ⟨P.length, D, txt⟩ = s3 at *
  have Hl2 := Lib.hid hl2; clear hl2
  have hl3 : Hid (s3.l = s1.l) := by show _ = _; rw [Hapx.out, Haf2.out]
  have hsm : s1.l.length ≤ maxLen := by
    have h1 : s1.l.length = P.length + (txt.length + S.length) := by rw [Haf2.out, List.length_append, List.length_append]
    unfold maxLen
    omega
  have hrm : txt.length * 4 ≤ 140737488355328 := by omega
  have hDm : D.length * 4 ≤ 140737488355328 := by omega
  have htm : txt.length ≤ 70368744177664 := by omega
  have hDm2 : D.length ≤ 70368744177664 := by omega
  have z4' := blk_lt he4
  have hF7e : w3.heap.size ∉ F7 := fun hm => by rcases hF7 _ hm with h | h; have := hF3l _ h; omega; omega
  have dd : ∀ i, i ∈ fp (.slice Ad D.length cd) → i ∉ F7 := fun i hi hm => by
    rcases hF7 _ hm with h | h
    · exact (hfd i hi).2 h
    · have := hdl i hi; omega
  have di : ∀ i, i ∈ fp (.slice Ai txt.length ci) → i ∉ F7 := fun i hi hm => by
    rcases hF7 _ hm with h | h
    · exact (hfi i hi).2.1 h
    · have := hil i hi; omega
  have dT : ∀ i, i ∈ fp (.slice T s1.l.length tc) → i ∉ F7 := fun i hi hm => by
    rcases hF7 _ hm with h | h
    · have := hF3l i h; have := hfT i hi; omega
    · have := hTl i hi; omega
  have hF7n : ∀ k, k ∈ F7 → w.heap.size ≤ k := fun k hk => by
    rcases hF7 _ hk with h | h
    · exact hF3w k h
    · omega
  clear hF7 hF7w hfd hfi hTl hfT hdl hil hF' hF3l hF3w hf1 hf2 z2 z3 z4 z4' z5 z6 z7 z9 hb9 hk79 hF hFl hBlt hB hs hDl hfit
  go_region_held3 (fun w' => w'.cell? ⟨w3.heap.size, 0, none⟩ = some (.int .i64 (P.length : Int)) ∧ w'.cell? ⟨w3.heap.size, 1, none⟩ = some (.slice Ad D.length cd) ∧ w'.cell? ⟨w3.heap.size, 2, none⟩ = some (.slice Ai txt.length ci)) (first | exact ⟨e0, e1, e2⟩ | exact ⟨a0, a1, a2⟩ | exact ⟨hkB.cell a0 (by simp), hkB.cell a1 (by simp), hkB.cell a2 (by simp)⟩ | exact ⟨hkC.cell a0 (by simp), hkC.cell a1 (by simp), hkC.cell a2 (by simp)⟩ | exact ⟨hkD.cell a0 (by simp), hkD.cell a1 (by simp), hkD.cell a2 (by simp)⟩ | exact ⟨hkE.cell a0 (by simp), hkE.cell a1 (by simp), hkE.cell a2 (by simp)⟩ | exact ⟨hkG.cell a0 (by simp), hkG.cell a1 (by simp), hkG.cell a2 (by simp)⟩) (first
    | (go_at_call 26
       refine (SameEdit_true wE A5 A6 Ad Ai c5 c6 cd ci D txt (P.length : Int) (row_src hr5) (row_src hr6) (row_src (hdA.keeps hkE (by simp))) (row_src (hiA.keeps hkE (by simp))) hDm2 htm).mono ?_
       rintro e wG ⟨rfl, hkG'⟩
       have hkG := hkE.trans hkG')
    | (go_at_call 25
       refine (BReverse_calls wD (P.length : Int) A3 A4 c3 c4 txt D (row_src hr3) (row_src hr4) hrm hDm).mono ?_
       rintro e wE ⟨A5, c5, A6, c6, rfl, hr5, hr6, hkE', _, _⟩
       have hkE := hkD.trans hkE')
    | (go_at_call 25
       refine (BReverse_calls wC (P.length : Int) Ad Ai cd ci D txt (row_src (hdA.keeps hkC (by simp))) (row_src (hiA.keeps hkC (by simp))) hDm hrm).mono ?_
       rintro e wD ⟨A3, c3, A4, c4, rfl, hr3, hr4, hkD', _, _⟩
       have hkD := hkC.trans hkD')
    | (go_at_call 14
       refine (Same_calls wB V T s1.l.length s1.l.length vc tc s1.l s1.l (row_src hrV) (row_src (hrA.keeps hkB (by simp))) rfl rfl hsm hsm).mono ?_
       rintro e wC ⟨rfl, hkC'⟩
       simp only [decide_true]
       have hkC := hkB.trans hkC')
    | (go_at_call 15
       have hTV := BText_calls wA b FA s3 hbA
       rw [hl3.out] at hTV
       refine hTV.mono ?_
       rintro e wB ⟨V, vc, rfl, hrV, hkB, _⟩
       clear hTV)
    | (go_at_call 24
       refine hTx.mono ?_
       rintro e wA ⟨rfl, hkA', FA, hFA, hbA⟩
       have hkA := (hkd.mono (fun _ h => by cases h) : Keeps F7 w9 w9.drew).trans hkA'
       obtain ⟨a0, a1, a2, _⟩ := three (hkA.blk e39 hF7e)
       have hdA := hd9.keeps hkA dd
       have hiA := hi9.keeps hkA di
       have hrA := hr9.keeps hkA dT
       have hkwA := hk9w.then hkA (fun i hi => .inr (hF7n i hi))
       clear hTx))
  go_wp2
  go_ret
  exact ⟨by simp, hkwA.trans hkG⟩
theorem back_all (w : World) (A : Option Addr) (n c : Nat) (l : List Int) (kd f t : Int) (B : Option Addr) (d : Nat) (txt : List Int) (x4 x5 x6 : Value) (hl : Runes w A n c l) (hs2 : Src w B (ns .i32 txt)) (hf : I64 f) (hto : I64 t) (hw : txt.length * 4 ≤ reachBytes) :
    Calls Tryd.prog 5 #[.slice A n c, .agg #[.int .i64 kd, .int .i64 f, .int .i64 t, .slice B txt.length d, x4, x5, x6]] w (Yea w) := by
  obtain ⟨rfl, hs, hc, hm, _⟩ := hl
  unfold reachBytes at hw
  by_cases hn : 1024 < l.length
  · exact back_long w A l.length c (by omega) hn _ _ _ _ _ _ _
  · by_cases herr : BS.err ⟨l, l.length, -1⟩ f t txt.length = 0
    · have hbad : ¬ (f < 0 ∨ (l.length : Int) < f ∨ t < f ∨ (l.length : Int) < t) := fun h => by
        simp only [BS.err, if_pos h] at herr; omega
      obtain ⟨fn, rfl⟩ : ∃ fn : Nat, f = fn := ⟨f.toNat, by omega⟩
      obtain ⟨tn, rfl⟩ : ∃ tn : Nat, t = tn := ⟨t.toNat, by omega⟩
      have hfit : ¬ 1024 < l.length - (tn - fn) + txt.length := fun h => by
        simp only [BS.err, if_neg hbad, Int.toNat_natCast, if_pos h] at herr; omega
      have hP : (l.take fn).length = fn := by rw [List.length_take]; omega
      have hD : ((l.drop fn).take (tn - fn)).length = tn - fn := by rw [List.length_take, List.length_drop]; omega
      have hS : (l.drop tn).length = l.length - tn := List.length_drop
      refine back_ok w A c l txt hs (by omega) kd fn tn B d x4 x5 x6 hf hto hs2 (by omega) (l.take fn) ((l.drop fn).take (tn - fn)) (l.drop tn) ?_ (by omega) herr ?_ ?_
      · rw [show l.drop tn = (l.drop fn).drop (tn - fn) by rw [List.drop_drop]; congr 1; omega, List.take_append_drop, List.take_append_drop]
      · simp only [BS.edit, herr, if_true, Int.toNat_natCast, hP]
      · simp only [BS.after, herr, if_true, Int.toNat_natCast, BS.splice, List.append_assoc]
    · exact back_no w A c l txt hs (by omega) kd f t B d x4 x5 x6 hf hto hs2 (by omega) herr
end Go.Proofs.YtmnmdpgckefefaaDoor.Buf
