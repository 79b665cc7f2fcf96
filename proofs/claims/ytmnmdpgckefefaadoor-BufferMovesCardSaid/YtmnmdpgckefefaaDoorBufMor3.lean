/- buffer.Buffer: Line, Clone; Reverse; slices.Equal at runes; Apply. -/
import Derived.Test.YtmnmdpgckefefaaDoorBufMor2
import Derived.Test.YtmnmdpgckefefaaDoorWords
import Derived.Test.YtmnmdpgckefefaaDoorOpArg
namespace Go.Proofs.YtmnmdpgckefefaaDoor.Buf
open Go Go.RowKit Go.Proofs.YtmnmdpgckefefaaDoor.Rw Go.Proofs.YtmnmdpgckefefaaDoor.SlR Go.Proofs.YtmnmdpgckefefaaDoor.Words Go.Proofs.YtmnmdpgckefefaaDoor.OpArg

/-- A line is told: its runes in new memory. -/
def Lined (w : World) (s : BS) (e : Ending) (w' : World) : Prop :=
  ∃ A c, e = .returned (.agg #[.slice A s.l.length c, .int .i64 s.point, .int .i64 s.mark]) ∧ Made w w' (.slice A s.l.length c) s.l.length (ns .i32 s.l)
set_option maxRecDepth 100000 in
theorem BLine_calls (w : World) (b : Nat) (F : List Nat) (s : BS) (h : BAt w b F s) : Calls Tryd.prog 21 #[.pointer (some ⟨b, 0, none⟩)] w (Lined w s) := by
  have hk0 := (Keeps.refl [] w).alloc (.cells #[.slice none 0 0, .int .i64 0, .int .i64 0] 46)
  have hr0 := blk_new w (.cells #[.slice none 0 0, .int .i64 0, .int .i64 0] 46)
  have hz : (w.alloc (.cells #[.slice none 0 0, .int .i64 0, .int .i64 0] 46)).heap.size = w.heap.size + 1 := by simp
  have h0 := h.keeps hk0 (by simp)
  go_enter Tryd.func21, Tryd.ntmps21
  go_wp2_with fail
  refine (BText_calls _ b F s h0).mono ?_
  rintro e w1 ⟨A, c, rfl, hrow, hk1, hf1⟩
  have hr1 := hk1.blk hr0 (by simp)
  have h1 := h0.keeps hk1 (by simp)
  obtain ⟨r0, r1, r2, s0, s1, s2⟩ := three hr1
  go_wp2_with (first | (go_at_call 23; refine (BPoint_calls _ b F s h1).mono ?_; rintro e w' ⟨rfl, rfl⟩) | (go_at_call 46; refine (BMark_calls _ b F s h1).mono ?_; rintro e w' ⟨rfl, rfl⟩))
  refine bodyPost_ret (v := .agg #[.slice A s.l.length c, .int .i64 s.point, .int .i64 s.mark]) (by simp [results, Tryd.results21, go_sem, r0, r1, r2]) rfl ?_
  have hW : ∀ (u v x : Value), Keeps [w.heap.size] w1 (((w1.setCell ⟨w.heap.size, 0, none⟩ u).setCell ⟨w.heap.size, 1, none⟩ v).setCell ⟨w.heap.size, 2, none⟩ x) := fun u v x =>
    (((Keeps.refl _ w1).setCell _ _ (.inl (by simp))).setCell _ _ (.inl (by simp))).setCell _ _ (.inl (by simp))
  exact ⟨A, c, rfl, hrow.keeps (hW _ _ _) (fun k hk => by have := hf1 k hk; simp; omega), (hk0.trans hk1).then (hW _ _ _) (fun k hk => .inr (by simp at hk; omega)), fun k hk => by have := hf1 k hk; omega⟩

/-- A new buffer of the same state. -/
def Cloned (w : World) (s : BS) (e : Ending) (w' : World) : Prop :=
  ∃ b F, e = .returned (.pointer (some ⟨b, 0, none⟩)) ∧ BAt w' b F s ∧ Keeps [] w w' ∧ ∀ k, k ∈ F → w.heap.size ≤ k
set_option maxRecDepth 100000 in
theorem BClone_calls (w : World) (b : Nat) (F : List Nat) (s : BS) (h : BAt w b F s) : Calls Tryd.prog 47 #[.pointer (some ⟨b, 0, none⟩)] w (Cloned w s) := by
  have h0 := h
  obtain ⟨lv, N, fr, ub, xs, hb, hF⟩ := h0
  obtain ⟨c0, c1, c2, c3, c4, c5, _⟩ := hb.six
  clear hF
  obtain ⟨A, c, hv, hNc, hcm, hsrc, hA⟩ := hb.row.src
  subst hv
  have hlen := hb.row.len
  rw [Nat.mul_one] at hlen
  have Hlen := Lib.hid hlen; clear hlen
  have hk0 := (Keeps.refl [] w).alloc (.cells #[.bool true, .slice A N c, .int .i64 fr, .int .i64 ub, .int .i64 s.point, .int .i64 s.mark] 67)
  have hr0 := blk_new w (.cells #[.bool true, .slice A N c, .int .i64 fr, .int .i64 ub, .int .i64 s.point, .int .i64 s.mark] 67)
  have hz : (w.alloc (.cells #[.bool true, .slice A N c, .int .i64 fr, .int .i64 ub, .int .i64 s.point, .int .i64 s.mark] 67)).heap.size = w.heap.size + 1 := by simp
  have hbz := h.lt
  have q0 := blk_cell (hk0.blk hb.blk (by simp)) 1
  have hsm := hb.small
  go_enter Tryd.func47, Tryd.ntmps47
  go_wp2_with (go_at_call 51; refine (BNone_calls _ _ true c0).mono ?_; rintro e w' ⟨rfl, rfl⟩)
  refine (Clone_calls _ A N c xs (hsrc.keeps hk0 (by simp)) Hlen.out hb.one (by omega)).mono ?_
  rintro e w1 ⟨A1, c1', rfl, hrow, hk1, hf1⟩
  have hr1 := hk1.blk hr0 (by simp)
  obtain ⟨r0, r1, r2, r3, r4, r5, s1, s2, s3, s4, s5⟩ := six hr1
  go_wp2_with fail
  go_ret
  have hfr : w.heap.size ∉ fp (.slice A1 N c1') := fun hm => by have := hf1 _ hm; omega
  refine ⟨w.heap.size, _, rfl, ⟨.slice A1 N c1', N, fr, ub, xs, ⟨blk_set hr1 1 _, hrow.far _ _ hfr, hb.fr_to, hb.to_N, hb.text, hb.small, hb.short, hb.pt0, hb.pt1, hb.mk0, hb.mk1, hb.one⟩, rfl⟩, (hk0.trans hk1).setCell _ _ (.inr (Nat.le_refl _)), ?_⟩
  intro k hk
  rcases List.mem_cons.1 hk with h1 | h1
  · omega
  · have := hf1 k h1; omega

/-- slices.Equal. -/
theorem Equal_calls (w : World) (A B : Option Addr) (n m c d : Nat) (xs ys : List Int) (hA : Src w A (ns .i32 xs)) (hB : Src w B (ns .i32 ys)) (hn : xs.length = n) (hm : ys.length = m) (hn2 : n ≤ maxLen) (hm2 : m ≤ maxLen) :
    Calls Tryd.prog 57 #[.slice A n c, .slice B m d] w fun e w' => e = .returned (.bool (decide (xs = ys))) ∧ Keeps [] w w' := by
  unfold maxLen at hn2 hm2
  have Hn := Lib.hid hn
  have Hm := Lib.hid hm
  clear hn hm
  by_cases hnm : n = m
  · subst hnm
    go_enter Tryd.func57, Tryd.ntmps57
    go_wp2_with fail
    go_loopw [13] (fun i wr => ∃ k : Nat, k ≤ n ∧ i = .int .i64 k ∧ Keeps [] w wr ∧ xs.take k = ys.take k) (fun i _ => n - (intOf i).toNat)
    case atStart => exact ⟨0, Nat.zero_le _, rfl, Keeps.refl _ _, rfl⟩
    case round =>
      obtain ⟨k, hk, rfl, hkr, hpre⟩ := hrel
      have Hpre := Lib.hid hpre; clear hpre
      by_cases hlt : k < n
      · have hx : k < xs.length := by rw [Hn.out]; exact hlt
        have hy : k < ys.length := by rw [Hm.out]; exact hlt
        obtain ⟨ad, rfl, hc⟩ := src_num (hA.keeps hkr (by simp)) k hx
        obtain ⟨bd, rfl, hd⟩ := src_num (hB.keeps hkr (by simp)) k hy
        obtain ⟨x, hxe⟩ : ∃ x, x = xs[k] := ⟨_, rfl⟩
        obtain ⟨y, hye⟩ : ∃ y, y = ys[k] := ⟨_, rfl⟩
        rw [← hxe] at hc
        rw [← hye] at hd
        have Hxe := Lib.hid hxe; clear hxe
        have Hye := Lib.hid hye; clear hye
        have hkd := hkr.drew
        go_wp2_with fail
        by_cases hxy : x = y
        · have hdone : xs.take (k + 1) = ys.take (k + 1) := by
            rw [List.take_succ_eq_append_getElem hx, List.take_succ_eq_append_getElem hy, Hpre.out, ← Hxe.out, ← Hye.out, hxy]
          have Hdone := Lib.hid hdone; clear hdone
          go_region
          all_goals go_wp2
          all_goals go_roundw
          all_goals first | exact ⟨k + 1, by omega, by go_num, by first | exact hkr | exact hkd, Hdone.out⟩ | (simp [intOf]; omega)
        · have hne : ¬ xs = ys := by
            intro e; subst e; exact hxy (Hxe.out.trans Hye.out.symm)
          have Hne := Lib.hid hne; clear hne
          go_region
          all_goals go_wp2
          all_goals go_ret
          all_goals exact ⟨by simp [Hne.out], by first | exact hkr | exact hkd⟩
      · obtain rfl : k = n := by omega
        go_wp2
        go_ret
        have : xs = ys := by
          have := Hpre.out
          rwa [List.take_of_length_le (by rw [Hn.out]; omega), List.take_of_length_le (by rw [Hm.out]; omega)] at this
        exact ⟨by simp [this], hkr⟩
  · have hne : ¬ xs = ys := fun e => hnm (by rw [← Hn.out, ← Hm.out, e])
    have Hne := Lib.hid hne; clear hne
    go_enter Tryd.func57, Tryd.ntmps57
    go_wp2
    go_ret
    exact ⟨by simp [Hne.out], Keeps.refl _ _⟩

/-- An edit is turned: both lists anew. -/
def Turnt (w : World) (a : Int) (xs ys : List Int) (e : Ending) (w' : World) : Prop :=
  ∃ A1 c1 A2 c2, e = .returned (.agg #[.int .i64 a, .slice A1 ys.length c1, .slice A2 xs.length c2]) ∧ Row w' 21 1 (.slice A1 ys.length c1) ys.length (ns .i32 ys) ∧ Row w' 21 1 (.slice A2 xs.length c2) xs.length (ns .i32 xs) ∧
    Keeps [] w w' ∧ (∀ k, k ∈ fp (.slice A1 ys.length c1) → w.heap.size ≤ k) ∧ (∀ k, k ∈ fp (.slice A2 xs.length c2) → w.heap.size ≤ k)
set_option maxRecDepth 100000 in
set_option maxHeartbeats 1000000 in
theorem BReverse_calls (w : World) (a : Int) (A B : Option Addr) (c d : Nat) (xs ys : List Int) (hA : Src w A (ns .i32 xs)) (hB : Src w B (ns .i32 ys)) (hx : xs.length * 4 ≤ 140737488355328) (hy : ys.length * 4 ≤ 140737488355328) :
    Calls Tryd.prog 25 #[.agg #[.int .i64 a, .slice A xs.length c, .slice B ys.length d]] w (Turnt w a xs ys) := by
  have hk0 := ((Keeps.refl [] w).alloc (.cells #[.int .i64 a, .slice A xs.length c, .slice B ys.length d] 24)).alloc (.cells #[.int .i64 0, .slice none 0 0, .slice none 0 0] 24)
  have hq0 := blk_alloc (blk_new w (.cells #[.int .i64 a, .slice A xs.length c, .slice B ys.length d] 24)) (.cells #[.int .i64 0, .slice none 0 0, .slice none 0 0] 24)
  have hr0 := blk_new (w.alloc (.cells #[.int .i64 a, .slice A xs.length c, .slice B ys.length d] 24)) (.cells #[.int .i64 0, .slice none 0 0, .slice none 0 0] 24)
  have hz : ((w.alloc (.cells #[.int .i64 a, .slice A xs.length c, .slice B ys.length d] 24)).alloc (.cells #[.int .i64 0, .slice none 0 0, .slice none 0 0] 24)).heap.size = w.heap.size + 2 := by simp
  have hz1 : (w.alloc (.cells #[.int .i64 a, .slice A xs.length c, .slice B ys.length d] 24)).heap.size = w.heap.size + 1 := by simp
  have hA0 := hA.keeps hk0 (by simp)
  have hB0 := hB.keeps hk0 (by simp)
  rw [hz1] at hr0
  have Hz := Lib.hid hz
  clear hz hz1
  go_enter Tryd.func25, Tryd.ntmps25
  go_wp2_with fail
  generalize ((w.alloc (.cells #[.int .i64 a, .slice A xs.length c, .slice B ys.length d] 24)).alloc (.cells #[.int .i64 0, .slice none 0 0, .slice none 0 0] 24)) = w0 at *
  obtain ⟨q0, q1, q2, _⟩ := three hq0
  have hAk : ∀ W : World, Keeps [] w0 W → Src W A (ns .i32 xs) := fun W k => hA0.keeps k (by simp)
  have hBk : ∀ W : World, Keeps [] w0 W → Src W B (ns .i32 ys) := fun W k => hB0.keeps k (by simp)
  have HA := Lib.hid hAk
  have HB := Lib.hid hBk
  clear hAk hBk hA hB hA0 hB0
  have hkd := (Keeps.refl [] w0).drew
  go_region_held3 (fun w' => w'.cell? ⟨w.heap.size, 0, none⟩ = some (.int .i64 a) ∧ w'.cell? ⟨w.heap.size, 1, none⟩ = some (.slice A xs.length c) ∧ w'.cell? ⟨w.heap.size, 2, none⟩ = some (.slice B ys.length d)) (first | exact ⟨q0, q1, q2⟩ | exact ⟨hkT.cell q0 (by simp), hkT.cell q1 (by simp), hkT.cell q2 (by simp)⟩ | exact ⟨hkU.cell q0 (by simp), hkU.cell q1 (by simp), hkU.cell q2 (by simp)⟩ | (refine ⟨?_, ?_, ?_⟩ <;> go_simp)) (first
    | (go_at_call 49
       refine (Clone_calls wT A xs.length c (ns .i32 xs) (HA.out _ hkT) (ns_length _ _) (ns_one _ _) hx).mono ?_
       rintro e wU ⟨A2, c2, rfl, hrow2, hkU0, hf2⟩
       have hkU := hkT.trans hkU0
       have u0 := hkU.cell q0 (by simp)
       have u1 := hkU.cell q1 (by simp)
       have u2 := hkU.cell q2 (by simp)
       obtain ⟨r0, r1, r2, s0, s1, s2⟩ := three (hkU.blk hr0 (by simp)))
    | (go_at_call 49
       refine (Clone_calls w0.drew B ys.length d (ns .i32 ys) (HB.out _ hkd) (ns_length _ _) (ns_one _ _) hy).mono ?_
       rintro e wT ⟨A1, c1, rfl, hrow1, hkT0, hf1⟩
       have hkT := hkd.trans hkT0))
  go_wp2
  refine bodyPost_ret (v := .agg #[.int .i64 a, .slice A1 ys.length c1, .slice A2 xs.length c2]) (by simp [results, Tryd.results25, go_sem, r0, r1, r2]) rfl ?_
  have hW : ∀ (u v x : Value), Keeps [w.heap.size + 1] wU (((wU.setCell ⟨w.heap.size + 1, 0, none⟩ u).setCell ⟨w.heap.size + 1, 1, none⟩ v).setCell ⟨w.heap.size + 1, 2, none⟩ x) := fun u v x =>
    (((Keeps.refl _ wU).setCell _ _ (.inl (by simp))).setCell _ _ (.inl (by simp))).setCell _ _ (.inl (by simp))
  have hf1' : ∀ k, k ∈ fp (.slice A1 ys.length c1) → w.heap.size + 2 ≤ k := fun k hk => by rw [← Hz.out]; exact hf1 k hk
  have hf2' : ∀ k, k ∈ fp (.slice A2 xs.length c2) → w.heap.size + 2 ≤ k := fun k hk => by have := hf2 k hk; have := hkT.size; have := Hz.out; omega
  exact ⟨A1, c1, A2, c2, rfl, (hrow1.keeps hkU0 (by simp)).keeps (hW _ _ _) (fun k hk => by have := hf1' k hk; simp; omega), hrow2.keeps (hW _ _ _) (fun k hk => by have := hf2' k hk; simp; omega),
    (hk0.trans hkU).then (hW _ _ _) (fun k hk => .inr (by simp at hk; omega)), fun k hk => by have := hf1' k hk; omega, fun k hk => by have := hf2' k hk; omega⟩
end Go.Proofs.YtmnmdpgckefefaaDoor.Buf
