/- lanyardlaw07.BufferOwn: what it comes to. -/
import Derived.Test.YtmnmdpgckefefaaDoorRef5
import Derived.Test.YtmnmdpgckefefaaDoorBufLive
namespace Go.Proofs.YtmnmdpgckefefaaDoor.Buf
open Go Go.RowKit Go.Proofs.YtmnmdpgckefefaaDoor.Rw Go.Proofs.YtmnmdpgckefefaaDoor.SlR Go.Proofs.YtmnmdpgckefefaaDoor.Words Go.Proofs.YtmnmdpgckefefaaDoor.OpArg

def Yea (w : World) (e : Ending) (w' : World) : Prop := e = .returned (.bool true) ∧ Keeps [] w w'

set_option maxRecDepth 100000 in
theorem own_long (w : World) (A B : Option Addr) (c m d : Nat) (l : List Int) (a : Int) (hs : Src w A (ns .i32 l)) (h : 1024 < l.length) (hn : l.length * 4 ≤ 140737488355328) :
    Calls Tryd.prog 4 #[.slice A l.length c, .slice B m d, .int .i64 a] w (Yea w) := by
  have hk0 := (Keeps.refl [] w).alloc (.cells #[] 21)
  have hlm : l.length ≤ maxLen := by unfold maxLen; omega
  go_enter Tryd.func4, Tryd.ntmps4
  go_wp2_with (first
    | (at_builtin; refine wpList_append_row rfl _ _ 22 rfl el (.slice _ 0 0) 0 [] rfl (Row.nil _ _ _ _) A l.length c (ns .i32 l) rfl (by rw [ns_length, Nat.mul_one]) (hs.keeps hk0 (by simp)) (ns_one _ _) (by unfold maxLen; omega) (by omega) ?_
       intro A1 d1 w1 hrow1 hk1 hf1
       rw [fp_zero] at hk1 hf1
       rw [List.nil_append] at hrow1
       simp only [Nat.zero_add] at hrow1 hf1
       have hk01 := hk0.trans hk1)
    | (go_at_call 11; refine (New_long _ A1 _ d1 (by omega) (by omega)).mono ?_; rintro e w' ⟨rfl, rfl⟩)
    | (go_at_call 16; refine (RfNew_long _ A _ c (by omega) (by omega)).mono ?_; rintro e w' ⟨rfl, rfl⟩)
    | (go_at_call 12; refine (live07_calls _).mono ?_; rintro e w2 ⟨rfl, hk2⟩))
  go_ret
  exact ⟨rfl, hk01.trans hk2⟩

/-- A row is written over: what is left of it is a row. -/
theorem cell_at {w : World} {n c k : Nat} {A : Option Addr} {xs : List Value} (h : Row w 21 1 (.slice A n c) n xs) (hk : k < n) :
    ∃ g off, A = some ⟨g, off, none⟩ ∧ fp (.slice A n c) = [g] ∧ (∃ u, w.cell? ⟨g, off + k, none⟩ = some u) ∧ w.frozen? ⟨g, off + k, none⟩ = false ∧ ∀ u, Row (w.setCell ⟨g, off + k, none⟩ u) 21 1 (.slice A n c) n (xs.set k u) := by
  have hl := h.len
  rw [Nat.mul_one] at hl
  obtain ⟨g, off, c', hv, _, _, hf, hc, hz⟩ := h.cell (i := k) (by omega)
  cases hv
  exact ⟨g, off, rfl, hf, ⟨_, hc⟩, hz, fun u => h.set k u (by omega)⟩
/-- A row, whatever it holds. -/
def Some_row (w : World) (v : Value) (n : Nat) : Prop := ∃ xs, Row w 21 1 v n xs
theorem Some_row.at_ {w : World} {n c k : Nat} {A : Option Addr} (h : Some_row w (.slice A n c) n) (hk : k < n) :
    ∃ g off, A = some ⟨g, off, none⟩ ∧ g ∈ fp (.slice A n c) ∧ (∃ u, w.cell? ⟨g, off + k, none⟩ = some u) ∧ w.frozen? ⟨g, off + k, none⟩ = false ∧ ∀ u, Some_row (w.setCell ⟨g, off + k, none⟩ u) (.slice A n c) n := by
  obtain ⟨xs, h⟩ := h
  obtain ⟨g, off, h1, h2, h3, h4, h5⟩ := cell_at h hk
  exact ⟨g, off, h1, by rw [h2]; simp, h3, h4, fun u => ⟨_, h5 u⟩⟩
theorem Some_row.keeps {w w' : World} {n : Nat} {v : Value} {F : List Nat} (h : Some_row w v n) (k : Keeps F w w') (hd : ∀ i, i ∈ fp v → i ∉ F) : Some_row w' v n := by
  obtain ⟨xs, h⟩ := h
  exact ⟨xs, h.keeps k hd⟩

set_option maxRecDepth 100000 in
set_option maxHeartbeats 4000000 in
theorem own_ok (w : World) (A B : Option Addr) (c d : Nat) (l m : List Int) (a : Int) (ha : In64 a) (hs : Src w A (ns .i32 l)) (hB : Src w B (ns .i32 m)) (hl : l.length ≤ 1024) (hm : m.length * 4 ≤ 140737488355328) :
    Calls Tryd.prog 4 #[.slice A l.length c, .slice B m.length d, .int .i64 a] w (Yea w) := by
  have hk0 := (Keeps.refl [] w).alloc (.cells #[] 21)
  have hz0 : (w.alloc (.cells #[] 21)).heap.size = w.heap.size + 1 := by simp
  have Hz0 := Lib.hid hz0; clear hz0
  have hm2 : m.length ≤ 70368744177664 := by omega
  go_enter Tryd.func4, Tryd.ntmps4
  go_upto_region 7 with (first
    | (at_builtin; refine wpList_append_row rfl _ _ 22 rfl el (.slice _ 0 0) 0 [] rfl (Row.nil _ _ _ _) A l.length c (ns .i32 l) rfl (by rw [ns_length, Nat.mul_one]) (hs.keeps hk0 (by simp)) (ns_one _ _) (by unfold maxLen; omega) (by omega) ?_
       intro A1 d1 w1 hrow1 hk1 hf1
       rw [fp_zero] at hk1 hf1
       rw [List.nil_append] at hrow1
       simp only [Nat.zero_add] at hrow1 hf1
       have hk01 := hk0.trans hk1)
    | (go_at_call 11; refine (New_ok _ A1 d1 l (row_src hrow1) hl).mono ?_; rintro e w2 ⟨b, F, rfl, hb2, hk2, hF2⟩)
    | (go_at_call 16; refine (RfNew_ok _ A c l (hs.keeps (hk01.trans hk2) (by simp)) hl).mono ?_; rintro e w3 ⟨r, G, rfl, hr3, hk3, hG3⟩)
    | (go_at_call 12; refine (live07_calls _).mono ?_; rintro e w4 ⟨rfl, hk4⟩))
  have hM := hrow1.fp_lt
  have hMn : ∀ k, k ∈ fp (.slice A1 l.length d1) → w.heap.size ≤ k := fun k hk => (hf1 k hk).elim (fun h => by cases h) (fun h => by have := Hz0.out; omega)
  have hFl := hb2.lt
  have hGl := hr3.lt
  have hb4 := (hb2.keeps hk3 (by simp)).keeps hk4 (by simp)
  have hr4 := hr3.keeps hk4 (by simp)
  have hkw4 := ((hk01.trans hk2).trans hk3).trans hk4
  have z1 := hk01.size
  have z2 := hk2.size
  have z3 := hk3.size
  have z4 := hk4.size
  have hrow4 : Some_row w4 (.slice A1 l.length d1) l.length := ⟨_, hrow1.keeps ((hk2.trans hk3).trans hk4) (by simp)⟩
  clear hk0 hk1 hk2 hk3 hk4 hrow1 hf1 hb2 hr3 hk01 hs
  go_loopw [54] (fun i wr => ∃ k : Nat, k ≤ l.length ∧ i = .int .i64 k ∧ Keeps (fp (.slice A1 l.length d1)) w4 wr ∧ Some_row wr (.slice A1 l.length d1) l.length) (fun i _ => l.length - (intOf i).toNat)
  case atStart => exact ⟨0, Nat.zero_le _, rfl, Keeps.refl _ _, hrow4⟩
  case round =>
    obtain ⟨k, hk, rfl, hkr, hrr⟩ := hrel
    by_cases hlt : k < l.length
    · obtain ⟨g, off, rfl, hg, ⟨u, hcell⟩, hfz, hset⟩ := hrr.at_ hlt
      go_wp2
      go_roundw
      case rel => exact ⟨k + 1, by omega, by go_num, hkr.setCell _ _ (.inl hg), hset _⟩
      case measure => simp [intOf]; omega
    · obtain ⟨w5, rfl⟩ : ∃ w5, w5 = wr := ⟨_, rfl⟩
      have hb5 := hb4.keeps hkr (fun i hi hm => by have := hF2 i hi; have := hM i hm; omega)
      have hr5 := hr4.keeps hkr (fun i hi hm => by have := hG3 i hi; have := hM i hm; omega)
      have hkw5 := hkw4.then hkr (fun i hi => .inr (hMn i hi))
      have z5 := hkr.size
      obtain rfl : k = l.length := by omega
      clear hlt hk hrr hkr hrow4 hkw4 hb4 hr4
      go_upto_region 15 with (first
        | (go_at_call 17; refine (BMove_calls w5 b F _ a hb5 ha).mono ?_; rintro e w6 ⟨rfl, hk6, F6, hF6, hb6⟩
           have hr6 := hr5.keeps hk6 (fun i hi hm => by have := hG3 i hi; have := hFl i hm; omega)
           have hkw6 := hkw5.then hk6 (fun i hi => .inr (by have := hF2 i hi; omega))
           have z6 := hk6.size)
        | (go_at_call 18; refine (RfMove_calls w6 r G _ a hr6).mono ?_; rintro e w7 ⟨rfl, hk7, G7, hG7, hr7⟩
           have hb7 := hb6.keeps hk7 (fun i hi hm => by have := hG3 i hm; have := hGl i hm; rcases hF6 i hi with h | h; have := hFl i h; omega; omega)
           have hkw7 := hkw6.then hk7 (fun i hi => .inr (by have := hG3 i hi; omega))
           have hl6 := hb6.lt
           have hl7 := hr7.lt
           have z7 := hk7.size
           have hka := (Keeps.refl [] w7).alloc (.cells #[] 21)
           have hkw8 := hkw7.trans hka)
        | (at_builtin; refine wpList_append_row rfl _ _ 22 rfl el (.slice _ 0 0) 0 [] rfl (Row.nil _ _ _ _) B m.length d (ns .i32 m) rfl (by rw [ns_length, Nat.mul_one]) (hB.keeps hkw8 (by simp)) (ns_one _ _) (by unfold maxLen; omega) (by omega) ?_
           intro A8 d8 w8 hrow8 hk8' hf8
           rw [fp_zero] at hk8' hf8
           rw [List.nil_append] at hrow8
           simp only [Nat.zero_add] at hrow8 hf8
           have hk8 := hka.trans hk8'
           have hb8 := hb7.keeps hk8 (by simp)
           have hr8 := hr7.keeps hk8 (by simp)
           have hf8' : ∀ k, k ∈ fp (.slice A8 m.length d8) → w7.heap.size ≤ k := fun k hk => (hf8 k hk).elim (fun h => by cases h) (fun h => Nat.le_trans hka.size h)
           have hf8l := hrow8.fp_lt
           have z8 := hk8.size
           obtain ⟨_, _, hv8, _, _, hs8, hA8⟩ := hrow8.src
           cases hv8)
        | (go_at_call 19; refine (BInsert_calls w8 b F6 _ A8 d8 m hb8 hm2 hs8 (fun x hx h0 hh => by have := hf8' _ (hA8 x hx h0); have := hl6 _ hh; omega)).mono ?_
           rintro e w9 ⟨Ad, cd, Ai, ci, rfl, hd9, hi9, hk9, F9, hF9, hb9, hfd9, hfi9⟩
           have hr9 := hr8.keeps hk9 (fun i hi hm => by rcases hG7 i hi with h | h; have := hG3 i h; have := hGl i h; rcases hF6 i hm with h' | h'; have := hFl i h'; omega; omega; have := hl6 i hm; omega)
           have z9 := hk9.size))
      have hkw9 := (hkw8.trans hk8').then hk9 (fun i hi => .inr (by rcases hF6 i hi with h | h; have := hF2 i h; omega; omega))
      have hrow9 : Some_row w9 (.slice A8 m.length d8) m.length := ⟨_, hrow8.keeps hk9 (fun i hi hm => by have := hf8' i hi; have := hl6 i hm; omega)⟩
      clear hkw8 hk8' hka hk8 hb8 hr8 hs8 hrow8 hk9 hb7 hr7 hb6 hr6 hk6 hk7 hkw6 hkw7 hb5 hr5 hkw5
      generalize BS.move ⟨l, (l.length : Int), -1⟩ a = s6 at *
      have hka := (Keeps.refl [] w9).alloc (.cells #[.int .i64 (s6.edit s6.point s6.point m).at_, .slice Ad (s6.edit s6.point s6.point m).del.length cd, .slice Ai (s6.edit s6.point s6.point m).ins.length ci] 24)
      have he10 := blk_new w9 (.cells #[.int .i64 (s6.edit s6.point s6.point m).at_, .slice Ad (s6.edit s6.point s6.point m).del.length cd, .slice Ai (s6.edit s6.point s6.point m).ins.length ci] 24)
      generalize w9.alloc (.cells #[.int .i64 (s6.edit s6.point s6.point m).at_, .slice Ad (s6.edit s6.point s6.point m).del.length cd, .slice Ai (s6.edit s6.point s6.point m).ins.length ci] 24) = w10 at *
      have hkd := hka.drew
      have hr10 := hr9.keeps hkd (by simp)
      have hb10 := hb9.keeps hkd (by simp)
      have hkw10 := hkw9.trans hkd
      have he10d : w10.drew.heap[w9.heap.size]? = _ := he10
      have hrow10 := hrow9.keeps hkd (by simp)
      have hi10 : Some_row w10.drew (.slice Ai (s6.edit s6.point s6.point m).ins.length ci) (s6.edit s6.point s6.point m).ins.length := ⟨_, hi9.keeps hkd (by simp)⟩
      have hi9l := hi9.fp_lt
      have hni : (s6.edit s6.point s6.point m).ins.length ≤ 9223372036854775807 := by obtain ⟨_, _, hv, q1, q2⟩ := hi9.slice; cases hv; unfold maxLen at q2; omega
      have hl9 := hb9.lt
      have z10 := hkd.size
      obtain ⟨L, lc, x0, x1, x2, _⟩ := (hr9.keeps hka (by simp)).cell0
      go_still_tail 10, (by kernel_rfl)
      change wpList _ _ _ _ _ w10.drew
      generalize w10.drew = wd at *
      go_wp2_with fail
      refine (RfReplace_calls wd r G7 s6 B d s6.point s6.point m hr10 hm2 (hB.keeps hkw10 (by simp)) (fun x hx h0 hh => by have := Src.lt hB x hx h0; rcases hG7 _ hh with h | h; have := hG3 _ h; omega; omega)).mono ?_
      rintro e w11 ⟨_, _, _, _, rfl, _, _, hk11, G11, hG11, hr11, _, _⟩
      have hG7w : ∀ k, k ∈ G7 → w2.heap.size ≤ k ∧ k < w7.heap.size ∧ (k < w3.heap.size ∨ w6.heap.size ≤ k) := fun k hk => by
        have := hl7 k hk
        rcases hG7 k hk with h | h
        · have := hG3 k h; have := hGl k h; omega
        · omega
      have hF6w : ∀ k, k ∈ F6 → w1.heap.size ≤ k ∧ k < w6.heap.size ∧ (k < w2.heap.size ∨ w5.heap.size ≤ k) := fun k hk => by
        have := hl6 k hk
        rcases hF6 k hk with h | h
        · have := hF2 k h; have := hFl k h; omega
        · omega
      have hF9w : ∀ k, k ∈ F9 → w1.heap.size ≤ k ∧ k < w9.heap.size ∧ (k < w2.heap.size ∨ (w5.heap.size ≤ k ∧ k < w6.heap.size) ∨ w8.heap.size ≤ k) := fun k hk => by
        have := hl9 k hk
        rcases hF9 k hk with h | h
        · have := hF6w k h; omega
        · omega
      have hb11 := hb10.keeps hk11 (fun i hi hm => by have := hF9w i hi; have := hG7w i hm; omega)
      have he11 := hk11.blk he10d (fun hm => by have := hG7w _ hm; omega)
      have hrow11 := hrow10.keeps hk11 (fun i hi hm => by have := hf8' i hi; have := hG7w i hm; omega)
      have hi11 := hi10.keeps hk11 (fun i hi hm => by have := hfi9 i hi; have := hG7w i hm; omega)
      have hkw11 := hkw10.then hk11 (fun i hi => .inr (by have := hG7w i hi; omega))
      have hG11w : ∀ k, k ∈ G11 → w2.heap.size ≤ k ∧ (k < w7.heap.size ∧ (k < w3.heap.size ∨ w6.heap.size ≤ k) ∨ wd.heap.size ≤ k) := fun k hk => by
        rcases hG11 k hk with h | h
        · have := hG7w k h; omega
        · omega
      have z11 := hk11.size
      clear hr9 hb9 hkw9 hrow9 hi9 hkd hka he10 he10d hb10 hr10 hrow10 hi10 x0 x1 x2 hk11 hkw10
      go_wp2_with fail
      go_loopw [89] (fun i wr => ∃ k : Nat, k ≤ m.length ∧ i = .int .i64 k ∧ Keeps (fp (.slice A8 m.length d8)) w11 wr ∧ Some_row wr (.slice A8 m.length d8) m.length) (fun i _ => m.length - (intOf i).toNat)
      case atStart => exact ⟨0, Nat.zero_le _, rfl, Keeps.refl _ _, hrow11⟩
      case round =>
        obtain ⟨k, hk, rfl, hkr, hrr⟩ := hrel
        by_cases hlt : k < m.length
        · obtain ⟨g, off, rfl, hg, ⟨u, hcell⟩, hfz, hset⟩ := hrr.at_ hlt
          go_wp2
          go_roundw
          case rel => exact ⟨k + 1, by omega, by go_num, hkr.setCell _ _ (.inl hg), hset _⟩
          case measure => simp [intOf]; omega
        · obtain ⟨w12, rfl⟩ : ∃ w12, w12 = wr := ⟨_, rfl⟩
          obtain rfl : k = m.length := by omega
          clear hlt hk
          have hb12 := hb11.keeps hkr (fun i hi hm => by have := hF9w i hi; have := hf8' i hm; have := hf8l i hm; omega)
          have hr12 := hr11.keeps hkr (fun i hi hm => by have := hG11w i hi; have := hf8' i hm; have := hf8l i hm; omega)
          have he12 := hkr.blk he11 (fun hm => by have := hf8' _ hm; have := hf8l _ hm; omega)
          have hi12 := hi11.keeps hkr (fun i hi hm => by have := hfi9 i hi; have := hf8l i hm; omega)
          have hkw12 := hkw11.then hkr (fun i hi => .inr (by have := hf8' i hi; omega))
          have z12 := hkr.size
          clear hb11 hr11 he11 hi11 hkw11 hkr hrr hrow11
          obtain ⟨e0, e1, e2, _⟩ := three he12
          go_wp2_with fail
          generalize hN : (s6.edit s6.point s6.point m).ins.length = ni at *
          clear hN
          go_loopw [99] (fun i wr => ∃ k : Nat, k ≤ ni ∧ i = .int .i64 k ∧ Keeps (fp (.slice Ai ni ci)) w12 wr ∧ Some_row wr (.slice Ai ni ci) ni) (fun i _ => ni - (intOf i).toNat)
          case atStart => exact ⟨0, Nat.zero_le _, rfl, Keeps.refl _ _, hi12⟩
          case round =>
            obtain ⟨k, hk, rfl, hkr, hrr⟩ := hrel
            clear e0 e1 e2
            obtain ⟨e0, e1, e2, _⟩ := three (hkr.blk he12 (fun hm => by have := hi9l _ hm; omega))
            by_cases hlt : k < ni
            · obtain ⟨g, off, rfl, hg, ⟨u, hcell⟩, hfz, hset⟩ := hrr.at_ hlt
              go_wp2
              go_roundw
              case rel => exact ⟨k + 1, by omega, by go_num, hkr.setCell _ _ (.inl hg), hset _⟩
              case measure => simp [intOf]; omega
            · obtain ⟨w13, rfl⟩ : ∃ w13, w13 = wr := ⟨_, rfl⟩
              obtain rfl : k = ni := by omega
              clear hlt hk e0 e1 e2
              have hb13 := hb12.keeps hkr (fun i hi hm => by exact (hfi9 i hm).2.1 hi)
              have hr13 := hr12.keeps hkr (fun i hi hm => by have := hG11w i hi; have := hfi9 i hm; have := hi9l i hm; omega)
              have hkw13 := hkw12.then hkr (fun i hi => .inr (by have := hfi9 i hi; omega))
              have z13 := hkr.size
              have hl13 := hb13.lt
              have hl13r := hr13.lt
              have hsh := hb13.bounds.1
              clear hb12 hr12 he12 hi12 hkw12 hkr hrr
              go_wp2_with fail
              refine (BText_calls w13 b F9 _ hb13).mono ?_
              rintro e w14 ⟨T, tc, rfl, hrT, hk14, hfT⟩
              have hb14 := hb13.keeps hk14 (by simp)
              have hr14 := hr13.keeps hk14 (by simp)
              have hTl := hrT.fp_lt
              go_wp2_with fail
              refine (BLine_calls w14 b F9 _ hb14).mono ?_
              rintro e w15 ⟨U, uc, rfl, hrU, hk15, hfU⟩
              generalize hN2 : (s6.after s6.point s6.point m) = s9 at *
              clear hN2
              have hka := (Keeps.refl [] w15).alloc (.cells #[.slice U s9.l.length uc, .int .i64 s9.point, .int .i64 s9.mark] 46)
              have he16 := blk_new w15 (.cells #[.slice U s9.l.length uc, .int .i64 s9.point, .int .i64 s9.mark] 46)
              have hk16 := hk15.trans hka
              have hb16 := hb14.keeps hk16 (by simp)
              have hr16 := hr14.keeps hk16 (by simp)
              have hUl := hrU.fp_lt
              have hT16 : Some_row _ (.slice T s9.l.length tc) s9.l.length := ⟨_, hrT.keeps hk16 (by simp)⟩
              have hU16 : Some_row _ (.slice U s9.l.length uc) s9.l.length := ⟨_, hrU.keeps hka (by simp)⟩
              have hkw16 := hkw13.trans (hk14.trans hk16)
              have z14 := hk14.size
              have z15 := hk15.size
              have z16 := hka.size
              go_wp2_with fail
              generalize w15.alloc (.cells #[.slice U s9.l.length uc, .int .i64 s9.point, .int .i64 s9.mark] 46) = w16 at *
              clear hb13 hr13 hkw13 hrT hk14 hb14 hr14 hrU hk15 hka hk16
              go_loopw [113] (fun i wr => ∃ k : Nat, k ≤ s9.l.length ∧ i = .int .i64 k ∧ Keeps (fp (.slice T s9.l.length tc)) w16 wr ∧ Some_row wr (.slice T s9.l.length tc) s9.l.length) (fun i _ => s9.l.length - (intOf i).toNat)
              case atStart => exact ⟨0, Nat.zero_le _, rfl, Keeps.refl _ _, hT16⟩
              case round =>
                obtain ⟨k, hk, rfl, hkr, hrr⟩ := hrel
                by_cases hlt : k < s9.l.length
                · obtain ⟨g, off, rfl, hg, ⟨u, hcell⟩, hfz, hset⟩ := hrr.at_ hlt
                  go_wp2
                  go_roundw
                  case rel => exact ⟨k + 1, by omega, by go_num, hkr.setCell _ _ (.inl hg), hset _⟩
                  case measure => simp [intOf]; omega
                · obtain ⟨w17, rfl⟩ : ∃ w17, w17 = wr := ⟨_, rfl⟩
                  have hk0 : k = s9.l.length := by omega
                  have Hk0 := Lib.hid hk0
                  clear hk0
                  have hb17 := hb16.keeps hkr (fun i hi hm => by have := hl13 i hi; have := hfT i hm; omega)
                  have hr17 := hr16.keeps hkr (fun i hi hm => by have := hl13r i hi; have := hfT i hm; omega)
                  have hU17 := hU16.keeps hkr (fun i hi hm => by have := hTl i hm; have := hfU i hi; omega)
                  have he17 := hkr.blk he16 (fun hm => by have := hTl _ hm; omega)
                  have hkw17 := hkw16.then hkr (fun i hi => .inr (by have := hfT i hi; omega))
                  have z17 := hkr.size
                  obtain ⟨e0, e1, e2, _⟩ := three he17
                  clear hb16 hr16 hU16 he16 hkw16 hkr hrr hT16
                  go_wp2_with fail
                  go_loopw [123] (fun i wr => ∃ k : Nat, k ≤ s9.l.length ∧ i = .int .i64 k ∧ Keeps (fp (.slice U s9.l.length uc)) w17 wr ∧ Some_row wr (.slice U s9.l.length uc) s9.l.length) (fun i _ => s9.l.length - (intOf i).toNat)
                  case atStart => exact ⟨0, Nat.zero_le _, rfl, Keeps.refl _ _, hU17⟩
                  case round =>
                    obtain ⟨k2, hk2, rfl, hkr, hrr⟩ := hrel
                    clear e0 e1 e2
                    obtain ⟨e0, e1, e2, _⟩ := three (hkr.blk he17 (fun hm => by have := hUl _ hm; omega))
                    by_cases hlt2 : k2 < s9.l.length
                    · obtain ⟨g, off, rfl, hg, ⟨u, hcell⟩, hfz, hset⟩ := hrr.at_ hlt2
                      go_wp2
                      go_roundw
                      case rel => exact ⟨k2 + 1, by omega, by go_num, hkr.setCell _ _ (.inl hg), hset _⟩
                      case measure => simp [intOf]; omega
                    · have hb18 := hb17.keeps hkr (fun i hi hm => by have := hl13 i hi; have := hfU i hm; omega)
                      have hr18 := hr17.keeps hkr (fun i hi hm => by have := hl13r i hi; have := hfU i hm; omega)
                      have hkw18 := hkw17.then hkr (fun i hi => .inr (by have := hfU i hi; omega))
                      go_wp2_with fail
                      refine (is_calls wr b r F9 G11 s9 hb18 hr18).mono ?_
                      rintro e w19 ⟨rfl, hk19⟩
                      go_wp2
                      go_ret
                      exact ⟨rfl, hkw18.trans hk19⟩
theorem own_all (w : World) (A B : Option Addr) (n c k d : Nat) (l m : List Int) (a : Int) (hl : Runes w A n c l) (hm : Runes w B k d m) (ha : I64 a) (wl : l.length * 4 ≤ reachBytes) (wm : m.length * 4 ≤ reachBytes) :
    Calls Tryd.prog 4 #[.slice A n c, .slice B k d, .int .i64 a] w (Yea w) := by
  obtain ⟨rfl, hs, _, _, _⟩ := hl
  obtain ⟨rfl, hs2, _, _, _⟩ := hm
  unfold reachBytes at wl wm
  by_cases hn : 1024 < l.length
  · exact own_long w A B c m.length d l a hs hn (by omega)
  · exact own_ok w A B c d l m a ha hs hs2 (by omega) (by omega)
end Go.Proofs.YtmnmdpgckefefaaDoor.Buf
