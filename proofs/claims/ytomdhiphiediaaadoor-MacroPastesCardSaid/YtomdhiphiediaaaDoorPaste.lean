/- macro.Paste: NewPaste, Put; bytes.HasSuffix. -/
import Derived.Test.YtomdhiphiediaaaDoorRunes
import Derived.Test.YtomdhiphiediaaaDoorBEq
import Derived.Deep.RegionHeld3
import Derived.Deep.RegionWith
import Derived.StillTailTactics
import Derived.Lib.SlBytesConst
import Derived.Deep.CutRange
namespace Go.Proofs.YtomdhiphiediaaaDoor.Dec
open Go Go.RowKit Go.Proofs.YtomdhiphiediaaaDoor.Rw

/-- A paste at block b. -/
structure PIn (w : World) (b : Nat) (bv : Value) (l : List UInt8) (done : Bool) : Prop where
  blk : w.heap[b]? = some (.cells #[bv, .bool done, .bool true] 51 (0, 0))
  row : Row w 5 1 bv l.length (bs l)
def PAt (w : World) (b : Nat) (F : List Nat) (l : List UInt8) (done : Bool) : Prop := ∃ bv, PIn w b bv l done ∧ F = b :: fp bv
theorem PIn.b_row {w : World} {b : Nat} {bv : Value} {l : List UInt8} {done : Bool} (h : PIn w b bv l done) : b ∉ fp bv := fun hk => by
  obtain ⟨cur, hc⟩ := h.row.fp_type b hk
  exact blk_ne h.blk hc (by decide) rfl
theorem PIn.keeps {w w' : World} {b : Nat} {bv : Value} {l : List UInt8} {done : Bool} (h : PIn w b bv l done) {G : List Nat} (k : Keeps G w w') (hb : b ∉ G) (hd : ∀ i, i ∈ fp bv → i ∉ G) : PIn w' b bv l done :=
  ⟨k.blk h.blk hb, h.row.keeps k hd⟩
theorem PAt.keeps {w w' : World} {b : Nat} {F G : List Nat} {l : List UInt8} {done : Bool} (h : PAt w b F l done) (k : Keeps G w w') (hd : ∀ i, i ∈ F → i ∉ G) : PAt w' b F l done := by
  obtain ⟨bv, h, rfl⟩ := h
  exact ⟨bv, h.keeps k (hd b (by simp)) (fun i hi => hd i (by simp [hi])), rfl⟩
theorem PAt.lt {w : World} {b : Nat} {F : List Nat} {l : List UInt8} {done : Bool} (h : PAt w b F l done) : ∀ k, k ∈ F → k < w.heap.size := by
  obtain ⟨bv, h, rfl⟩ := h
  intro k hk
  rcases List.mem_cons.1 hk with rfl | hk
  · exact blk_lt h.blk
  · exact h.row.fp_lt k hk
theorem PNew_calls (w : World) : Calls Tryd.prog 6 #[] w fun e w' => e = .returned (.pointer (some ⟨w.heap.size, 0, none⟩)) ∧ Keeps [] w w' ∧ PAt w' w.heap.size [w.heap.size] [] false := by
  have h1 := blk_new w (.cells #[.slice none 0 0, .bool false, .bool true] 51)
  go_enter Tryd.func6, Tryd.ntmps6
  go_wp2
  go_ret
  exact ⟨rfl, (Keeps.refl _ _).alloc _, .slice none 0 0, ⟨h1, Row.nil _ _ _ _⟩, rfl⟩

/-- The front of a row. -/
theorem Row.front {w : World} {e : TypeId} {sz n cap m : Nat} {A : Option Addr} {xs : List Value} (h : Row w e sz (.slice A n cap) n xs) (hm : m ≤ n) : Row w e sz (.slice A m cap) m (xs.take (m * sz)) := by
  obtain ⟨hl, h⟩ := h
  have hle : m * sz ≤ n * sz := Nat.mul_le_mul_right _ hm
  refine ⟨by rw [List.length_take]; omega, ?_⟩
  rcases h with ⟨A', hA, h0⟩ | ⟨g, off, cap', cur, hv, hc, h3, h4, hg, h5, h6⟩
  · injection hA with ha hb hc; subst hc; subst h0
    obtain rfl : m = 0 := by omega
    exact .inl ⟨A, rfl, rfl⟩
  · injection hv with hv1 hv2 hv3; subst hv1; subst hv3
    refine .inr ⟨g, off, cap, cur, rfl, hc, by omega, h4, hg, h5, ?_⟩
    rw [← h6, List.take_take, Nat.min_eq_left hle]
/-- Does l end with t? -/
def ends (l t : List UInt8) : Bool := decide (t.length ≤ l.length ∧ l.drop (l.length - t.length) = t)
set_option maxRecDepth 100000 in
set_option maxHeartbeats 1000000 in
theorem Suffix_calls (w : World) (A B : Option Addr) (c d : Nat) (l t : List UInt8) (hA : Src w A (bs l)) (hB : Src w B (bs t)) (hc : l.length ≤ c) (hm : c ≤ 9223372036854775807) (ht : 0 < t.length) :
    Calls Tryd.prog 28 #[.slice A l.length c, .slice B t.length d] w fun e w' => e = .returned (.bool (ends l t)) ∧ w' = w := by
  by_cases hlt : t.length ≤ l.length
  · have hcut := hA.cutA c (l.length - t.length) (by rw [bs_length]; exact hc)
    rw [show (bs l).drop (l.length - t.length) = bs (l.drop (l.length - t.length)) by simp [bs]] at hcut
    have hE := BytesEqual_calls w (cutA A c (l.length - t.length)) B (c - (l.length - t.length)) d (l.drop (l.length - t.length)) t hcut hB
    rw [List.length_drop] at hE
    have he : ends l t = decide (l.drop (l.length - t.length) = t) := by unfold ends; simp [hlt]
    rw [he]
    generalize decide (l.drop (l.length - t.length) = t) = v at *
    have hle : l.length - t.length ≤ l.length := by omega
    have hsub : (l.length : Int) - (t.length : Int) = ((l.length - t.length : Nat) : Int) := by omega
    unfold cutA at hE
    have hck : ¬ c = l.length - t.length := by omega
    rw [if_neg hck] at hE
    have HE := Lib.hid hE
    clear hE hcut he hA hB
    go_enter Tryd.func28, Tryd.ntmps28
    go_wp2_with (go_at_call 38; refine HE.out.mono ?_; rintro e w' ⟨rfl, rfl⟩)
    go_ret
    exact ⟨rfl, rfl⟩
  · have he : ends l t = false := by unfold ends; simp [hlt]
    rw [he]
    have hno : ¬ (t.length : Int) ≤ (l.length : Int) := by omega
    go_enter Tryd.func28, Tryd.ntmps28
    go_wp2_with fail
    go_ret
    exact ⟨rfl, rfl⟩
theorem src_newF (w : World) (cur : Array Value) (t : TypeId) (f : Nat × Nat) : Src (w.alloc (.cells cur t f)) (some ⟨w.heap.size, 0, none⟩) cur.toList := fun j u hj => by
  refine ⟨_, rfl, ?_⟩
  rw [add_at, blk_cell (blk_new w _), Nat.zero_add]
  simpa using hj
def tail : List UInt8 := [27, 91, 50, 48, 49, 126]
/-- What Put does to a paste's bytes: whether it has ended, the answer's number, the bytes then. -/
def putP (l : List UInt8) (x : UInt8) : Bool × Int × List UInt8 :=
  if ends (l ++ [x]) tail = true then (true, 0, (l ++ [x]).take (l.length + 1 - 6)) else if 16384 < l.length + 1 then (true, 3, (l ++ [x]).take 16384) else (false, 0, l ++ [x])
def PutD (w w' : World) (b : Nat) (F : List Nat) (e : Ending) (r : Bool × Int × List UInt8) : Prop :=
  e = .returned (.tuple #[.bool r.1, .int .i64 r.2.1]) ∧ Keeps F w w' ∧ ∃ F', PAt w' b F' r.2.2 r.1 ∧ ∀ k, k ∈ F' → k ∈ F ∨ w.heap.size ≤ k
theorem PPut_done (w : World) (b : Nat) (F : List Nat) (l : List UInt8) (x : Int) (h : PAt w b F l true) :
    Calls Tryd.prog 8 #[.pointer (some ⟨b, 0, none⟩), .int .u8 x] w fun e w' => e = .returned (.tuple #[.bool false, .int .i64 6]) ∧ w' = w := by
  obtain ⟨bv, h, rfl⟩ := h
  have c1 := blk_cell h.blk 1
  have c2 := blk_cell h.blk 2
  go_enter Tryd.func8, Tryd.ntmps8
  go_wp2_with fail
  go_ret2
  exact ⟨rfl, rfl⟩
set_option maxRecDepth 100000 in
set_option maxHeartbeats 2000000 in
theorem PPut_calls (w : World) (b : Nat) (F : List Nat) (l : List UInt8) (x : UInt8) (h : PAt w b F l false) (hl : l.length ≤ 16384) :
    Calls Tryd.prog 8 #[.pointer (some ⟨b, 0, none⟩), .int .u8 x.toNat] w fun e w' => PutD w w' b F e (putP l x) := by
  obtain ⟨bv, h, rfl⟩ := h
  obtain ⟨A, c, rfl, h1, h2⟩ := h.row.slice
  unfold maxLen at h2
  have c0 := blk_cell h.blk 0
  have c1 := blk_cell h.blk 1
  have c2 := blk_cell h.blk 2
  have hbm := h.b_row
  have hbs := blk_lt h.blk
  have f0 := blk_frozen h.blk 0
  have kc := fun (w : World) (C : Array Value) (n c : Nat) => Lib.run_convert_bytes_const (P := Tryd.prog) w 22 5 C n c Tryd.underlying22 Tryd.underlying5
  have hput : putP l x = if ends (l ++ [x]) tail = true then (true, 0, (l ++ [x]).take (l.length + 1 - 6)) else if 16384 < l.length + 1 then (true, 3, (l ++ [x]).take 16384) else (false, 0, l ++ [x]) := rfl
  have Hput := Lib.hid hput
  clear hput
  generalize putP l x = r at *
  go_enter Tryd.func8, Tryd.ntmps8
  go_upto_region 6 with (at_builtin; refine wpList_append_row rfl _ _ 22 rfl elB _ _ _ rfl (h.row.keeps ((Keeps.refl [] _).alloc _) (fun _ _ => by simp)) _ 1 1 (bs [x]) rfl rfl (Src.new _ _ _) (bs_one _) (by unfold maxLen; omega) (by omega) ?_; intro A1 cp1 w1 hrow1 hk1 hf1; have hb1 := hk1.blk (blk_alloc h.blk _) hbm; have d0 := blk_cell hb1 0; have g0 := blk_frozen hb1 0)
  have hD : PIn (w1.setCell ⟨b, 0, none⟩ (.slice A1 (l.length + 1) cp1)) b (.slice A1 (l.length + 1) cp1) (l ++ [x]) false := by
    refine ⟨blk_set hb1 0 _, ?_⟩
    rw [List.length_append]
    have := hrow1
    rw [← bs_append] at this
    refine this.far _ _ (fun hk => ?_)
    rcases hf1 b hk with h' | h'
    · exact hbm h'
    · simp at h'; omega
  have hK : Keeps (b :: fp (.slice A l.length c)) w (w1.setCell ⟨b, 0, none⟩ (.slice A1 (l.length + 1) cp1)) :=
    ((((Keeps.refl _ _).alloc _).trans hk1).mono (fun k hk => .inl (List.mem_cons_of_mem _ hk))).setCell _ _ (.inl (by simp))
  have hfp1 : ∀ k, k ∈ fp (.slice A1 (l.length + 1) cp1) → k ∈ fp (.slice A l.length c) ∨ w.heap.size ≤ k := fun k hk => by
    rcases hf1 k hk with h | h
    · exact .inl h
    · simp at h; exact .inr (by omega)
  have hz1 : w.heap.size ≤ w1.heap.size := by have := hk1.size; simp at this; omega
  have HX := Lib.hid hfp1
  clear hfp1 hf1 hk1 d0 g0 hb1 c0 c1 c2 f0 h
  generalize w1.setCell ⟨b, 0, none⟩ (.slice A1 (l.length + 1) cp1) = w2 at *
  clear hrow1
  have e0 := blk_cell hD.blk 0
  have e1 := blk_cell hD.blk 1
  have HD := Lib.hid hD
  have HK := Lib.hid hK
  obtain ⟨A2, c2', he, hA1, hA2, hsA, _⟩ := hD.row.src
  have h10 := hD.row.slice
  clear hD hK
  rw [List.length_append] at he
  cases he
  have hSuf := fun wx (k : Keeps [] w2 wx) (B : Option Addr) (d : Nat) (hB : Src wx B (bs tail)) => Suffix_calls wx A1 B cp1 d (l ++ [x]) tail (hsA.keeps k (fun _ _ _ => by simp)) hB hA1 (by unfold maxLen at hA2; omega) (by decide)
  rw [List.length_append] at hSuf
  have HSuf := Lib.hid hSuf
  clear hSuf hsA h10
  have hk3 := (Keeps.refl [] w2).alloc (.cells #[.int .u8 27, .int .u8 91, .int .u8 50, .int .u8 48, .int .u8 49, .int .u8 126] 5 (6, 7))
  have hD3 := HD.out.keeps hk3 (by simp) (by simp)
  have hK3 := HK.out.alloc (.cells #[.int .u8 27, .int .u8 91, .int .u8 50, .int .u8 48, .int .u8 49, .int .u8 126] 5 (6, 7))
  have hS3 := HSuf.out _ hk3 (some ⟨w2.heap.size, 0, none⟩) 6 (src_newF _ _ _ _)
  have d0 := blk_cell hD3.blk 0
  have d1 := blk_cell hD3.blk 1
  have g0 := blk_frozen hD3.blk 0
  have g1 := blk_frozen hD3.blk 1
  have HS3 := Lib.hid hS3
  have HD3 := Lib.hid hD3
  have HK3 := Lib.hid hK3
  clear hS3 hD3 hK3 hk3
  cases hE : ends (l ++ [x]) tail with
  | false =>
    rw [hE] at HS3 Hput
    clear hE
    by_cases hbig : 16384 < l.length + 1
    · have hb : (16384 : Int) < ((l.length + 1 : Nat) : Int) := by omega
      have hb2 : (16384 : Int) ≤ (cp1 : Int) := by rw [List.length_append] at hA1; simp at hA1; omega
      have hb3 : 16384 ≤ cp1 := by omega
      go_wp2_with (go_at_call 28; refine HS3.out.mono ?_; rintro e w' ⟨rfl, rfl⟩)
      go_ret2
      have hr := Hput.out
      rw [if_neg (by decide), if_pos hbig] at hr
      subst hr
      have hrow := HD3.out.row
      rw [List.length_append] at hrow
      have hfr := Row.front (m := 16384) hrow (by simp; omega)
      refine ⟨rfl, (HK3.out.setCell _ _ (.inl (by simp))).setCell _ _ (.inl (by simp)), _, ⟨.slice A1 16384 cp1, ⟨blk_set (blk_set HD3.out.blk 0 _) 1 _, ?_⟩, rfl⟩, fun k hk => ?_⟩
      · have hnb := HD3.out.b_row
        have hlt : ((l ++ [x]).take 16384).length = 16384 := by simp; omega
        rw [hlt]
        rw [show (bs (l ++ [x])).take (16384 * 1) = bs ((l ++ [x]).take 16384) by simp [bs]] at hfr
        have hnb2 : b ∉ fp (.slice A1 16384 cp1) := fun hm => hnb (by
          cases A1 <;> cases cp1 <;> simp [fp] at hm ⊢
          exact hm)
        exact (hfr.far _ _ hnb2).far _ _ hnb2
      · rcases List.mem_cons.1 hk with rfl | hk
        · exact .inl (by simp)
        · rcases HX.out k (by cases A1 <;> cases cp1 <;> simp [fp] at hk ⊢; exact hk) with h | h
          · exact .inl (List.mem_cons_of_mem _ h)
          · exact .inr h
    · have hb : ¬ (16384 : Int) < ((l.length + 1 : Nat) : Int) := by omega
      go_wp2_with (go_at_call 28; refine HS3.out.mono ?_; rintro e w' ⟨rfl, rfl⟩)
      go_ret2
      have hr := Hput.out
      rw [if_neg (by decide), if_neg hbig] at hr
      subst hr
      exact ⟨rfl, HK3.out, _, ⟨_, HD3.out, rfl⟩, fun k hk => by
        rcases List.mem_cons.1 hk with rfl | hk
        · exact .inl (by simp)
        · rcases HX.out k hk with h | h
          · exact .inl (List.mem_cons_of_mem _ h)
          · exact .inr h⟩
  | true =>
    have hE6 : 6 ≤ l.length + 1 := by unfold ends at hE; have := of_decide_eq_true hE; rw [List.length_append] at this; exact this.1
    have HE6 := Lib.hid hE6
    rw [hE] at HS3 Hput
    clear hE hE6
    go_upto_region 7 with (go_at_call 28; refine HS3.out.mono ?_; rintro e w' ⟨rfl, rfl⟩)
    have hA3 : l.length + 1 ≤ cp1 := by rw [List.length_append] at hA1; simpa using hA1
    have hlen6 : 6 ≤ l.length + 1 := HE6.out
    have hb1 : (0 : Int) ≤ ((l.length + 1 : Nat) : Int) - 6 := by omega
    have hb2 : ((l.length + 1 : Nat) : Int) - 6 ≤ (cp1 : Int) := by omega
    have hb4 : (((l.length + 1 : Nat) : Int) - 6).toNat = l.length + 1 - 6 := by omega
    generalize w2.alloc (.cells #[.int .u8 27, .int .u8 91, .int .u8 50, .int .u8 48, .int .u8 49, .int .u8 126] 5 (6, 7)) = w3 at *
    go_region
    go_wp2
    go_ret2
    have hr := Hput.out
    rw [if_pos trivial, show l.length + 1 - 6 = l.length - 5 by omega] at hr
    subst hr
    have hrow := HD3.out.row
    rw [List.length_append] at hrow
    have hfr := Row.front (m := l.length - 5) hrow (by simp; omega)
    have hlt : ((l ++ [x]).take (l.length - 5)).length = l.length - 5 := by simp; omega
    rw [show (bs (l ++ [x])).take ((l.length - 5) * 1) = bs ((l ++ [x]).take (l.length - 5)) by simp [bs]] at hfr
    have hsub : ∀ k, k ∈ fp (.slice A1 (l.length - 5) cp1) → k ∈ fp (.slice A1 (l.length + 1) cp1) := fun k hk => by
      cases A1 <;> cases cp1 <;> simp [fp] at hk ⊢
      exact hk
    have hnb := HD3.out.b_row
    have hnb2 : b ∉ fp (.slice A1 (l.length - 5) cp1) := fun hm => hnb (hsub b hm)
    refine ⟨rfl, ?_, _, ⟨.slice A1 (l.length - 5) cp1, ⟨blk_set (w := (w3.setCell ⟨b, 0, none⟩ (.slice A1 (l.length - 5) cp1)).drew) (blk_set HD3.out.blk 0 _) 1 _, ?_⟩, rfl⟩, fun k hk => ?_⟩
    · exact (((HK3.out.setCell _ _ (.inl (by simp))).drew).setCell _ _ (.inl (by simp)))
    · rw [hlt]
      exact (((hfr.far _ _ hnb2).drew).far _ _ hnb2)
    · rcases List.mem_cons.1 hk with rfl | hk
      · exact .inl (by simp)
      · rcases HX.out k (hsub k hk) with h | h
        · exact .inl (List.mem_cons_of_mem _ h)
        · exact .inr h
end Go.Proofs.YtomdhiphiediaaaDoor.Dec
