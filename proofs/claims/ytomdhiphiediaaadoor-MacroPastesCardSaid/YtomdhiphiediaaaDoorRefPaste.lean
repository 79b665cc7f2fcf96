/- lanyardref22.Paste: Put. -/
import Derived.Test.YtomdhiphiediaaaDoorPaste
namespace Go.Proofs.YtomdhiphiediaaaDoor.Dec
open Go Go.RowKit Go.Proofs.YtomdhiphiediaaaDoor.Rw

/-- The document's paste at block b. -/
structure RIn (w : World) (b : Nat) (bv : Value) (l : List UInt8) (done : Bool) (cut : Nat) : Prop where
  blk : w.heap[b]? = some (.cells #[bv, .bool done, .int .i64 cut] 55 (0, 0))
  row : Row w 5 1 bv l.length (bs l)
def RAt (w : World) (b : Nat) (F : List Nat) (l : List UInt8) (done : Bool) (cut : Nat) : Prop := ∃ bv, RIn w b bv l done cut ∧ F = b :: fp bv
theorem RIn.b_row {w : World} {b : Nat} {bv : Value} {l : List UInt8} {done : Bool} {cut : Nat} (h : RIn w b bv l done cut) : b ∉ fp bv := fun hk => by
  obtain ⟨cur, hc⟩ := h.row.fp_type b hk
  exact blk_ne h.blk hc (by decide) rfl
theorem RIn.keeps {w w' : World} {b : Nat} {bv : Value} {l : List UInt8} {done : Bool} {cut : Nat} (h : RIn w b bv l done cut) {G : List Nat} (k : Keeps G w w') (hb : b ∉ G) (hd : ∀ i, i ∈ fp bv → i ∉ G) : RIn w' b bv l done cut :=
  ⟨k.blk h.blk hb, h.row.keeps k hd⟩
theorem RAt.keeps {w w' : World} {b : Nat} {F G : List Nat} {l : List UInt8} {done : Bool} {cut : Nat} (h : RAt w b F l done cut) (k : Keeps G w w') (hd : ∀ i, i ∈ F → i ∉ G) : RAt w' b F l done cut := by
  obtain ⟨bv, h, rfl⟩ := h
  exact ⟨bv, h.keeps k (hd b (by simp)) (fun i hi => hd i (by simp [hi])), rfl⟩
theorem RAt.lt {w : World} {b : Nat} {F : List Nat} {l : List UInt8} {done : Bool} {cut : Nat} (h : RAt w b F l done cut) : ∀ k, k ∈ F → k < w.heap.size := by
  obtain ⟨bv, h, rfl⟩ := h
  intro k hk
  rcases List.mem_cons.1 hk with rfl | hk
  · exact blk_lt h.blk
  · exact h.row.fp_lt k hk
theorem RPut_done (w : World) (b : Nat) (F : List Nat) (l : List UInt8) (cut : Nat) (x : Int) (h : RAt w b F l true cut) :
    Calls Tryd.prog 25 #[.pointer (some ⟨b, 0, none⟩), .int .u8 x] w fun e w' => e = .returned (.tuple #[.bool false, .int .i64 6]) ∧ w' = w := by
  obtain ⟨bv, h, rfl⟩ := h
  have c1 := blk_cell h.blk 1
  go_enter Tryd.func25, Tryd.ntmps25
  go_wp2_with fail
  go_ret2
  exact ⟨rfl, rfl⟩
/-- What the document's Put leaves. -/
def RPutD (w w' : World) (b : Nat) (F : List Nat) (e : Ending) (l : List UInt8) (r : Bool × Int × List UInt8) : Prop :=
  e = .returned (.tuple #[.bool r.1, .int .i64 r.2.1]) ∧ Keeps F w w' ∧ ∃ F' cut, RAt w' b F' l r.1 cut ∧ cut ≤ l.length ∧ l.take cut = r.2.2 ∧ (r.1 = false → cut = l.length) ∧ ∀ k, k ∈ F' → k ∈ F ∨ w.heap.size ≤ k
set_option maxRecDepth 100000 in
set_option maxHeartbeats 2000000 in
theorem RPut_calls (w : World) (b : Nat) (F : List Nat) (l : List UInt8) (cut : Nat) (x : UInt8) (h : RAt w b F l false cut) (hl : l.length ≤ 16384) :
    Calls Tryd.prog 25 #[.pointer (some ⟨b, 0, none⟩), .int .u8 x.toNat] w fun e w' => RPutD w w' b F e (l ++ [x]) (putP l x) := by
  obtain ⟨bv, h, rfl⟩ := h
  obtain ⟨A, c, rfl, h1, h2⟩ := h.row.slice
  unfold maxLen at h2
  have c0 := blk_cell h.blk 0
  have c1 := blk_cell h.blk 1
  have hbm := h.b_row
  have hbs := blk_lt h.blk
  have hput : putP l x = if ends (l ++ [x]) tail = true then (true, 0, (l ++ [x]).take (l.length + 1 - 6)) else if 16384 < l.length + 1 then (true, 3, (l ++ [x]).take 16384) else (false, 0, l ++ [x]) := rfl
  have Hput := Lib.hid hput
  clear hput
  generalize putP l x = r at *
  go_enter Tryd.func25, Tryd.ntmps25
  go_upto_region 5 with (at_builtin; refine wpList_append_row rfl _ _ 22 rfl elB _ _ _ rfl (h.row.keeps ((Keeps.refl [] _).alloc _) (fun _ _ => by simp)) _ 1 1 (bs [x]) rfl rfl (Src.new _ _ _) (bs_one _) (by unfold maxLen; omega) (by omega) ?_; intro A1 cp1 w1 hrow1 hk1 hf1; have hb1 := hk1.blk (blk_alloc h.blk _) hbm; have d0 := blk_cell hb1 0; have g0 := blk_frozen hb1 0; have d2 := blk_cell hb1 2; have g2 := blk_frozen hb1 2)
  have hD : RIn ((w1.setCell ⟨b, 0, none⟩ (.slice A1 (l.length + 1) cp1)).setCell ⟨b, 2, none⟩ (.int .i64 ((l.length : Int) + 1))) b (.slice A1 (l.length + 1) cp1) (l ++ [x]) false (l.length + 1) := by
    refine ⟨blk_set (blk_set hb1 0 _) 2 _, ?_⟩
    rw [List.length_append]
    have := hrow1
    rw [← bs_append] at this
    have hnb : b ∉ fp (.slice A1 (l.length + 1) cp1) := fun hk => by
      rcases hf1 b hk with h' | h'
      · exact hbm h'
      · simp at h'; omega
    exact (this.far _ _ hnb).far _ _ hnb
  have hK : Keeps (b :: fp (.slice A l.length c)) w ((w1.setCell ⟨b, 0, none⟩ (.slice A1 (l.length + 1) cp1)).setCell ⟨b, 2, none⟩ (.int .i64 ((l.length : Int) + 1))) :=
    (((((Keeps.refl _ _).alloc _).trans hk1).mono (fun k hk => .inl (List.mem_cons_of_mem _ hk))).setCell _ _ (.inl (by simp))).setCell _ _ (.inl (by simp))
  have hfp1 : ∀ k, k ∈ b :: fp (.slice A1 (l.length + 1) cp1) → k ∈ b :: fp (.slice A l.length c) ∨ w.heap.size ≤ k := fun k hk => by
    rcases List.mem_cons.1 hk with rfl | hk
    · exact .inl (by simp)
    · rcases hf1 k hk with h | h
      · exact .inl (List.mem_cons_of_mem _ h)
      · simp at h; exact .inr (by omega)
  have HX := Lib.hid hfp1
  clear hfp1 hf1 hk1 d0 g0 d2 g2 hb1 c0 c1 h hrow1
  generalize (w1.setCell ⟨b, 0, none⟩ (.slice A1 (l.length + 1) cp1)).setCell ⟨b, 2, none⟩ (.int .i64 ((l.length : Int) + 1)) = w2 at *
  obtain ⟨A2, c2', he, hA1, hA2, hsA, _⟩ := hD.row.src
  rw [List.length_append] at he
  cases he
  obtain ⟨a, rfl⟩ : ∃ a, A1 = some a := by
    cases A1 with
    | some a => exact ⟨a, rfl⟩
    | none =>
      obtain ⟨_, h, _⟩ := hsA 0 ((bs (l ++ [x]))[0]'(by rw [bs_length]; simp)) (List.getElem?_eq_getElem _)
      cases h
  have d0 := blk_cell hD.blk 0
  have d1 := blk_cell hD.blk 1
  have d2 := blk_cell hD.blk 2
  have g1 := blk_frozen hD.blk 1
  have g2 := blk_frozen hD.blk 2
  rw [List.length_append] at hA1
  have hcp : l.length + 1 ≤ cp1 := hA1
  unfold maxLen at hA2
  have HD := Lib.hid hD
  have HK := Lib.hid hK
  have hnb := hD.b_row
  have Hnb := Lib.hid hnb
  have HsA := Lib.hid hsA
  clear hD hK hA1 hsA hnb
  by_cases h6 : 6 ≤ l.length + 1
  · obtain ⟨n, hn⟩ : ∃ n, n = l.length + 1 - 6 := ⟨_, rfl⟩
    have hn1 : (l.length : Int) + 1 - 6 = (n : Int) := by omega
    have hn2 : (l.length : Int) - 5 = (n : Int) := by omega
    have hn3 : l.length + 1 - n = 6 := by omega
    have hn4 : n ≤ l.length + 1 := by omega
    have hn5 : ¬ cp1 = n := by omega
    have hcv := conv_src (P := Tryd.prog) w2 22 9 5 (some (a.add n)) (cp1 - n) ((l ++ [x]).drop n) Tryd.underlying22 Tryd.underlying5 Tryd.underlying9 (by have := HsA.out.drop n; rwa [show (bs (l ++ [x])).drop n = bs ((l ++ [x]).drop n) by simp [bs]] at this)
    rw [List.length_drop, List.length_append, show l.length + [x].length - n = 6 by simp; omega] at hcv
    have heq : ends (l ++ [x]) tail = ((⟨((l ++ [x]).drop n).toArray⟩ : ByteArray).toList == [27, 91, 50, 48, 49, 126]) := by
      rw [str_list, show ([27, 91, 50, 48, 49, 126] : List UInt8) = tail from rfl]
      unfold ends
      rw [Bool.eq_iff_iff]
      simp only [decide_eq_true_eq, beq_iff_eq, List.length_append, List.length_singleton]
      rw [show l.length + 1 - tail.length = n by show l.length + 1 - 6 = n; omega]
      exact ⟨fun h => h.2, fun h => ⟨h6, h⟩⟩
    generalize (⟨((l ++ [x]).drop n).toArray⟩ : ByteArray) = s at *
    have Hn := Lib.hid hn
    cases hE : ends (l ++ [x]) tail with
    | true =>
      rw [hE] at heq Hput
      have heq2 := heq.symm
      clear hE heq hn
      go_wp2_with fail
      go_ret2
      have hr := Hput.out
      rw [if_pos trivial, ← Hn.out] at hr
      subst hr
      refine ⟨rfl, (HK.out.setCell _ _ (.inl (by simp))).setCell _ _ (.inl (by simp)), _, n, ⟨_, ⟨blk_set (blk_set HD.out.blk 2 _) 1 _, (HD.out.row.far _ _ Hnb.out).far _ _ Hnb.out⟩, rfl⟩, ?_, rfl, (fun h => by cases h), HX.out⟩
      rw [List.length_append]; simp; omega
    | false =>
      rw [hE] at heq Hput
      have heq2 := heq.symm
      clear hE heq hn
      by_cases hbig : 16384 < l.length + 1
      · have hb : (16384 : Int) < (l.length : Int) + 1 := by omega
        go_wp2_with fail
        go_ret2
        have hr := Hput.out
        rw [if_neg (by decide), if_pos hbig] at hr
        subst hr
        refine ⟨rfl, (HK.out.setCell _ _ (.inl (by simp))).setCell _ _ (.inl (by simp)), _, 16384, ⟨_, ⟨blk_set (blk_set HD.out.blk 2 _) 1 _, (HD.out.row.far _ _ Hnb.out).far _ _ Hnb.out⟩, rfl⟩, ?_, rfl, (fun h => by cases h), HX.out⟩
        rw [List.length_append]; simp; omega
      · have hb : ¬ (16384 : Int) < (l.length : Int) + 1 := by omega
        go_wp2_with fail
        go_ret2
        have hr := Hput.out
        rw [if_neg (by decide), if_neg hbig] at hr
        subst hr
        exact ⟨rfl, HK.out, _, l.length + 1, ⟨_, HD.out, rfl⟩, by rw [List.length_append]; exact Nat.le_refl _, List.take_of_length_le (by rw [List.length_append]; exact Nat.le_refl _), fun _ => by rw [List.length_append]; rfl, HX.out⟩
  · have hneg : ¬ (0 : Int) ≤ (l.length : Int) + 1 - 6 := by omega
    have hneg2 : ¬ (5 : Int) ≤ (l.length : Int) := by omega
    have hE : ends (l ++ [x]) tail = false := by
      unfold ends
      refine decide_eq_false fun h => ?_
      have h2 := h.1
      rw [List.length_append] at h2
      exact h6 h2
    rw [hE] at Hput
    have hbig : ¬ 16384 < l.length + 1 := by omega
    have hb : ¬ (16384 : Int) < (l.length : Int) + 1 := by omega
    clear hE
    go_wp2_with fail
    go_ret2
    have hr := Hput.out
    rw [if_neg (by decide), if_neg hbig] at hr
    subst hr
    exact ⟨rfl, HK.out, _, l.length + 1, ⟨_, HD.out, rfl⟩, by rw [List.length_append]; exact Nat.le_refl _, List.take_of_length_le (by rw [List.length_append]; exact Nat.le_refl _), fun _ => by rw [List.length_append]; rfl, HX.out⟩
end Go.Proofs.YtomdhiphiediaaaDoor.Dec
