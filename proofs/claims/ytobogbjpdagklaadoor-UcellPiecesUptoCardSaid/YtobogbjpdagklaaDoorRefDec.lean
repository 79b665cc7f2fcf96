/- lanyardref01.Decoder: Put, Flush. -/
import Derived.Test.YtobogbjpdagklaaDoorRefRunes
import Derived.Test.YtobogbjpdagklaaDoorDecC
import Derived.Test.YtobogbjpdagklaaDoorDecD
namespace Go.Proofs.YtobogbjpdagklaaDoor.Dec
open Go Go.RowKit Go.Proofs.YtobogbjpdagklaaDoor.Rw

/-- The document's decoder at block b that holds bytes. -/
structure EIn (w : World) (b : Nat) (bv : Value) (l : List UInt8) : Prop where
  blk : w.heap[b]? = some (.cells #[bv] 41 (0, 0))
  row : Row w 5 1 bv l.length (bs l)
def EAt (w : World) (b : Nat) (F : List Nat) (l : List UInt8) : Prop := ∃ bv, EIn w b bv l ∧ F = b :: fp bv
theorem EIn.b_row {w : World} {b : Nat} {bv : Value} {l : List UInt8} (h : EIn w b bv l) : b ∉ fp bv := fun hk => by
  obtain ⟨cur, hc⟩ := h.row.fp_type b hk
  exact blk_ne h.blk hc (by decide) rfl
theorem EIn.keeps {w w' : World} {b : Nat} {bv : Value} {l : List UInt8} (h : EIn w b bv l) {G : List Nat} (k : Keeps G w w') (hb : b ∉ G) (hd : ∀ i, i ∈ fp bv → i ∉ G) : EIn w' b bv l :=
  ⟨k.blk h.blk hb, h.row.keeps k hd⟩
theorem EAt.keeps {w w' : World} {b : Nat} {F G : List Nat} {l : List UInt8} (h : EAt w b F l) (k : Keeps G w w') (hd : ∀ i, i ∈ F → i ∉ G) : EAt w' b F l := by
  obtain ⟨bv, h, rfl⟩ := h
  exact ⟨bv, h.keeps k (hd b (by simp)) (fun i hi => hd i (by simp [hi])), rfl⟩
theorem EAt.lt {w : World} {b : Nat} {F : List Nat} {l : List UInt8} (h : EAt w b F l) : ∀ k, k ∈ F → k < w.heap.size := by
  obtain ⟨bv, h, rfl⟩ := h
  intro k hk
  rcases List.mem_cons.1 hk with rfl | hk
  · exact blk_lt h.blk
  · exact h.row.fp_lt k hk
def EFlushD (w w' : World) (b : Nat) (F : List Nat) (e : Ending) (xs : List Int) : Prop :=
  ∃ A c, e = .returned (.slice A xs.length c) ∧ Row w' 21 1 (.slice A xs.length c) xs.length (ns .i32 xs) ∧ Keeps F w w' ∧ EAt w' b [b] [] ∧ ∀ k, k ∈ fp (.slice A xs.length c) → w.heap.size ≤ k
set_option maxRecDepth 100000 in
theorem EFlush_calls (w : World) (b : Nat) (F : List Nat) (l : List UInt8) (h : EAt w b F l) (hb : l.length * 4 ≤ 140737488355328) :
    Calls Tryd.prog 26 #[.pointer (some ⟨b, 0, none⟩)] w fun e w' => EFlushD w w' b F e (runesOf l) := by
  have hbs : b < w.heap.size := by obtain ⟨bv, h, rfl⟩ := h; exact blk_lt h.blk
  obtain ⟨bv, h, rfl⟩ := h
  obtain ⟨A, c, rfl, h1, h2, hs, _⟩ := h.row.src
  have c0 := blk_cell h.blk 0
  have hblk := h.blk
  unfold maxLen at h2
  have Hs := Lib.hid hs; clear hs h
  go_enter Tryd.func26, Tryd.ntmps26
  go_wp2_with fail
  refine (RfRunes_calls w A c l Hs.out h1 h2 hb).mono ?_
  rintro e w1 ⟨A1, cc, rfl, hrow, hk1, hf1⟩
  have hb1 := hk1.blk hblk (by simp)
  have f1 := blk_frozen hb1 0
  have d1 := blk_cell hb1 0
  go_wp2
  go_ret
  refine ⟨A1, cc, rfl, hrow.far _ _ (fun hm => by have := hf1 b hm; omega), (hk1.mono (fun k hk => by simp at hk)).setCell _ _ (.inl (List.mem_cons_self)), ⟨.slice none 0 0, ⟨blk_set hb1 0 _, Row.nil _ _ _ _⟩, rfl⟩, hf1⟩
def EPutD (w w' : World) (b : Nat) (F : List Nat) (e : Ending) (r : List Int × List UInt8) : Prop :=
  ∃ A c F', e = .returned (.slice A r.1.length c) ∧ Row w' 21 1 (.slice A r.1.length c) r.1.length (ns .i32 r.1) ∧ Keeps F w w' ∧ EAt w' b F' r.2 ∧ (∀ k, k ∈ F' → k ∈ F ∨ w.heap.size ≤ k) ∧ ∀ k, k ∈ fp (.slice A r.1.length c) → w.heap.size ≤ k
def eCellLen (w : World) (b : Nat) : Nat := match w.cell? ⟨b, 0, none⟩ with
  | some v => slen v
  | none => 0
theorem EIn.cellLen {w : World} {b : Nat} {bv : Value} {l : List UInt8} (h : EIn w b bv l) : eCellLen w b = l.length := by
  obtain ⟨A, c, rfl, _, _⟩ := h.row.slice
  have := blk_cell h.blk 0
  unfold eCellLen
  rw [this]
  rfl
def EDrains (w : World) (b : Nat) (F : List Nat) (all : List UInt8) (v : Value) (wr : World) : Prop :=
  ∃ bv acc rest, EIn wr b bv rest ∧ Row wr 21 1 v acc.length (ns .i32 acc) ∧ Keeps F w wr ∧ (∀ k, k ∈ fp bv → k ∈ F ∨ w.heap.size ≤ k) ∧ (∀ k, k ∈ fp v → w.heap.size ≤ k) ∧
    acc ++ (drain rest).1 = (drain all).1 ∧ (drain rest).2 = (drain all).2 ∧ acc.length + rest.length ≤ all.length
set_option maxRecDepth 100000 in
set_option maxHeartbeats 4000000 in
theorem EPut_calls (w : World) (b : Nat) (F : List Nat) (l x : List UInt8) (A : Option Addr) (c : Nat) (h : EAt w b F l) (hs : Src w A (bs x)) (hb : (l.length + x.length) * 4 ≤ 140737488355328) :
    Calls Tryd.prog 23 #[.pointer (some ⟨b, 0, none⟩), .slice A x.length c] w fun e w' => EPutD w w' b F e (drain (l ++ x)) := by
  have hbF : b ∈ F := by obtain ⟨bv, _, rfl⟩ := h; simp
  have hbs : b < w.heap.size := h.lt b hbF
  obtain ⟨bv, h, rfl⟩ := h
  obtain ⟨A0, cap0, rfl, h1, h2⟩ := h.row.slice
  have Hs := Lib.hid hs; clear hs
  have Hb := Lib.hid hb
  have Hlt := Lib.hid h.row.fp_lt
  have c0 := blk_cell h.blk 0
  have hbm := h.b_row
  go_enter Tryd.func23, Tryd.ntmps23
  go_wp2_with (at_builtin; refine wpList_append_row rfl _ _ 39 rfl elB _ _ _ rfl h.row _ x.length _ (bs x) rfl (by rw [bs_length, Nat.mul_one]) Hs.out (bs_one x) (by unfold maxLen; omega) (by omega) ?_; intro A1 c1' w1 hrow1 hk1 hf1; have hb1 := hk1.blk h.blk hbm; have d1 := blk_cell hb1 0; have f1 := blk_frozen hb1 0)
  have hD : EIn (w1.setCell ⟨b, 0, none⟩ (.slice A1 (l.length + x.length) c1')) b (.slice A1 (l.length + x.length) c1') (l ++ x) := by
    refine ⟨blk_set hb1 0 _, ?_⟩
    rw [bs_append, List.length_append]
    refine hrow1.far _ _ (fun hk => ?_)
    rcases hf1 b hk with h' | h'
    · exact hbm h'
    · omega
  have hK : Keeps (b :: fp (.slice A0 l.length cap0)) w (w1.setCell ⟨b, 0, none⟩ (.slice A1 (l.length + x.length) c1')) :=
    (hk1.mono (fun k hk => .inl (List.mem_cons_of_mem _ hk))).setCell _ _ (.inl (by simp))
  have hS : EDrains w b (b :: fp (.slice A0 l.length cap0)) (l ++ x) (.slice none 0 0) (w1.setCell ⟨b, 0, none⟩ (.slice A1 (l.length + x.length) c1')) :=
    ⟨_, [], l ++ x, hD, Row.nil _ _ _ _, hK, fun k hk => by
      rcases hf1 k hk with h' | h'
      · exact .inl (List.mem_cons_of_mem _ h')
      · exact .inr h', fun k hk => by simp [fp] at hk, rfl, rfl, by simp⟩
  generalize w1.setCell ⟨b, 0, none⟩ (.slice A1 (l.length + x.length) c1') = w2 at *
  clear hD hK hrow1 hk1 hf1 hb1 d1 f1 c0 h
  go_loopw [5] (fun v wr => EDrains w b (b :: fp (.slice A0 l.length cap0)) (l ++ x) v wr) (fun _ wr => eCellLen wr b)
  case atStart => exact hS
  case round =>
    obtain ⟨bv, acc, rest, hD, hrow, hk, hfb, hfv, he1, he2, hle⟩ := hrel
    clear hS
    obtain ⟨A', c', rfl, hc', hm'⟩ := hD.row.slice
    obtain ⟨Av, cv, rfl, _, _⟩ := hrow.slice
    have c0 := blk_cell hD.blk 0
    have hcl := hD.cellLen
    have He := Lib.hid (And.intro he1 he2); clear he1 he2
    have Hfb := Lib.hid hfb; clear hfb
    have Hfv := Lib.hid hfv; clear hfv
    have HD := Lib.hid hD
    rw [List.length_append] at hle
    obtain ⟨w0, rfl⟩ : ∃ w0, w0 = wr := ⟨_, rfl⟩
    by_cases hz : rest.length = 0
    · have hr : rest = [] := List.eq_nil_of_length_eq_zero hz
      have hn : ¬ ((0 : Int) < (rest.length : Int)) := by omega
      clear hD
      go_wp2_with fail
      go_ret
      obtain ⟨e1, e2⟩ := He.out
      rw [hr, drain_not [] rfl, List.append_nil] at e1
      rw [hr, drain_not [] rfl] at e2
      simp only at e1 e2
      rw [e1] at hrow
      refine ⟨Av, cv, _, by rw [← e1]; rfl, hrow, hk, ⟨_, by rw [← e2, ← hr]; exact HD.out, rfl⟩, ?_, ?_⟩
      · intro k hk'
        rcases List.mem_cons.1 hk' with rfl | hk'
        · exact .inl (by simp)
        · exact Hfb.out k hk'
      · rw [← e1]; exact Hfv.out
    · have hne : rest ≠ [] := fun e => hz (by rw [e]; rfl)
      have hn : (0 : Int) < (rest.length : Int) := by omega
      obtain ⟨As, cs, hse, _, _, hsr, hAs⟩ := hD.row.src
      cases hse
      unfold maxLen at hm'
      have hHL := head_law rest hne
      have hH := Head_calls w0 A' c' rest hsr hc' hm'
      generalize headN rest = H at *
      obtain ⟨hv, n⟩ := H
      obtain ⟨l1, l2, l3⟩ := hHL
      simp only at l1 l2 l3 hH
      have Hsr := Lib.hid hsr; clear hsr hAs
      have HH := Lib.hid hH; clear hH
      clear hz
      have hb9 := Hb.out
      have hbv : b ∉ fp (.slice Av acc.length cv) := fun hm => by have := Hfv.out b hm; omega
      have hdj : ∀ i, i ∈ fp (.slice A' rest.length c') → i ∉ fp (.slice Av acc.length cv) := fun i hi hm => by
        obtain ⟨cur, hc1⟩ := HD.out.row.fp_type i hi
        obtain ⟨cur2, hc2⟩ := hrow.fp_type i hm
        exact blk_ne hc1 hc2 (by decide) rfl
      by_cases hw : 0 < n ∧ hv = n
      · obtain ⟨hn0, rfl⟩ := hw
        obtain ⟨hd, hd2, hn4⟩ := l1 hn0 rfl
        have hfull : full rest = true := Bool.of_not_eq_false (fun h => (l3.1 h).2.2 rfl)
        have hen := drain_full rest hfull
        rw [hd] at hen
        simp only at hen
        clear l1 l2 l3 hfull hd
        have Hen := Lib.hid hen; clear hen
        have hV := fun w1 (k : Keeps [] w0 w1) => Value_calls w1 A' hv c' rest (Hsr.out.keeps k (fun _ _ _ => by simp)) hn0 hn4 hd2
        generalize hvv : valueN hv (byteN rest 0) (byteN rest 1) (byteN rest 2) (byteN rest 3) = vv at *
        clear hvv
        have HV := Lib.hid hV; clear hV
        have hn0' : (0 : Int) < (hv : Int) := by omega
        have hrr : ((hv : Int) == hv) = true := by simp
        clear hD
        go_wp2_with (first
          | (go_at_call 50; refine HH.out.mono ?_; rintro e w1 ⟨rfl, hk1⟩; have hD1 := HD.out.keeps hk1 (by simp) (by simp); have e1 := blk_cell hD1.blk 0)
          | (go_at_call 51; refine (HV.out _ hk1).mono ?_; rintro e w3 ⟨rfl, hk3⟩; have hkm := hk1.trans hk3; have hrow3 := (hrow.keeps hkm (fun _ _ => by simp)); have hD3 := HD.out.keeps hkm (by simp) (by simp))
          | (at_builtin; refine wpList_append_row rfl _ _ 22 rfl elR _ _ _ rfl (hrow3.keeps ((Keeps.refl [] _).alloc _) (fun _ _ => by simp)) _ 1 1 [.int .i32 (vv : Nat)] rfl rfl (Src.new _ _ _) (by intro u hu; simp at hu; subst hu; rfl) (by unfold maxLen; omega) (by omega) ?_; intro A5 c5 w5 hrow5 hk5 hf5; have hD5 := (hD3.keeps ((Keeps.refl [] _).alloc _) (by simp) (by simp)).keeps hk5 hbv hdj; have e5 := blk_cell hD5.blk 0; have f5 := blk_frozen hD5.blk 0)
          | (refine wpList_slice_l rfl _ _ 39 rfl elB A' rest.length c' hv rfl rfl hd2 ?_))
        have hz1 := hk.size
        have hz2 := hkm.size
        have hn5 : Keeps (b :: fp (.slice A0 l.length cap0)) w w5 := ((hk.then hkm (fun i hi => by simp at hi)).alloc (.cells #[.int .i32 (vv : Nat)] 21)).then hk5 (fun i hi => .inr (Hfv.out i hi))
        have hfin : ∀ k, k ∈ fp (.slice A5 (acc.length + 1) c5) → w.heap.size ≤ k := fun k hk' => by
          rcases hf5 k hk' with h | h
          · exact Hfv.out k h
          · simp at h; omega
        have hcutf := fp_cutA A' c' hv (rest.length - hv) rest.length
        have hb5 : b ∉ fp (.slice A5 (acc.length + 1) c5) := fun hm => by have := hfin b hm; omega
        have hDn : EIn (w5.setCell ⟨b, 0, none⟩ (.slice (cutA A' c' hv) (rest.length - hv) (c' - hv))) b (.slice (cutA A' c' hv) (rest.length - hv) (c' - hv)) (rest.drop hv) := by
          refine ⟨blk_set hD5.blk 0 _, ?_⟩
          have h5 := hD5.row.cutA hv rest.length hd2 (Nat.le_refl _)
          rw [show ((bs rest).drop hv).take (rest.length - hv) = bs (rest.drop hv) by rw [List.take_of_length_le (by simp [bs_length])]; simp [bs]] at h5
          rw [List.length_drop]
          exact h5.far _ _ (fun hm => hD5.b_row (hcutf b hm))
        have hcl2 := hDn.cellLen
        rw [List.length_drop] at hcl2
        go_roundw
        case rel =>
          refine ⟨_, acc ++ [((vv : Nat) : Int)], rest.drop hv, hDn, ?_, hn5.setCell _ _ (.inl (by simp)), ?_, hfin, ?_, ?_, ?_⟩
          · rw [ns_append, List.length_append]; exact hrow5.far _ _ hb5
          · intro k hk'; exact Hfb.out k (hcutf k hk')
          · have h1 := He.out.1
            rw [Hen.out] at h1
            rw [← h1, List.append_assoc]
            rfl
          · have h1 := He.out.2
            rw [Hen.out] at h1
            exact h1
          · rw [List.length_append, List.length_append, List.length_drop]; simp; omega
        case measure =>
          rw [hcl2, hcl]
          omega
      · by_cases hp : 0 < hv ∧ hv = rest.length
        · obtain ⟨hp0, hpl⟩ := hp
          have hne2 : hv ≠ n := fun h => hw ⟨by omega, h⟩
          have hf : full rest = false := l3.2 ⟨hp0, hpl, hne2⟩
          have Hf := Lib.hid hf
          have t1 : ((hv : Int) == n) = false := beq_false_of_ne (by omega)
          have t2 : ((hv : Int) == rest.length) = true := by rw [hpl]; simp
          have t3 : (0 : Int) < hv := by omega
          clear l1 l2 l3 hw hf hpl hne2
          clear hD
          by_cases hn0 : 0 < n
          · have t4 : (0 : Int) < n := by omega
            go_wp2_with (go_at_call 50; refine HH.out.mono ?_; rintro e w1 ⟨rfl, hk1⟩; have hD1 := HD.out.keeps hk1 (by simp) (by simp); have e1 := blk_cell hD1.blk 0)
            go_ret
            obtain ⟨e1, e2⟩ := He.out
            rw [drain_not _ Hf.out, List.append_nil] at e1
            rw [drain_not _ Hf.out] at e2
            simp only at e1 e2
            have hrow1 := hrow.keeps hk1 (fun _ _ => by simp)
            rw [e1] at hrow1
            refine ⟨Av, cv, _, by rw [← e1]; rfl, hrow1, hk.then hk1 (fun i hi => by simp at hi), ⟨_, by rw [← e2]; exact hD1, rfl⟩, ?_, ?_⟩
            · intro k hk'
              rcases List.mem_cons.1 hk' with rfl | hk'
              · exact .inl (by simp)
              · exact Hfb.out k hk'
            · rw [← e1]; exact Hfv.out
          · have t4 : ¬ (0 : Int) < n := by omega
            go_wp2_with (go_at_call 50; refine HH.out.mono ?_; rintro e w1 ⟨rfl, hk1⟩; have hD1 := HD.out.keeps hk1 (by simp) (by simp); have e1 := blk_cell hD1.blk 0)
            go_ret
            obtain ⟨e1, e2⟩ := He.out
            rw [drain_not _ Hf.out, List.append_nil] at e1
            rw [drain_not _ Hf.out] at e2
            simp only at e1 e2
            have hrow1 := hrow.keeps hk1 (fun _ _ => by simp)
            rw [e1] at hrow1
            refine ⟨Av, cv, _, by rw [← e1]; rfl, hrow1, hk.then hk1 (fun i hi => by simp at hi), ⟨_, by rw [← e2]; exact hD1, rfl⟩, ?_, ?_⟩
            · intro k hk'
              rcases List.mem_cons.1 hk' with rfl | hk'
              · exact .inl (by simp)
              · exact Hfb.out k hk'
            · rw [← e1]; exact Hfv.out
        · have hd := l2 hw
          have hfull : full rest = true := Bool.of_not_eq_false (fun h => hp ⟨(l3.1 h).1, (l3.1 h).2.1⟩)
          have hen := drain_full rest hfull
          rw [hd] at hen
          simp only at hen
          have Hen := Lib.hid hen; clear hen
          have hd2 : 1 ≤ rest.length := by omega
          clear l1 l2 l3 hfull hd
          clear hD
          by_cases hn0 : 0 < n
          · have t4 : (0 : Int) < n := by omega
            have t1 : ((hv : Int) == n) = false := beq_false_of_ne (by omega)
            by_cases hv0 : 0 < hv
            · have t3 : (0 : Int) < hv := by omega
              have t2 : ((hv : Int) == rest.length) = false := beq_false_of_ne (by omega)
              clear hw hp
              go_wp2_with (first
                | (go_at_call 50; refine HH.out.mono ?_; rintro e w1 ⟨rfl, hkm⟩; have hD3 := HD.out.keeps hkm (by simp) (by simp); have e1 := blk_cell hD3.blk 0; have hrow3 := (hrow.keeps hkm (fun _ _ => by simp)))
                | (at_builtin; refine wpList_append_row rfl _ _ 22 rfl elR _ _ _ rfl (hrow3.keeps ((Keeps.refl [] _).alloc _) (fun _ _ => by simp)) _ 1 1 [.int .i32 65533] rfl rfl (Src.new _ _ _) (by intro u hu; simp at hu; subst hu; rfl) (by unfold maxLen; omega) (by omega) ?_; intro A5 c5 w5 hrow5 hk5 hf5; have hD5 := (hD3.keeps ((Keeps.refl [] _).alloc _) (by simp) (by simp)).keeps hk5 hbv hdj; have e5 := blk_cell hD5.blk 0; have f5 := blk_frozen hD5.blk 0)
                | (refine wpList_slice_l rfl _ _ 39 rfl elB A' rest.length c' 1 rfl rfl hd2 ?_))
              have hz1 := hk.size
              have hz2 := hkm.size
              have hn5 : Keeps (b :: fp (.slice A0 l.length cap0)) w w5 := ((hk.then hkm (fun i hi => by simp at hi)).alloc (.cells #[.int .i32 65533] 21)).then hk5 (fun i hi => .inr (Hfv.out i hi))
              have hfin : ∀ k, k ∈ fp (.slice A5 (acc.length + 1) c5) → w.heap.size ≤ k := fun k hk' => by
                rcases hf5 k hk' with h | h
                · exact Hfv.out k h
                · simp at h; omega
              have hcutf := fp_cutA A' c' 1 (rest.length - 1) rest.length
              have hb5 : b ∉ fp (.slice A5 (acc.length + 1) c5) := fun hm => by have := hfin b hm; omega
              have hDn : EIn (w5.setCell ⟨b, 0, none⟩ (.slice (cutA A' c' 1) (rest.length - 1) (c' - 1))) b (.slice (cutA A' c' 1) (rest.length - 1) (c' - 1)) (rest.drop 1) := by
                refine ⟨blk_set hD5.blk 0 _, ?_⟩
                have h5 := hD5.row.cutA 1 rest.length hd2 (Nat.le_refl _)
                rw [show ((bs rest).drop 1).take (rest.length - 1) = bs (rest.drop 1) by rw [List.take_of_length_le (by simp [bs_length])]; simp [bs]] at h5
                rw [List.length_drop]
                exact h5.far _ _ (fun hm => hD5.b_row (hcutf b hm))
              have hcl2 := hDn.cellLen
              rw [List.length_drop] at hcl2
              go_roundw
              case rel =>
                refine ⟨_, acc ++ [(65533 : Int)], rest.drop 1, hDn, ?_, hn5.setCell _ _ (.inl (by simp)), ?_, hfin, ?_, ?_, ?_⟩
                · rw [ns_append, List.length_append]; exact hrow5.far _ _ hb5
                · intro k hk'; exact Hfb.out k (hcutf k hk')
                · have h1 := He.out.1
                  rw [Hen.out] at h1
                  rw [← h1, List.append_assoc]
                  rfl
                · have h1 := He.out.2
                  rw [Hen.out] at h1
                  exact h1
                · rw [List.length_append, List.length_append, List.length_drop]; simp; omega
              case measure =>
                rw [hcl2, hcl]
                omega
            · have t3 : ¬ (0 : Int) < hv := by omega
              clear hw hp
              go_wp2_with (first
                | (go_at_call 50; refine HH.out.mono ?_; rintro e w1 ⟨rfl, hkm⟩; have hD3 := HD.out.keeps hkm (by simp) (by simp); have e1 := blk_cell hD3.blk 0; have hrow3 := (hrow.keeps hkm (fun _ _ => by simp)))
                | (at_builtin; refine wpList_append_row rfl _ _ 22 rfl elR _ _ _ rfl (hrow3.keeps ((Keeps.refl [] _).alloc _) (fun _ _ => by simp)) _ 1 1 [.int .i32 65533] rfl rfl (Src.new _ _ _) (by intro u hu; simp at hu; subst hu; rfl) (by unfold maxLen; omega) (by omega) ?_; intro A5 c5 w5 hrow5 hk5 hf5; have hD5 := (hD3.keeps ((Keeps.refl [] _).alloc _) (by simp) (by simp)).keeps hk5 hbv hdj; have e5 := blk_cell hD5.blk 0; have f5 := blk_frozen hD5.blk 0)
                | (refine wpList_slice_l rfl _ _ 39 rfl elB A' rest.length c' 1 rfl rfl hd2 ?_))
              have hz1 := hk.size
              have hz2 := hkm.size
              have hn5 : Keeps (b :: fp (.slice A0 l.length cap0)) w w5 := ((hk.then hkm (fun i hi => by simp at hi)).alloc (.cells #[.int .i32 65533] 21)).then hk5 (fun i hi => .inr (Hfv.out i hi))
              have hfin : ∀ k, k ∈ fp (.slice A5 (acc.length + 1) c5) → w.heap.size ≤ k := fun k hk' => by
                rcases hf5 k hk' with h | h
                · exact Hfv.out k h
                · simp at h; omega
              have hcutf := fp_cutA A' c' 1 (rest.length - 1) rest.length
              have hb5 : b ∉ fp (.slice A5 (acc.length + 1) c5) := fun hm => by have := hfin b hm; omega
              have hDn : EIn (w5.setCell ⟨b, 0, none⟩ (.slice (cutA A' c' 1) (rest.length - 1) (c' - 1))) b (.slice (cutA A' c' 1) (rest.length - 1) (c' - 1)) (rest.drop 1) := by
                refine ⟨blk_set hD5.blk 0 _, ?_⟩
                have h5 := hD5.row.cutA 1 rest.length hd2 (Nat.le_refl _)
                rw [show ((bs rest).drop 1).take (rest.length - 1) = bs (rest.drop 1) by rw [List.take_of_length_le (by simp [bs_length])]; simp [bs]] at h5
                rw [List.length_drop]
                exact h5.far _ _ (fun hm => hD5.b_row (hcutf b hm))
              have hcl2 := hDn.cellLen
              rw [List.length_drop] at hcl2
              go_roundw
              case rel =>
                refine ⟨_, acc ++ [(65533 : Int)], rest.drop 1, hDn, ?_, hn5.setCell _ _ (.inl (by simp)), ?_, hfin, ?_, ?_, ?_⟩
                · rw [ns_append, List.length_append]; exact hrow5.far _ _ hb5
                · intro k hk'; exact Hfb.out k (hcutf k hk')
                · have h1 := He.out.1
                  rw [Hen.out] at h1
                  rw [← h1, List.append_assoc]
                  rfl
                · have h1 := He.out.2
                  rw [Hen.out] at h1
                  exact h1
                · rw [List.length_append, List.length_append, List.length_drop]; simp; omega
              case measure =>
                rw [hcl2, hcl]
                omega
          · have t4 : ¬ (0 : Int) < n := by omega
            by_cases hv0 : 0 < hv
            · have t3 : (0 : Int) < hv := by omega
              have t2 : ((hv : Int) == rest.length) = false := beq_false_of_ne (by omega)
              clear hw hp
              go_wp2_with (first
                | (go_at_call 50; refine HH.out.mono ?_; rintro e w1 ⟨rfl, hkm⟩; have hD3 := HD.out.keeps hkm (by simp) (by simp); have e1 := blk_cell hD3.blk 0; have hrow3 := (hrow.keeps hkm (fun _ _ => by simp)))
                | (at_builtin; refine wpList_append_row rfl _ _ 22 rfl elR _ _ _ rfl (hrow3.keeps ((Keeps.refl [] _).alloc _) (fun _ _ => by simp)) _ 1 1 [.int .i32 65533] rfl rfl (Src.new _ _ _) (by intro u hu; simp at hu; subst hu; rfl) (by unfold maxLen; omega) (by omega) ?_; intro A5 c5 w5 hrow5 hk5 hf5; have hD5 := (hD3.keeps ((Keeps.refl [] _).alloc _) (by simp) (by simp)).keeps hk5 hbv hdj; have e5 := blk_cell hD5.blk 0; have f5 := blk_frozen hD5.blk 0)
                | (refine wpList_slice_l rfl _ _ 39 rfl elB A' rest.length c' 1 rfl rfl hd2 ?_))
              have hz1 := hk.size
              have hz2 := hkm.size
              have hn5 : Keeps (b :: fp (.slice A0 l.length cap0)) w w5 := ((hk.then hkm (fun i hi => by simp at hi)).alloc (.cells #[.int .i32 65533] 21)).then hk5 (fun i hi => .inr (Hfv.out i hi))
              have hfin : ∀ k, k ∈ fp (.slice A5 (acc.length + 1) c5) → w.heap.size ≤ k := fun k hk' => by
                rcases hf5 k hk' with h | h
                · exact Hfv.out k h
                · simp at h; omega
              have hcutf := fp_cutA A' c' 1 (rest.length - 1) rest.length
              have hb5 : b ∉ fp (.slice A5 (acc.length + 1) c5) := fun hm => by have := hfin b hm; omega
              have hDn : EIn (w5.setCell ⟨b, 0, none⟩ (.slice (cutA A' c' 1) (rest.length - 1) (c' - 1))) b (.slice (cutA A' c' 1) (rest.length - 1) (c' - 1)) (rest.drop 1) := by
                refine ⟨blk_set hD5.blk 0 _, ?_⟩
                have h5 := hD5.row.cutA 1 rest.length hd2 (Nat.le_refl _)
                rw [show ((bs rest).drop 1).take (rest.length - 1) = bs (rest.drop 1) by rw [List.take_of_length_le (by simp [bs_length])]; simp [bs]] at h5
                rw [List.length_drop]
                exact h5.far _ _ (fun hm => hD5.b_row (hcutf b hm))
              have hcl2 := hDn.cellLen
              rw [List.length_drop] at hcl2
              go_roundw
              case rel =>
                refine ⟨_, acc ++ [(65533 : Int)], rest.drop 1, hDn, ?_, hn5.setCell _ _ (.inl (by simp)), ?_, hfin, ?_, ?_, ?_⟩
                · rw [ns_append, List.length_append]; exact hrow5.far _ _ hb5
                · intro k hk'; exact Hfb.out k (hcutf k hk')
                · have h1 := He.out.1
                  rw [Hen.out] at h1
                  rw [← h1, List.append_assoc]
                  rfl
                · have h1 := He.out.2
                  rw [Hen.out] at h1
                  exact h1
                · rw [List.length_append, List.length_append, List.length_drop]; simp; omega
              case measure =>
                rw [hcl2, hcl]
                omega
            · have t3 : ¬ (0 : Int) < hv := by omega
              clear hw hp
              go_wp2_with (first
                | (go_at_call 50; refine HH.out.mono ?_; rintro e w1 ⟨rfl, hkm⟩; have hD3 := HD.out.keeps hkm (by simp) (by simp); have e1 := blk_cell hD3.blk 0; have hrow3 := (hrow.keeps hkm (fun _ _ => by simp)))
                | (at_builtin; refine wpList_append_row rfl _ _ 22 rfl elR _ _ _ rfl (hrow3.keeps ((Keeps.refl [] _).alloc _) (fun _ _ => by simp)) _ 1 1 [.int .i32 65533] rfl rfl (Src.new _ _ _) (by intro u hu; simp at hu; subst hu; rfl) (by unfold maxLen; omega) (by omega) ?_; intro A5 c5 w5 hrow5 hk5 hf5; have hD5 := (hD3.keeps ((Keeps.refl [] _).alloc _) (by simp) (by simp)).keeps hk5 hbv hdj; have e5 := blk_cell hD5.blk 0; have f5 := blk_frozen hD5.blk 0)
                | (refine wpList_slice_l rfl _ _ 39 rfl elB A' rest.length c' 1 rfl rfl hd2 ?_))
              have hz1 := hk.size
              have hz2 := hkm.size
              have hn5 : Keeps (b :: fp (.slice A0 l.length cap0)) w w5 := ((hk.then hkm (fun i hi => by simp at hi)).alloc (.cells #[.int .i32 65533] 21)).then hk5 (fun i hi => .inr (Hfv.out i hi))
              have hfin : ∀ k, k ∈ fp (.slice A5 (acc.length + 1) c5) → w.heap.size ≤ k := fun k hk' => by
                rcases hf5 k hk' with h | h
                · exact Hfv.out k h
                · simp at h; omega
              have hcutf := fp_cutA A' c' 1 (rest.length - 1) rest.length
              have hb5 : b ∉ fp (.slice A5 (acc.length + 1) c5) := fun hm => by have := hfin b hm; omega
              have hDn : EIn (w5.setCell ⟨b, 0, none⟩ (.slice (cutA A' c' 1) (rest.length - 1) (c' - 1))) b (.slice (cutA A' c' 1) (rest.length - 1) (c' - 1)) (rest.drop 1) := by
                refine ⟨blk_set hD5.blk 0 _, ?_⟩
                have h5 := hD5.row.cutA 1 rest.length hd2 (Nat.le_refl _)
                rw [show ((bs rest).drop 1).take (rest.length - 1) = bs (rest.drop 1) by rw [List.take_of_length_le (by simp [bs_length])]; simp [bs]] at h5
                rw [List.length_drop]
                exact h5.far _ _ (fun hm => hD5.b_row (hcutf b hm))
              have hcl2 := hDn.cellLen
              rw [List.length_drop] at hcl2
              go_roundw
              case rel =>
                refine ⟨_, acc ++ [(65533 : Int)], rest.drop 1, hDn, ?_, hn5.setCell _ _ (.inl (by simp)), ?_, hfin, ?_, ?_, ?_⟩
                · rw [ns_append, List.length_append]; exact hrow5.far _ _ hb5
                · intro k hk'; exact Hfb.out k (hcutf k hk')
                · have h1 := He.out.1
                  rw [Hen.out] at h1
                  rw [← h1, List.append_assoc]
                  rfl
                · have h1 := He.out.2
                  rw [Hen.out] at h1
                  exact h1
                · rw [List.length_append, List.length_append, List.length_drop]; simp; omega
              case measure =>
                rw [hcl2, hcl]
                omega
end Go.Proofs.YtobogbjpdagklaaDoor.Dec
