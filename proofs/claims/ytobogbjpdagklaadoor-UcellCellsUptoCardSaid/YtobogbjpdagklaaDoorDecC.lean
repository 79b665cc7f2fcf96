/- ucell.Decoder: Put, Flush. -/
import Derived.Test.YtobogbjpdagklaaDoorDecB
namespace Go.Proofs.YtobogbjpdagklaaDoor.Dec
open Go Go.RowKit Go.Proofs.YtobogbjpdagklaaDoor.Rw

theorem UTabs_far {w w' : World} {F : List Nat} (h : UTabs w) (k : Keeps F w w') (h1 : 2 ∉ F) (h2 : 3 ∉ F) : UTabs w' :=
  ⟨fun c hc => k.cell (h.1 c hc) h1, fun i hi => ⟨k.cell (h.2 i hi).1 h2, k.cell (h.2 i hi).2 h2⟩⟩
theorem UTabs_lt {w : World} (h : UTabs w) : 2 < w.heap.size ∧ 3 < w.heap.size := by
  have h1 := h.1 0 (by omega)
  have h2 := (h.2 0 (by omega)).1
  constructor
  · unfold World.cell? at h1
    split at h1
    · rename_i he; exact (Array.getElem?_eq_some_iff.1 he).1
    · cases h1
  · unfold World.cell? at h2
    split at h2
    · rename_i he; exact (Array.getElem?_eq_some_iff.1 he).1
    · cases h2
/-- What Put leaves. -/
def PutD (w w' : World) (b : Nat) (F : List Nat) (e : Ending) (r : List Int × List UInt8) : Prop :=
  ∃ A c F', e = .returned (.slice A r.1.length c) ∧ Row w' 21 1 (.slice A r.1.length c) r.1.length (ns .i32 r.1) ∧ Keeps F w w' ∧ DAt w' b F' r.2 ∧ (∀ k, k ∈ F' → k ∈ F ∨ w.heap.size ≤ k) ∧ ∀ k, k ∈ fp (.slice A r.1.length c) → w.heap.size ≤ k
def cellLen (w : World) (b : Nat) : Nat := match w.cell? ⟨b, 1, none⟩ with
  | some v => slen v
  | none => 0
theorem DIn.cellLen {w : World} {b : Nat} {bv : Value} {l : List UInt8} (h : DIn w b bv l) : Dec.cellLen w b = l.length := by
  obtain ⟨A, c, rfl, _, _⟩ := h.row.slice
  have := blk_cell h.blk 1
  unfold Dec.cellLen
  rw [this]
  rfl
/-- The loop's relation. -/
def Drains (w : World) (b : Nat) (F : List Nat) (all : List UInt8) (v : Value) (wr : World) : Prop :=
  ∃ bv acc rest, DIn wr b bv rest ∧ Row wr 21 1 v acc.length (ns .i32 acc) ∧ Keeps F w wr ∧ (∀ k, k ∈ fp bv → k ∈ F ∨ w.heap.size ≤ k) ∧ (∀ k, k ∈ fp v → w.heap.size ≤ k) ∧
    acc ++ (drain rest).1 = (drain all).1 ∧ (drain rest).2 = (drain all).2 ∧ acc.length + rest.length ≤ all.length
set_option maxRecDepth 100000 in
set_option maxHeartbeats 2000000 in
theorem DPut_calls (w : World) (hT : UTabs w) (b : Nat) (F : List Nat) (l x : List UInt8) (A : Option Addr) (c : Nat) (h : DAt w b F l) (hF1 : 2 ∉ F) (hF2 : 3 ∉ F) (hs : Src w A (bs x)) (hb : (l.length + x.length) * 4 ≤ 140737488355328) :
    Calls Tryd.prog 22 #[.pointer (some ⟨b, 0, none⟩), .slice A x.length c] w fun e w' => PutD w w' b F e (drain (l ++ x)) := by
  have HT := Lib.hid hT; clear hT
  have hbF : b ∈ F := by obtain ⟨bv, _, rfl⟩ := h; simp
  have hbs : b < w.heap.size := h.lt b hbF
  obtain ⟨bv, h, rfl⟩ := h
  obtain ⟨A0, cap0, rfl, h1, h2⟩ := h.row.slice
  have Hs := Lib.hid hs; clear hs
  have Hb := Lib.hid hb
  have HF := Lib.hid (And.intro hF1 hF2); clear hF1 hF2
  have Hlt := Lib.hid h.row.fp_lt
  have c0 := blk_cell h.blk 0
  have c1 := blk_cell h.blk 1
  have hbm := h.b_row
  go_enter Tryd.func22, Tryd.ntmps22
  go_wp2_with (first
    | (go_at_call 47; refine (DNone_calls _ b true c0).mono ?_; rintro e w' ⟨rfl, rfl⟩)
    | (at_builtin; refine wpList_append_row rfl _ _ 39 rfl elB _ _ _ rfl h.row _ x.length _ (bs x) rfl (by rw [bs_length, Nat.mul_one]) Hs.out (bs_one x) (by unfold maxLen; omega) (by omega) ?_; intro A1 c1' w1 hrow1 hk1 hf1; have hb1 := hk1.blk h.blk hbm; have d1 := blk_cell hb1 1; have f1 := blk_frozen hb1 1))
  have hD : DIn (w1.setCell ⟨b, 1, none⟩ (.slice A1 (l.length + x.length) c1')) b (.slice A1 (l.length + x.length) c1') (l ++ x) := by
    refine ⟨blk_set hb1 1 _, ?_⟩
    rw [bs_append, List.length_append]
    refine hrow1.far _ _ (fun hk => ?_)
    rcases hf1 b hk with h' | h'
    · exact hbm h'
    · omega
  have hK : Keeps (b :: fp (.slice A0 l.length cap0)) w (w1.setCell ⟨b, 1, none⟩ (.slice A1 (l.length + x.length) c1')) :=
    (hk1.mono (fun k hk => .inl (List.mem_cons_of_mem _ hk))).setCell _ _ (.inl (by simp))
  have hS : Drains w b (b :: fp (.slice A0 l.length cap0)) (l ++ x) (.slice none 0 0) (w1.setCell ⟨b, 1, none⟩ (.slice A1 (l.length + x.length) c1')) :=
    ⟨_, [], l ++ x, hD, Row.nil _ _ _ _, hK, fun k hk => by
      rcases hf1 k hk with h' | h'
      · exact .inl (List.mem_cons_of_mem _ h')
      · exact .inr h', fun k hk => by simp [fp] at hk, rfl, rfl, by simp⟩
  generalize w1.setCell ⟨b, 1, none⟩ (.slice A1 (l.length + x.length) c1') = w2 at *
  clear hD hK hrow1 hk1 hf1 hb1 d1 f1 c0 c1 h
  go_loopw [5] (fun v wr => Drains w b (b :: fp (.slice A0 l.length cap0)) (l ++ x) v wr) (fun _ wr => cellLen wr b)
  case atStart => exact hS
  case round =>
    obtain ⟨bv, acc, rest, hD, hrow, hk, hfb, hfv, he1, he2, hle⟩ := hrel
    clear hS
    obtain ⟨A', c', rfl, hc', hm'⟩ := hD.row.slice
    obtain ⟨Av, cv, rfl, _, _⟩ := hrow.slice
    have c0 := blk_cell hD.blk 0
    have c1 := blk_cell hD.blk 1
    have hcl := hD.cellLen
    have He := Lib.hid (And.intro he1 he2); clear he1 he2
    have Hfb := Lib.hid hfb; clear hfb
    have Hfv := Lib.hid hfv; clear hfv
    have HD := Lib.hid hD
    rw [List.length_append] at hle
    obtain ⟨w0, rfl⟩ : ∃ w0, w0 = wr := ⟨_, rfl⟩
    by_cases hz : rest.length = 0
    · have hr : rest = [] := List.eq_nil_of_length_eq_zero hz
      have hn : ¬ ((0 : Int) < (rest.length : Int)) := by omega
      clear hD
      go_wp2_with fail
      go_ret
      obtain ⟨e1, e2⟩ := He.out
      rw [hr, drain_not [] rfl, List.append_nil] at e1
      rw [hr, drain_not [] rfl] at e2
      simp only at e1 e2
      rw [e1] at hrow
      refine ⟨Av, cv, _, by rw [← e1]; rfl, hrow, hk, ⟨_, by rw [← e2, ← hr]; exact HD.out, rfl⟩, ?_, ?_⟩
      · intro k hk'
        rcases List.mem_cons.1 hk' with rfl | hk'
        · exact .inl (by simp)
        · exact Hfb.out k hk'
      · rw [← e1]; exact Hfv.out
    · have hne : rest ≠ [] := fun e => hz (by rw [e]; rfl)
      have hn : (0 : Int) < (rest.length : Int) := by omega
      have hTr := UTabs_far HT.out hk HF.out.1 HF.out.2
      obtain ⟨As, cs, hse, _, _, hsr, hAs⟩ := hD.row.src
      cases hse
      have Hsr := Lib.hid hsr; clear hsr hAs
      clear hz
      by_cases hf : full rest = true
      · have hd1 := dec_pos rest
        have hd2 := dec_le rest hne
        have hen := drain_full rest hf
        have Hf := Lib.hid hf; clear hf
        have hcut := hD.row.cutA (dec rest).2 rest.length hd2 (Nat.le_refl _)
        rw [show ((bs rest).drop (dec rest).2).take (rest.length - (dec rest).2) = bs (rest.drop (dec rest).2) by rw [List.take_of_length_le (by simp [bs_length])]; simp [bs]] at hcut
        generalize hDe : dec rest = D at *
        obtain ⟨d1, d2⟩ := D
        simp only at hd1 hd2 hen hcut
        have Hen := Lib.hid hen; clear hen
        have HDe := Lib.hid hDe; clear hDe
        have Hcut := Lib.hid hcut; clear hcut
        clear hD
        have hbv : b ∉ fp (.slice Av acc.length cv) := fun hm => by have := Hfv.out b hm; omega
        have hdj : ∀ i, i ∈ fp (.slice A' rest.length c') → i ∉ fp (.slice Av acc.length cv) := fun i hi hm => by
          obtain ⟨cur, hc1⟩ := HD.out.row.fp_type i hi
          obtain ⟨cur2, hc2⟩ := hrow.fp_type i hm
          exact blk_ne hc1 hc2 (by decide) rfl
        go_wp2_with (first
          | (go_at_call 48; refine (Full_calls w0 hTr A' c' rest Hsr.out).mono ?_; rintro e w1 ⟨rfl, hk1⟩; rw [Hf.out]; have hD1 := HD.out.keeps hk1 (by simp) (by simp); have e1 := blk_cell hD1.blk 1; have Hs1 := Lib.hid (Hsr.out.keeps hk1 (fun _ _ _ => by simp)))
          | (go_at_call 49; refine (Dec_calls w1 (UTabs_keeps hTr hk1) A' c' rest hne Hs1.out).mono ?_; rintro e w3 ⟨rfl, hk3⟩; rw [HDe.out]; have hrow3 := ((hrow.keeps hk1 (fun _ _ => by simp)).keeps hk3 (fun _ _ => by simp)); have hD3 := hD1.keeps hk3 (by simp) (by simp))
          | (at_builtin; refine wpList_append_row rfl _ _ 22 rfl elR _ _ _ rfl (hrow3.keeps ((Keeps.refl [] _).alloc _) (fun _ _ => by simp)) _ 1 1 [.int .i32 (d1 : Nat)] rfl rfl (Src.new _ _ _) (by intro u hu; simp at hu; subst hu; rfl) (by unfold maxLen; omega) (by omega) ?_; intro A5 c5 w5 hrow5 hk5 hf5; have hD5 := (hD3.keeps ((Keeps.refl [] _).alloc _) (by simp) (by simp)).keeps hk5 hbv hdj; have e5 := blk_cell hD5.blk 1; have f5 := blk_frozen hD5.blk 1)
          | (refine wpList_slice_l rfl _ _ 39 rfl elB A' rest.length c' d2 rfl rfl hd2 ?_))
        have hz1 := hk.size
        have hz2 := hk1.size
        have hz3 := hk3.size
        have hn5 : Keeps (b :: fp (.slice A0 l.length cap0)) w w5 := (((hk.then hk1 (fun i hi => by simp at hi)).then hk3 (fun i hi => by simp at hi)).alloc (.cells #[.int .i32 (d1 : Nat)] 21)).then hk5 (fun i hi => .inr (Hfv.out i hi))
        have hfin : ∀ k, k ∈ fp (.slice A5 (acc.length + 1) c5) → w.heap.size ≤ k := fun k hk' => by
          rcases hf5 k hk' with h | h
          · exact Hfv.out k h
          · simp at h; omega
        have hcutf := fp_cutA A' c' d2 (rest.length - d2) rest.length
        have hb5 : b ∉ fp (.slice A5 (acc.length + 1) c5) := fun hm => by have := hfin b hm; omega
        have hDn : DIn (w5.setCell ⟨b, 1, none⟩ (.slice (cutA A' c' d2) (rest.length - d2) (c' - d2))) b (.slice (cutA A' c' d2) (rest.length - d2) (c' - d2)) (rest.drop d2) := by
          refine ⟨blk_set hD5.blk 1 _, ?_⟩
          have h5 := hD5.row.cutA d2 rest.length hd2 (Nat.le_refl _)
          rw [show ((bs rest).drop d2).take (rest.length - d2) = bs (rest.drop d2) by rw [List.take_of_length_le (by simp [bs_length])]; simp [bs]] at h5
          rw [List.length_drop]
          exact h5.far _ _ (fun hm => hD5.b_row (hcutf b hm))
        have hcl2 := hDn.cellLen
        rw [List.length_drop] at hcl2
        go_roundw
        case rel =>
          refine ⟨_, acc ++ [(d1 : Int)], rest.drop d2, hDn, ?_, hn5.setCell _ _ (.inl (by simp)), ?_, hfin, ?_, ?_, ?_⟩
          · rw [ns_append, List.length_append]; exact hrow5.far _ _ hb5
          · intro k hk'; exact Hfb.out k (hcutf k hk')
          · have h1 := He.out.1
            rw [Hen.out] at h1
            rw [← h1, List.append_assoc]
            rfl
          · have h1 := He.out.2
            rw [Hen.out] at h1
            exact h1
          · rw [List.length_append, List.length_append, List.length_drop]; simp; omega
        case measure =>
          rw [hcl2, hcl]
          omega
      · have hf' : full rest = false := by simpa using hf
        have Hf := Lib.hid hf'; clear hf hf'
        clear hD
        go_wp2_with (go_at_call 48; refine (Full_calls w0 hTr A' c' rest Hsr.out).mono ?_; rintro e w1 ⟨rfl, hk1⟩; rw [Hf.out]; have hD1 := HD.out.keeps hk1 (by simp) (by simp))
        go_ret
        obtain ⟨e1, e2⟩ := He.out
        rw [drain_not _ Hf.out, List.append_nil] at e1
        rw [drain_not _ Hf.out] at e2
        simp only at e1 e2
        have hrow1 := hrow.keeps hk1 (fun _ _ => by simp)
        rw [e1] at hrow1
        refine ⟨Av, cv, _, by rw [← e1]; rfl, hrow1, hk.then hk1 (fun i hi => by simp at hi), ⟨_, by rw [← e2]; exact hD1, rfl⟩, ?_, ?_⟩
        · intro k hk'
          rcases List.mem_cons.1 hk' with rfl | hk'
          · exact .inl (by simp)
          · exact Hfb.out k hk'
        · rw [← e1]; exact Hfv.out
end Go.Proofs.YtobogbjpdagklaaDoor.Dec
