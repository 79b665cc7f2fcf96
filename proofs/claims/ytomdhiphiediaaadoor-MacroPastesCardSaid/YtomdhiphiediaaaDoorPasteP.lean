/- A paste's line ends, as functions over bytes and runes: both ways of it are the same. -/
import Derived.Test.YtomdhiphiediaaaDoorHeadPM
import Derived.Lib.CountLaws
namespace Go.Proofs.YtomdhiphiediaaaDoor.Dec
open Go Go.RowKit Go.Proofs.YtomdhiphiediaaaDoor.Rw

/-- "\r\n" to "\n". -/
def crlf : List UInt8 → List UInt8
  | [] => []
  | [x] => [x]
  | x :: y :: r => if x = 13 ∧ y = 10 then 10 :: crlf r else x :: crlf (y :: r)
/-- "\r" to "\n". -/
def cr1 (l : List UInt8) : List UInt8 := l.map fun x => if x = 13 then 10 else x
def crB (l : List UInt8) : List UInt8 := cr1 (crlf l)
/-- The same over runes. -/
def crR : List Int → List Int
  | [] => []
  | [x] => [if x = 13 then 10 else x]
  | x :: y :: r => if x = 13 then (if y = 10 then 10 :: crR r else 10 :: crR (y :: r)) else x :: crR (y :: r)

/-! ### the replacing, step by step -/
/-- F replaces each instance of old by new. -/
structure Repl (old new : List UInt8) (F : List UInt8 → List UInt8) : Prop where
  miss : ∀ s, Lib.index s old = -1 → F s = s
  hit : ∀ (s : List UInt8) (i : Nat), Lib.index s old = i → F s = s.take i ++ (new ++ F (s.drop (i + old.length)))
theorem crlf_cons (x : UInt8) (r : List UInt8) (h : ¬ (x = 13 ∧ r.head? = some 10)) : crlf (x :: r) = x :: crlf r := by
  cases r with
  | nil => rfl
  | cons y r =>
    rw [crlf, if_neg]
    rintro ⟨h1, h2⟩
    exact h ⟨h1, by simp [h2]⟩
theorem pre2 (x : UInt8) (r : List UInt8) : [13, 10].isPrefixOf (x :: r) = true ↔ x = 13 ∧ r.head? = some 10 := by
  cases r with
  | nil => simp [List.isPrefixOf]
  | cons y r =>
    simp only [List.isPrefixOf, Bool.and_true, Bool.and_eq_true, beq_iff_eq, List.head?_cons, Option.some.injEq]
    exact ⟨fun ⟨a, b⟩ => ⟨a.symm, b.symm⟩, fun ⟨a, b⟩ => ⟨a.symm, b.symm⟩⟩
theorem repl_crlf : Repl [13, 10] [10] crlf := by
  constructor
  · intro s
    induction s with
    | nil => intro _; rfl
    | cons x r ih =>
      intro h
      unfold Lib.index at h
      split at h
      · cases h
      · rename_i hp
        rw [pre2] at hp
        rw [crlf_cons x r hp]
        split at h
        · rename_i h1
          rw [ih (by simpa using h1)]
        · rename_i h1
          have := Lib.index_ge r [13, 10]
          omega
  · intro s
    induction s with
    | nil => intro i h; simp [Lib.index] at h
    | cons x r ih =>
      intro i h
      unfold Lib.index at h
      split at h
      · rename_i hp
        rw [pre2] at hp
        obtain ⟨rfl, h2⟩ := hp
        obtain rfl : i = 0 := by omega
        cases r with
        | nil => simp at h2
        | cons y r =>
          simp at h2; subst h2
          simp [crlf]
      · rename_i hp
        rw [pre2] at hp
        split at h
        · omega
        · have hge := Lib.index_ge r [13, 10]
          rename_i h1
          have h3 : Lib.index r [13, 10] ≠ -1 := by simpa using h1
          obtain ⟨j, rfl⟩ : ∃ j, i = j + 1 := ⟨i - 1, by omega⟩
          rw [crlf_cons x r hp, ih j (by omega)]
          simp
theorem pre1 (x : UInt8) (r : List UInt8) : [13].isPrefixOf (x :: r) = true ↔ x = 13 := by
  simp only [List.isPrefixOf, Bool.and_true, beq_iff_eq]
  exact ⟨Eq.symm, Eq.symm⟩
theorem repl_cr1 : Repl [13] [10] cr1 := by
  constructor
  · intro s
    induction s with
    | nil => intro _; rfl
    | cons x r ih =>
      intro h
      unfold Lib.index at h
      split at h
      · cases h
      · rename_i hp
        rw [pre1] at hp
        split at h
        · rename_i h1
          show (if x = 13 then 10 else x) :: cr1 r = _
          rw [if_neg hp, ih (by simpa using h1)]
        · have := Lib.index_ge r [13]
          omega
  · intro s
    induction s with
    | nil => intro i h; simp [Lib.index] at h
    | cons x r ih =>
      intro i h
      unfold Lib.index at h
      split at h
      · rename_i hp
        rw [pre1] at hp
        subst hp
        obtain rfl : i = 0 := by omega
        simp [cr1]
      · rename_i hp
        rw [pre1] at hp
        split at h
        · omega
        · have hge := Lib.index_ge r [13]
          rename_i h1
          have h3 : Lib.index r [13] ≠ -1 := by simpa using h1
          obtain ⟨j, rfl⟩ : ∃ j, i = j + 1 := ⟨i - 1, by omega⟩
          show (if x = 13 then 10 else x) :: cr1 r = _
          rw [if_neg hp, ih j (by omega)]
          simp
theorem repl_length {old : List UInt8} {F : List UInt8 → List UInt8} (h : Repl old [10] F) (ho : 0 < old.length) : ∀ (n : Nat) (s : List UInt8), s.length ≤ n → (F s).length + Lib.count s old * (old.length - 1) = s.length
  | 0, s, hs => by
    obtain rfl : s = [] := List.eq_nil_of_length_eq_zero (by omega)
    have hi : Lib.index [] old = -1 := by
      unfold Lib.index
      cases old with
      | nil => simp at ho
      | cons _ _ => rfl
    rw [h.miss _ hi, Lib.count_miss hi]; simp
  | n + 1, s, hs => by
    have hge := Lib.index_ge s old
    by_cases hm : Lib.index s old = -1
    · rw [h.miss _ hm, Lib.count_miss hm]; simp
    · have hr := Lib.index_room s old (by omega)
      obtain ⟨i, hi⟩ : ∃ i : Nat, Lib.index s old = i := ⟨(Lib.index s old).toNat, by omega⟩
      have hne : old ≠ [] := List.length_pos_iff.1 ho
      have ih := repl_length h ho n (s.drop (i + old.length)) (by rw [List.length_drop]; omega)
      rw [h.hit s i hi, Lib.count_hit hne hi, List.length_append, List.length_append, List.length_take, List.length_singleton, Nat.add_mul]
      rw [List.length_drop] at ih
      omega

/-! ### decoding and the replacing -/
theorem crB_nil : crB [] = [] := rfl
theorem crB_cons (x : UInt8) (r : List UInt8) (h : x ≠ 13) : crB (x :: r) = x :: crB r := by
  unfold crB
  rw [crlf_cons x r (fun hh => h hh.1)]
  show (if x = 13 then 10 else x) :: _ = _
  rw [if_neg h]; rfl
theorem crB_crlf (r : List UInt8) : crB (13 :: 10 :: r) = 10 :: crB r := by
  unfold crB
  rw [crlf, if_pos ⟨rfl, rfl⟩]; rfl
theorem crB_cr (r : List UInt8) (h : r.head? ≠ some 10) : crB (13 :: r) = 10 :: crB r := by
  unfold crB
  rw [crlf_cons 13 r (fun hh => h hh.2)]; rfl
theorem crB_high : ∀ (j : Nat) (r : List UInt8), (∀ i, i < j → 128 ≤ byteN r i) → crB r = r.take j ++ crB (r.drop j)
  | 0, r, _ => by simp
  | j + 1, [], _ => by simp [crB_nil]
  | j + 1, x :: r, h => by
    have hx : x ≠ 13 := fun e => by have := h 0 (by omega); subst e; simp [byteN] at this
    rw [crB_cons x r hx, crB_high j r (fun i hi => h (i + 1) (by omega))]
    simp
theorem crB_back : ∀ (j : Nat) (r : List UInt8), (∀ i, i < j → 128 ≤ byteN (crB r) i) → ∀ i, i < j → byteN r i = byteN (crB r) i
  | 0, r, _ => fun i hi => by omega
  | j + 1, [], h => fun i hi => rfl
  | j + 1, x :: r, h => fun i hi => by
    have hx : x ≠ 13 := fun e => by
      subst e
      have h0 := h 0 (by omega)
      by_cases hr : r.head? = some 10
      · cases r with
        | nil => simp at hr
        | cons y r => simp at hr; subst hr; rw [crB_crlf] at h0; simp [byteN] at h0
      · rw [crB_cr r hr] at h0; simp [byteN] at h0
    rw [crB_cons x r hx] at h ⊢
    cases i with
    | zero => rfl
    | succ i => exact crB_back j r (fun i hi => h (i + 1) (by omega)) i (by omega)
/-- A form of two bytes or more. -/
theorem dec_multi (l : List UInt8) (h : 2 ≤ (dec l).2) : (dec l).2 ≤ l.length ∧ (∀ i, i < (dec l).2 → 128 ≤ byteN l i) ∧ 128 ≤ (dec l).1 ∧
    ∀ l2 : List UInt8, (dec l).2 ≤ l2.length → (∀ i, i < (dec l).2 → byteN l2 i = byteN l i) → dec l2 = dec l := by
  rw [dec_eq] at h ⊢
  have e : ∀ l2 : List UInt8, dec l2 = Lib.decodeN l2.length (byteN l2 0) (byteN l2 1) (byteN l2 2) (byteN l2 3) := dec_eq
  unfold Lib.decodeN at h ⊢
  split
  · rename_i c; rw [if_pos c] at h; simp at h
  rename_i c1
  rw [if_neg c1] at h
  split
  · rename_i c2
    rw [if_pos c2] at h
    split
    · rename_i c3
      refine ⟨by simp only; omega, fun i hi => ?_, by simp only; omega, fun l2 hl hb => ?_⟩
      · simp only at hi
        have : i = 0 ∨ i = 1 := by omega
        rcases this with rfl | rfl <;> omega
      · simp only at hl hb
        have b0 := hb 0 (by omega); have b1 := hb 1 (by omega)
        rw [e, b0, b1]
        unfold Lib.decodeN
        rw [if_neg c1, if_pos ⟨c2.1, by omega, c2.2.2⟩, if_pos c3]
    · rename_i c3; rw [if_neg c3] at h; simp at h
  rename_i c2
  rw [if_neg c2] at h
  split
  · rename_i c3
    rw [if_pos c3] at h
    split
    · rename_i c4
      refine ⟨by simp only; omega, fun i hi => ?_, by simp only; omega, fun l2 hl hb => ?_⟩
      · simp only at hi
        have : i = 0 ∨ i = 1 ∨ i = 2 := by omega
        rcases this with rfl | rfl | rfl <;> omega
      · simp only at hl hb
        have b0 := hb 0 (by omega); have b1 := hb 1 (by omega); have b2 := hb 2 (by omega)
        rw [e, b0, b1, b2]
        unfold Lib.decodeN
        rw [if_neg c1, if_neg (by omega), if_pos ⟨c3.1, ⟨by omega, c3.2.1.2⟩, by omega, c3.2.2.2⟩, if_pos c4]
    · rename_i c4; rw [if_neg c4] at h; simp at h
  rename_i c3
  rw [if_neg c3] at h
  split
  · rename_i c4
    rw [if_pos c4] at h
    split
    · rename_i c5
      refine ⟨by simp only; omega, fun i hi => ?_, by simp only; omega, fun l2 hl hb => ?_⟩
      · simp only at hi
        have : i = 0 ∨ i = 1 ∨ i = 2 ∨ i = 3 := by omega
        rcases this with rfl | rfl | rfl | rfl <;> omega
      · simp only at hl hb
        have b0 := hb 0 (by omega); have b1 := hb 1 (by omega); have b2 := hb 2 (by omega); have b3 := hb 3 (by omega)
        rw [e, b0, b1, b2, b3]
        unfold Lib.decodeN
        rw [if_neg c1, if_neg (by omega), if_neg (by omega), if_pos ⟨c4.1, ⟨by omega, c4.2.1.2⟩, ⟨by omega, c4.2.2.1.2⟩, by omega, c4.2.2.2.2⟩, if_pos c5]
    · rename_i c5; rw [if_neg c5] at h; simp at h
  · rename_i c4; rw [if_neg c4] at h; simp at h
theorem dec_one (l : List UInt8) (h : 128 ≤ byteN l 0) (h1 : (dec l).2 = 1) : dec l = (65533, 1) := by
  rw [dec_eq] at h1 ⊢
  unfold Lib.decodeN at h1 ⊢
  rw [if_neg (by omega)] at h1 ⊢
  repeat' split
  all_goals first | rfl | (simp_all; done) | skip
theorem dec_low (l : List UInt8) (h : byteN l 0 < 128) : dec l = (byteN l 0, 1) := by
  rw [dec_eq]; unfold Lib.decodeN; rw [if_pos h]
theorem runes_head (l : List UInt8) (h : (runesOf l).head? = some 10) : l.head? = some 10 := by
  cases l with
  | nil => simp [runesOf, runesF] at h
  | cons x r =>
    rw [runesOf_cons _ (by simp)] at h
    simp only [List.head?_cons, Option.some.injEq] at h
    by_cases hx : byteN (x :: r) 0 < 128
    · rw [dec_low _ hx] at h
      have : x.toNat = 10 := by
        have h2 : ((byteN (x :: r) 0 : Nat) : Int) = 10 := h
        have h3 : byteN (x :: r) 0 = x.toNat := rfl
        omega
      have hx10 : x = 10 := UInt8.toNat_inj.1 this
      rw [hx10]; rfl
    · exfalso
      have hp := dec_pos (x :: r)
      by_cases hk : (dec (x :: r)).2 = 1
      · rw [dec_one _ (by omega) hk] at h; cases h
      · have := (dec_multi (x :: r) (by omega)).2.2.1
        omega
theorem crR_other (x : Int) (l : List Int) (h : x ≠ 13) : crR (x :: l) = x :: crR l := by
  cases l with
  | nil => simp [crR, h]
  | cons y l => simp [crR, h]
theorem crR_cr (l : List Int) (h : l.head? ≠ some 10) : crR (13 :: l) = 10 :: crR l := by
  cases l with
  | nil => simp [crR]
  | cons y l =>
    have hy : y ≠ 10 := fun e => h (by simp [e])
    simp [crR, hy]
theorem crR_crlf (l : List Int) : crR (13 :: 10 :: l) = 10 :: crR l := by simp [crR]
theorem runes_low (x : UInt8) (r : List UInt8) (h : x.toNat < 128) : runesOf (x :: r) = (x.toNat : Int) :: runesOf r := by
  rw [runesOf_cons _ (by simp), dec_low (x :: r) h]
  rfl
/-- The runes of what was replaced are the runes, replaced. -/
theorem runes_crB : ∀ (n : Nat) (l : List UInt8), l.length ≤ n → runesOf (crB l) = crR (runesOf l)
  | 0, l, h => by
    obtain rfl : l = [] := List.eq_nil_of_length_eq_zero (by omega)
    rfl
  | n + 1, [], _ => rfl
  | n + 1, x :: r, hl => by
    simp only [List.length_cons] at hl
    by_cases hx : x.toNat < 128
    · by_cases h13 : x = 13
      · subst h13
        by_cases hr : r.head? = some 10
        · cases r with
          | nil => simp at hr
          | cons y r =>
            simp only [List.head?_cons, Option.some.injEq] at hr
            subst hr
            simp only [List.length_cons] at hl
            rw [crB_crlf, runes_low 10 _ (by decide), runes_low 13 _ (by decide), runes_low 10 _ (by decide), runes_crB n r (by omega)]
            exact (crR_crlf _).symm
        · rw [crB_cr r hr, runes_low 10 _ (by decide), runes_low 13 _ (by decide), runes_crB n r (by omega)]
          exact (crR_cr _ (fun h => hr (runes_head r h))).symm
      · have hne : (x.toNat : Int) ≠ 13 := fun e => by
          refine h13 (UInt8.toNat_inj.1 ?_)
          have h9 : (13 : UInt8).toNat = 13 := rfl
          omega
        rw [crB_cons x r h13, runes_low x _ hx, runes_low x _ hx, crR_other _ _ hne, runes_crB n r (by omega)]
    · have h13 : x ≠ 13 := fun e => by subst e; exact hx (by decide)
      have hp := dec_pos (x :: r)
      have hb0 : ∀ t : List UInt8, byteN (x :: t) 0 = x.toNat := fun t => rfl
      by_cases hk : (dec (x :: r)).2 = 1
      · have hd := dec_one (x :: r) (by rw [hb0]; omega) hk
        have hd2 : dec (x :: crB r) = (65533, 1) := by
          have hp2 := dec_pos (x :: crB r)
          by_cases hk2 : (dec (x :: crB r)).2 = 1
          · exact dec_one _ (by rw [hb0]; omega) hk2
          · exfalso
            obtain ⟨m1, m2, m3, m4⟩ := dec_multi (x :: crB r) (by omega)
            have hback := crB_back ((dec (x :: crB r)).2 - 1) r (fun i hi => m2 (i + 1) (by omega))
            have hlen : (dec (x :: crB r)).2 ≤ (x :: r).length := by
              have h9 := hback ((dec (x :: crB r)).2 - 2) (by omega)
              have h8 : 128 ≤ byteN (crB r) ((dec (x :: crB r)).2 - 2) := m2 ((dec (x :: crB r)).2 - 2 + 1) (by omega)
              by_cases hlt : (dec (x :: crB r)).2 - 2 < r.length
              · simp only [List.length_cons]; omega
              · exfalso
                have : byteN r ((dec (x :: crB r)).2 - 2) = 0 := by
                  unfold byteN
                  rw [List.getD_eq_getElem?_getD, List.getElem?_eq_none (by omega)]; rfl
                omega
            have h7 := m4 (x :: r) hlen (fun i hi => by
              cases i with
              | zero => rfl
              | succ i => exact hback i (by omega))
            rw [h7] at hk
            omega
        rw [crB_cons x r h13, runesOf_cons _ (by simp), hd2, runesOf_cons (x :: r) (by simp), hd]
        show (65533 : Int) :: runesOf (crB r) = crR ((65533 : Int) :: runesOf r)
        rw [crR_other _ _ (by decide), runes_crB n r (by omega)]
      · obtain ⟨m1, m2, m3, m4⟩ := dec_multi (x :: r) (by omega)
        have hsplit := crB_high (dec (x :: r)).2 (x :: r) m2
        have hsame : dec (crB (x :: r)) = dec (x :: r) := by
          refine m4 _ ?_ (fun i hi => ?_)
          · rw [hsplit, List.length_append, List.length_take]; omega
          · unfold byteN
            rw [hsplit, List.getD_eq_getElem?_getD, List.getD_eq_getElem?_getD, List.getElem?_append_left (by rw [List.length_take]; omega), List.getElem?_take, if_pos hi]
        have hne : crB (x :: r) ≠ [] := by rw [crB_cons x r h13]; simp
        rw [runesOf_cons _ hne, hsame, runesOf_cons (x :: r) (by simp), crR_other _ _ (by omega)]
        congr 1
        rw [hsplit, List.drop_append_of_le_length (by rw [List.length_take]; omega), List.drop_take, Nat.sub_self, List.take_zero, List.nil_append]
        exact runes_crB n _ (by simp only [List.length_drop, List.length_cons]; omega)
end Go.Proofs.YtomdhiphiediaaaDoor.Dec
