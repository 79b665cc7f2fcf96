/- A paste of letters: plain laws. -/
import Derived.Test.YtomdhiphiediaaaDoorPText
import Derived.Test.YtomdhiphiediaaaDoorEncP
import Derived.Laws.Cover4
namespace Go.Proofs.YtomdhiphiediaaaDoor.Dec
open Go Go.RowKit Go.Proofs.YtomdhiphiediaaaDoor.Rw

def ltr (b : UInt8) : UInt8 := UInt8.ofNat (32 + b.toNat % 95)
theorem ltr_nat (b : UInt8) : (ltr b).toNat = 32 + b.toNat % 95 := by
  unfold ltr
  rw [UInt8.toNat_ofNat']
  omega
theorem ends_no {l : List UInt8} (h : ∀ x ∈ l, x ≠ 27) : ends l tail = false := by
  unfold ends
  refine decide_eq_false fun ⟨h1, h2⟩ => ?_
  have h3 : (27 : UInt8) ∈ l.drop (l.length - tail.length) := by rw [h2]; decide
  exact h 27 (List.mem_of_mem_drop h3) rfl
theorem ends_part {l : List UInt8} (h : ∀ x ∈ l, x ≠ 27) (j : Nat) (hj : j < 6) : ends (l ++ tail.take j) tail = false := by
  unfold ends
  refine decide_eq_false fun ⟨h1, h2⟩ => ?_
  have ht : (tail.take j).length = j := by rw [List.length_take]; show min j 6 = j; omega
  have h6 : tail.length = 6 := rfl
  rw [List.length_append, ht, h6] at h1 h2
  have h0 : (l ++ tail.take j)[l.length + j - 6]? = some 27 := by
    have := congrArg (·[0]?) h2
    simp only [List.getElem?_drop, Nat.add_zero] at this
    rw [this]; rfl
  rw [List.getElem?_append_left (by omega)] at h0
  exact h 27 (List.mem_of_getElem? h0) rfl
theorem ends_all (l : List UInt8) : ends (l ++ tail) tail = true := by
  unfold ends
  refine decide_eq_true ⟨by rw [List.length_append]; omega, ?_⟩
  rw [List.length_append, Nat.add_sub_cancel, List.drop_left]
theorem crB_plain : ∀ l : List UInt8, (∀ x ∈ l, x ≠ 13) → crB l = l
  | [], _ => rfl
  | x :: l, h => by
    rw [crB_cons x l (h x (by simp)), crB_plain l (fun y hy => h y (by simp [hy]))]
theorem runes_plain : ∀ l : List UInt8, (∀ x ∈ l, x.toNat < 128) → runesOf l = l.map fun x => (x.toNat : Int)
  | [], _ => rfl
  | x :: l, h => by
    rw [runes_low x l (h x (by simp)), runes_plain l (fun y hy => h y (by simp [hy]))]; rfl
theorem enc_low (x : UInt8) (h : x.toNat < 128) : Utf8.encode (x.toNat : Int) = ⟨#[x]⟩ := by
  rw [enc_same]
  unfold Lib.encodeRune
  rw [Lib.encodeRuneZ_one (by omega) (by omega)]
  simp
theorem runesBytes_plain (l : List UInt8) (h : ∀ x ∈ l, x.toNat < 128) : runesBytes (l.map fun x => (x.toNat : Int)) = ⟨l.toArray⟩ := by
  have : ∀ (l : List UInt8) (s : List UInt8), (∀ x ∈ l, x.toNat < 128) → (l.map fun x => (x.toNat : Int)).foldl (fun r n => r ++ Utf8.encode n) (⟨s.toArray⟩ : ByteArray) = ⟨(s ++ l).toArray⟩ := by
    intro l
    induction l with
    | nil => intro s _; simp
    | cons x l ih =>
      intro s h
      simp only [List.map_cons, List.foldl_cons]
      rw [enc_low x (h x (by simp))]
      have e : (⟨s.toArray⟩ : ByteArray) ++ ⟨#[x]⟩ = ⟨(s ++ [x]).toArray⟩ := by
        apply ByteArray.ext
        simp
      rw [e, ih _ (fun y hy => h y (by simp [hy])), List.append_assoc]; rfl
  have h9 := this l [] h
  rw [List.nil_append] at h9
  exact h9
theorem conv_runes {P : Program} (w : World) (src dst e : TypeId) (A : Option Addr) (c : Nat) (l : List Int) (hs : P.underlying src = some (.slice e)) (he : P.underlying e = some (.int .i32)) (hd : P.underlying dst = some .string) (h : Src w A (ns .i32 l)) :
    (convert src dst (.slice A l.length c)).run P w = .ok (.string (runesBytes l)) w := by
  rw [run_convert_runes_string w src dst e A l.length c hs he hd]
  cases A with
  | none =>
    have : l = [] := by
      cases l with
      | nil => rfl
      | cons x r => obtain ⟨ad, h, _⟩ := h 0 (.int .i32 x) rfl; cases h
    subst this
    simp [Conv.runesToString, runesBytes]
  | some a =>
    refine run_runesToString w a l.length c l ?_
    have hl := run_loadCells_list (P := P) w a (ns .i32 l) (fun j v hj => by
      obtain ⟨_, ha, hc⟩ := h j v hj
      cases ha; exact hc)
    rw [ns_length] at hl
    exact hl
end Go.Proofs.YtomdhiphiediaaaDoor.Dec
