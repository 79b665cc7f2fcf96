/- Arguments that came in: a slice of bytes as the list of its bytes, a slice of numbers as the list of its numbers. -/
import Derived.Test.YtomdhiphiediaaaDoorRowOps
import Derived.ProofKit
import Derived.OpenShut
import Derived.SizedLaws
namespace Go.Proofs.YtomdhiphiediaaaDoor.Arg
open Go Go.RowKit Go.Proofs.YtomdhiphiediaaaDoor.Rw Go.ChangeShapes Go.WideShapes Go.ChangeAt

section
variable {H : Type} {enc : TypeId × Value → H} {P : Program} {W : World} {base : Nat} {spare : Nat → Bool} {held : Bool} {t e : TypeId} {k : IntKind} {a : Option Addr} {len cap : Nat} {d : DataW H} {ps : List MemPlace}
/-- A slice of numbers that came in: its numbers up to its length; its datum has as many elements. -/
theorem open_nums_data (ht : P.underlying t = some (.slice e)) (he : P.underlying e = some (.int k)) (hc : P.cellsOf e = 1) {fuel : Nat} {cs : List Value} (hf : DataW.trod enc P W base spare held fuel t cs = some (d, ps)) :
    ∃ a len cap, ∃ l : List Int, cs = [.slice a len cap] ∧ l.length = len ∧ Src W a (ns k l) ∧ len ≤ cap ∧ cap ≤ maxLen ∧ (∀ n ∈ l, (Lit.int k n).wf = true) ∧ ((d = .nil ∧ l = []) ∨ ∃ el sp, d = .slice el sp ∧ el.length = l.length) := by
  rcases open_ints ht he hc hf with ⟨rfl, hd⟩ | ⟨x, l, c, zs, rfl, _, hl, hm, hz, hd, hcell, hwz⟩
  · exact ⟨none, 0, 0, [], rfl, rfl, Src.nil _ _, Nat.le_refl _, by unfold maxLen; omega, by simp, .inl ⟨(Prod.mk.inj hd).1, rfl⟩⟩
  · have hzl : l ≤ zs.length := by rw [hz]; split <;> omega
    refine ⟨some x, l, c, zs.take l, rfl, by rw [List.length_take]; omega, ?_, hl, hm, fun n hn => hwz n (List.mem_of_mem_take hn), .inr ⟨_, _, (Prod.mk.inj hd).1, by simp [lits]⟩⟩
    intro j u hj
    refine ⟨x, rfl, ?_⟩
    simp only [ns, List.getElem?_map, List.getElem?_take] at hj
    split at hj
    · rename_i hlt
      have hzj : j < zs.length := by omega
      rw [List.getElem?_eq_getElem hzj] at hj
      simp at hj
      subst hj
      rw [hcell j hzj]
      simp [hzj]
    · simp at hj
/-- A slice of numbers that came in: its numbers up to its length. -/
theorem open_nums (ht : P.underlying t = some (.slice e)) (he : P.underlying e = some (.int k)) (hc : P.cellsOf e = 1) (h : DataW.Trod enc P W base spare held t (.slice a len cap) d ps) :
    ∃ l : List Int, l.length = len ∧ Src W a (ns k l) ∧ len ≤ cap ∧ cap ≤ maxLen ∧ (∀ n ∈ l, (Lit.int k n).wf = true) := by
  obtain ⟨fuel, hf⟩ := h
  rcases open_ints ht he hc hf with ⟨hcs, _⟩ | ⟨x, l, c, zs, hcs, _, hl, hm, hz, _, hcell, hwz⟩
  · simp [Value.cells] at hcs
    obtain ⟨rfl, rfl, rfl⟩ := hcs
    exact ⟨[], rfl, Src.nil _ _, Nat.le_refl _, by unfold maxLen; omega, by simp⟩
  · simp [Value.cells] at hcs
    obtain ⟨rfl, rfl, rfl⟩ := hcs
    have hzl : len ≤ zs.length := by rw [hz]; split <;> omega
    refine ⟨zs.take len, by rw [List.length_take]; omega, ?_, hl, hm, fun n hn => hwz n (List.mem_of_mem_take hn)⟩
    intro j u hj
    refine ⟨x, rfl, ?_⟩
    simp only [ns, List.getElem?_map, List.getElem?_take] at hj
    split at hj
    · rename_i hlt
      have hzj : j < zs.length := by omega
      rw [List.getElem?_eq_getElem hzj] at hj
      simp at hj
      subst hj
      rw [hcell j hzj]
      simp [hzj]
    · simp at hj
theorem toNat_ofNat_u8 {n : Int} (h0 : 0 ≤ n) (h1 : n ≤ 255) : (((UInt8.ofNat n.toNat).toNat : Nat) : Int) = n := by
  rw [UInt8.toNat_ofNat']
  omega
/-- A slice of bytes that came in. -/
theorem open_bytes (ht : P.underlying t = some (.slice e)) (he : P.underlying e = some (.int .u8)) (hc : P.cellsOf e = 1) (h : DataW.Trod enc P W base spare held t (.slice a len cap) d ps) :
    ∃ l : List UInt8, l.length = len ∧ Src W a (bs l) ∧ len ≤ cap ∧ cap ≤ maxLen := by
  obtain ⟨l, hl, hs, h1, h2, hw⟩ := open_nums ht he hc h
  refine ⟨l.map fun n => UInt8.ofNat n.toNat, by simpa using hl, ?_, h1, h2⟩
  have e1 : bs (l.map fun n => UInt8.ofNat n.toNat) = ns .u8 l := by
    simp only [bs, ns, List.map_map]
    apply List.map_congr_left
    intro n hn
    have := bounds_u8 (hw n hn)
    simp only [Function.comp]
    rw [toNat_ofNat_u8 (by omega) (by omega)]
  rw [e1]; exact hs
theorem bytes_of_nums {l : List Int} (hw : ∀ n ∈ l, (Lit.int .u8 n).wf = true) : bs (l.map fun n => UInt8.ofNat n.toNat) = ns .u8 l := by
  simp only [bs, ns, List.map_map]
  apply List.map_congr_left
  intro n hn
  have := bounds_u8 (hw n hn)
  simp only [Function.comp]
  rw [toNat_ofNat_u8 (by omega) (by omega)]
end
end Go.Proofs.YtomdhiphiediaaaDoor.Arg
