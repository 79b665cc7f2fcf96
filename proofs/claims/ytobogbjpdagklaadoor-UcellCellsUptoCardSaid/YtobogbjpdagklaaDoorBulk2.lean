/- What the bound gives of a slice of numbers, of bytes. -/
import Derived.Test.YtobogbjpdagklaaDoorBulk
namespace Go.Proofs.YtobogbjpdagklaaDoor.Bulk
open Go Go.RowKit Go.Proofs.YtobogbjpdagklaaDoor.Rw Go.Proofs.YtobogbjpdagklaaDoor.Arg Go.Deep Go.ChangeShapes Go.WideShapes Go.ChangeAt
section
variable {H : Type} {enc : TypeId × Value → H} {P : Program} {W : World} {base : Nat} {spare : Nat → Bool} {held : Bool} {t e q : TypeId} {a : Option Addr} {len cap : Nat} {d : DataW H} {ps : List MemPlace}
/-- A slice of numbers, with its bulk. -/
theorem open_nums_bulk {k : IntKind} (ht : P.underlying t = some (.slice e)) (he : P.underlying e = some (.int k)) (hc : P.cellsOf e = 1) (h : DataW.Trod enc P W base spare held t (.slice a len cap) d ps) :
    ∃ l : List Int, l.length = len ∧ Src W a (ns k l) ∧ len ≤ cap ∧ cap ≤ maxLen ∧ (∀ n ∈ l, (Lit.int k n).wf = true) ∧ l.length + 1 ≤ Rows.uptoBulk d := by
  obtain ⟨fuel, hf⟩ := h
  obtain ⟨a', len', cap', zs, hv, hzl, hs, h1, h2, hw, hdd⟩ := open_nums_data ht he hc hf
  simp [Value.cells] at hv
  obtain ⟨rfl, rfl, rfl⟩ := hv
  refine ⟨zs, hzl, hs, h1, h2, hw, ?_⟩
  rcases hdd with ⟨hd0, hz0⟩ | ⟨el, sp, hd0, hel⟩
  · rw [hz0, hd0]; simp [Rows.uptoBulk]
  · rw [hd0, ← hel]; exact slice_len el sp
/-- A slice of bytes, with its bulk. -/
theorem open_bytes_bulk (ht : P.underlying t = some (.slice e)) (he : P.underlying e = some (.int .u8)) (hc : P.cellsOf e = 1) (h : DataW.Trod enc P W base spare held t (.slice a len cap) d ps) :
    ∃ l : List UInt8, l.length = len ∧ Src W a (bs l) ∧ len ≤ cap ∧ cap ≤ maxLen ∧ l.length + 1 ≤ Rows.uptoBulk d := by
  obtain ⟨l, hl, hs, h1, h2, hw, hb⟩ := open_nums_bulk ht he hc h
  exact ⟨l.map fun n => UInt8.ofNat n.toNat, by simpa using hl, by rw [bytes_of_nums hw]; exact hs, h1, h2, by simpa using hb⟩
end
end Go.Proofs.YtobogbjpdagklaaDoor.Bulk
