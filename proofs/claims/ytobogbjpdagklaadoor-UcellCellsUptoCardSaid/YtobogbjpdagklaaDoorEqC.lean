/- slices.Equal at places: a list and the same list. -/
import Derived.Test.YtobogbjpdagklaaDoorCellsX
namespace Go.Proofs.YtobogbjpdagklaaDoor.Dec
open Go Go.RowKit Go.Proofs.YtobogbjpdagklaaDoor.Rw

/-- A list of places that is read. -/
def CRead (w : World) (A : Option Addr) (cs : List CellV) : Prop := ∀ k c, cs[k]? = some c → ∃ g off, A = some ⟨g, off, none⟩ ∧ w.cell? ⟨g, off + k * 3, none⟩ = some (.string c.text) ∧ w.cell? ⟨g, off + k * 3 + 1, none⟩ = some (.int .i64 c.width) ∧ w.cell? ⟨g, off + k * 3 + 2, none⟩ = some (.int .i64 0)
theorem CRead.of_row {w : World} {A : Option Addr} {d : Nat} {cs : List CellV} (h : Row w 26 3 (.slice A cs.length d) cs.length (cvs cs)) : CRead w A cs := by
  intro k c hc
  obtain ⟨hlt, rfl⟩ := List.getElem?_eq_some_iff.1 hc
  have hl := cvs_length cs
  obtain ⟨g, off, c', he, _, _, _, c0, _⟩ := h.cell (i := k * 3) (by omega)
  cases he
  obtain ⟨_, _, _, he, _, _, _, c1, _⟩ := h.cell (i := k * 3 + 1) (by omega)
  cases he
  obtain ⟨_, _, _, he, _, _, _, c2, _⟩ := h.cell (i := k * 3 + 2) (by omega)
  cases he
  rw [List.getElem_eq_iff (by omega) |>.2 (cvs_at cs k hlt)] at c0
  rw [List.getElem_eq_iff (by omega) |>.2 (cvs_at1 cs k hlt)] at c1
  rw [List.getElem_eq_iff (by omega) |>.2 (cvs_at2 cs k hlt)] at c2
  exact ⟨g, off, rfl, c0, c1, c2⟩
theorem CRead.keeps {w w' : World} {A : Option Addr} {cs : List CellV} (h : CRead w A cs) (k : Keeps [] w w') : CRead w' A cs := fun i c hc => by
  obtain ⟨g, off, h0, h1, h2, h3⟩ := h i c hc
  exact ⟨g, off, h0, k.cell h1 (by simp), k.cell h2 (by simp), k.cell h3 (by simp)⟩
set_option maxRecDepth 100000 in
set_option maxHeartbeats 2000000 in
theorem EqualC_calls (w : World) (A B : Option Addr) (c d : Nat) (cs : List CellV) (hA : CRead w A cs) (hB : CRead w B cs) (hn : cs.length ≤ 9223372036854775807) :
    Calls Tryd.prog 15 #[.slice A cs.length c, .slice B cs.length d] w fun e w' => e = .returned (.bool true) ∧ Keeps [] w w' := by
  have HA := Lib.hid hA; clear hA
  have HB := Lib.hid hB; clear hB
  go_enter Tryd.func15, Tryd.ntmps15
  go_wp2_with fail
  go_loopw [13] (fun i wr => ∃ k : Nat, k ≤ cs.length ∧ i = .int .i64 k ∧ Keeps [] w wr) (fun i _ => cs.length - (intOf i).toNat)
  case atStart => exact ⟨0, Nat.zero_le _, rfl, Keeps.refl _ _⟩
  case round =>
    obtain ⟨k, hk, rfl, hkr⟩ := hrel
    by_cases hlt : k < cs.length
    · obtain ⟨x, hx⟩ : ∃ x, cs[k]? = some x := ⟨_, List.getElem?_eq_getElem hlt⟩
      obtain ⟨g, off, rfl, a0, a1, a2⟩ := (HA.out.keeps hkr) k x hx
      obtain ⟨g', off', rfl, b0, b1, b2⟩ := (HB.out.keeps hkr) k x hx
      obtain ⟨t, W⟩ := x
      simp only at a0 a1 b0 b1
      have k0 : (0 : Int) ≤ k := by omega
      clear hx
      have hkd := hkr.drew
      go_wp2_with fail
      go_region
      all_goals go_wp2
      all_goals go_roundw
      all_goals first | exact ⟨k + 1, by omega, by go_num, by first | exact hkr | exact hkd⟩ | (simp [intOf]; omega)
    · obtain rfl : k = cs.length := by omega
      go_wp2
      go_ret
      exact ⟨rfl, hkr⟩
end Go.Proofs.YtobogbjpdagklaaDoor.Dec
