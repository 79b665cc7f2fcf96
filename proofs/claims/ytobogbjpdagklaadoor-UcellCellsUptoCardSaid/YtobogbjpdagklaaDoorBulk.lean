/- What the bound on an input's bulk gives; a slice of slices of bytes that came in. -/
import Derived.Test.YtobogbjpdagklaaDoorRows
import Derived.Test.YtobogbjpdagklaaDoorArg
import Derived.Deep.Slices
namespace Go.Proofs.YtobogbjpdagklaaDoor.Bulk
open Go Go.RowKit Go.Proofs.YtobogbjpdagklaaDoor.Rw Go.Proofs.YtobogbjpdagklaaDoor.Arg Go.Deep Go.ChangeShapes Go.WideShapes Go.ChangeAt

theorem one_le {H : Type} (d : DataW H) : 1 ≤ Rows.uptoBulk d := by
  cases d with
  | lit l => cases l <;> simp [Rows.uptoBulk]
  | nil => simp [Rows.uptoBulk]
  | ptr d => simp [Rows.uptoBulk]
  | slice elems spare => simp [Rows.uptoBulk]
  | agg parts => simp [Rows.uptoBulk]
  | iface t d => simp [Rows.uptoBulk]
  | map entries => simp [Rows.uptoBulk]
  | held h => simp [Rows.uptoBulk]
theorem part_le {H : Type} {d : DataW H} {l : List (DataW H)} (h : d ∈ l) : Rows.uptoBulk d ≤ Rows.uptoBulkAll l := by
  induction l with
  | nil => cases h
  | cons x r ih =>
    simp only [Rows.uptoBulkAll]
    cases List.mem_cons.1 h with
    | inl e => subst e; omega
    | inr e => have := ih e; omega
theorem length_le {H : Type} (l : List (DataW H)) : l.length ≤ Rows.uptoBulkAll l := by
  induction l with
  | nil => simp
  | cons x r ih => have := one_le x; simp only [Rows.uptoBulkAll, List.length_cons]; omega
theorem slice_len {H : Type} (elems spare : List (DataW H)) : elems.length + 1 ≤ Rows.uptoBulk (.slice elems spare) := by
  have h1 := length_le elems
  simp only [Rows.uptoBulk]
  omega
theorem slice_all {H : Type} (elems spare : List (DataW H)) : Rows.uptoBulkAll elems + 1 ≤ Rows.uptoBulk (.slice elems spare) := by
  simp only [Rows.uptoBulk]
  omega
theorem bound {H : Type} {l : List (DataW H)} (hk : Rows.uptoSmall H l = true) : Rows.uptoBulkAll l ≤ 1048576 := of_decide_eq_true hk

/-- Slices of bytes that are read. -/
def Parts (w : World) (vs : List Value) (ls : List (List UInt8)) : Prop :=
  vs.length = ls.length ∧ ∀ (i : Nat) (v : Value) (l : List UInt8), vs[i]? = some v → ls[i]? = some l → ∃ p c, v = .slice p l.length c ∧ l.length ≤ c ∧ c ≤ maxLen ∧ Src w p (bs l)

theorem sum_bulk {H : Type} (Ds : List (DataW H)) (ls : List (List UInt8)) (hl : ls.length = Ds.length) (h : ∀ (i : Nat) (l : List UInt8) (d : DataW H), ls[i]? = some l → Ds[i]? = some d → l.length + 1 ≤ Rows.uptoBulk d) :
    ls.flatten.length + ls.length ≤ Rows.uptoBulkAll Ds := by
  induction ls generalizing Ds with
  | nil => simp
  | cons l ls ih =>
    cases Ds with
    | nil => simp at hl
    | cons d Ds =>
      have h0 := h 0 l d rfl rfl
      have h1 := ih Ds (by simpa using hl) (fun i l' d' h1 h2 => h (i + 1) l' d' (by simpa using h1) (by simpa using h2))
      simp only [List.flatten_cons, List.length_append, List.length_cons, Rows.uptoBulkAll]
      omega

section
variable {H : Type} {enc : TypeId × Value → H} {P : Program} {W : World} {base : Nat} {spare : Nat → Bool} {held : Bool} {t e q : TypeId} {a : Option Addr} {len cap : Nat} {d : DataW H} {ps : List MemPlace}
theorem open_parts (ht : P.underlying t = some (.slice e)) (he : P.underlying e = some (.slice q)) (hq : P.underlying q = some (.int .u8)) (ce : P.cellsOf e = 1) (cq : P.cellsOf q = 1) (h : DataW.Trod enc P W base spare held t (.slice a len cap) d ps) :
    ∃ (vs : List Value) (ls : List (List UInt8)), ls.length = len ∧ Src W a vs ∧ Parts W vs ls ∧ len ≤ cap ∧ cap ≤ maxLen ∧ ls.flatten.length + ls.length ≤ Rows.uptoBulk d := by
  obtain ⟨fuel, hf⟩ := h
  rcases open_slice1 ht ce hf with ⟨hcs, _⟩ | ⟨x, l, c, m, n, V, D, Pl, hcs, _, hl, hm, hmm, hx, hi⟩
  · simp [Value.cells] at hcs
    obtain ⟨rfl, rfl, rfl⟩ := hcs
    exact ⟨[], [], rfl, Src.nil _ _, ⟨rfl, fun i v l h => by simp at h⟩, Nat.le_refl _, by unfold maxLen; omega, by simp⟩
  · simp [Value.cells] at hcs
    obtain ⟨rfl, rfl, rfl⟩ := hcs
    have hlm : len ≤ m := by rw [hmm]; split <;> omega
    have hd := (Prod.mk.inj hx).1
    have each : ∀ i, i < len → ∃ (p : Option Addr) (cp : Nat) (l : List UInt8), V i = .slice p l.length cp ∧ l.length ≤ cp ∧ cp ≤ maxLen ∧ Src W p (bs l) ∧ l.length + 1 ≤ Rows.uptoBulk (D i) := by
      intro i hil
      obtain ⟨_, htr⟩ := hi i (by omega)
      obtain ⟨a', len', cap', zs, hv, hzl, hs, h1, h2, hw, hdd⟩ := open_nums_data he hq cq htr
      refine ⟨a', cap', zs.map fun n => UInt8.ofNat n.toNat, ?_, by simpa [hzl] using h1, h2, by rw [bytes_of_nums hw]; exact hs, ?_⟩
      · simp only [List.cons.injEq, and_true] at hv
        rw [hv, List.length_map, hzl]
      · rw [List.length_map]
        rcases hdd with ⟨hd0, hz0⟩ | ⟨el, sp, hd0, hel⟩
        · rw [hz0, hd0]; simp [Rows.uptoBulk]
        · rw [hd0, ← hel]; exact slice_len el sp
    have pick : ∃ ls : List (List UInt8), ls.length = len ∧ ∀ (i : Nat) (l : List UInt8), ls[i]? = some l → ∃ p cp, V i = .slice p l.length cp ∧ l.length ≤ cp ∧ cp ≤ maxLen ∧ Src W p (bs l) ∧ l.length + 1 ≤ Rows.uptoBulk (D i) := by
      clear hx hd hi hmm hlm hf hl
      induction len with
      | zero => exact ⟨[], rfl, fun i l h => by simp at h⟩
      | succ len ih =>
        obtain ⟨ls, hl, hls⟩ := ih (fun i hi => each i (by omega))
        obtain ⟨p, cp, l, h1⟩ := each len (by omega)
        refine ⟨ls ++ [l], by simp [hl], fun i l' hl' => ?_⟩
        by_cases hil : i < len
        · rw [List.getElem?_append_left (by omega)] at hl'
          exact hls i l' hl'
        · have : i = len := by
            have := (List.getElem?_eq_some_iff.1 hl').1
            simp at this; omega
          subst this
          rw [List.getElem?_append_right (by omega), hl, Nat.sub_self] at hl'
          simp at hl'
          subst hl'
          exact ⟨p, cp, h1⟩
    obtain ⟨ls, hll, hls⟩ := pick
    refine ⟨(List.range len).map V, ls, hll, ?_, ⟨by simp [hll], ?_⟩, hl, hm, ?_⟩
    · intro j u hj
      have hjl : j < len := by have := (List.getElem?_eq_some_iff.1 hj).1; simpa using this
      simp [hjl] at hj
      subst hj
      exact ⟨x, rfl, (hi j (by omega)).1⟩
    · intro i v l h1 h2
      have hil : i < len := by have := (List.getElem?_eq_some_iff.1 h1).1; simpa using this
      simp [hil] at h1
      subst h1
      obtain ⟨p, cp, hv, ha, hb, hc, _⟩ := hls i l h2
      exact ⟨p, cp, hv, ha, hb, hc⟩
    · rw [hd]
      have h1 := sum_bulk ((List.range len).map D) ls (by simp [hll]) (fun i l dd h1 h2 => by
        have hil : i < len := by have := (List.getElem?_eq_some_iff.1 h2).1; simpa using this
        simp [hil] at h2
        subst h2
        obtain ⟨_, _, _, _, _, _, hb⟩ := hls i l h1
        exact hb)
      have h2 := slice_all ((List.range len).map D) ((List.range (m - len)).map fun j => D (len + j))
      omega
end
end Go.Proofs.YtobogbjpdagklaaDoor.Bulk
