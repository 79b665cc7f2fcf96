/- ucell.Cells's closure; Cells at one control; lanyardlaw01.live. -/
import Derived.Test.YtobogbjpdagklaaDoorDecC
import Derived.Test.YtobogbjpdagklaaDoorEqR
import Derived.Test.YtobogbjpdagklaaDoorKinds
namespace Go.Proofs.YtobogbjpdagklaaDoor.Dec
open Go Go.RowKit Go.Proofs.YtobogbjpdagklaaDoor.Rw

theorem elC : El Tryd.prog 23 26 (.agg #[.string ⟨#[]⟩, .int .i64 0, .int .i64 0]) 3 32 := ⟨by kernel_rfl, by kernel_rfl, rfl, by decide⟩
/-- Places in memory: three cells each. -/
structure CellV where
  text : ByteArray
  width : Int
def cvs (cs : List CellV) : List Value := cs.flatMap fun c => [.string c.text, .int .i64 c.width, .int .i64 0]
theorem cvs_length (cs : List CellV) : (cvs cs).length = cs.length * 3 := by
  induction cs with
  | nil => rfl
  | cons c cs ih => simp only [cvs, List.flatMap_cons, List.length_append, List.length_cons] at ih ⊢; rw [ih]; simp; omega
theorem cvs_append (a b : List CellV) : cvs (a ++ b) = cvs a ++ cvs b := by simp [cvs]
/-- The list that the closure writes to, at block ob. -/
def OutAt (w : World) (ob : Nat) (cs : List CellV) (F : List Nat) : Prop := ∃ v, w.heap[ob]? = some (.cells #[v] 23 (0, 0)) ∧ Row w 26 3 v cs.length (cvs cs) ∧ F = ob :: fp v
set_option maxRecDepth 100000 in
theorem One_calls (w : World) (ob : Nat) (cs : List CellV) (F : List Nat) (h : OutAt w ob cs F) (A : Option Addr) (c : Nat) (ts : List ByteArray) (hs : Src w A (ts.map .string)) (hA : ∀ a, A = some a → 0 < (ts.map Value.string).length → a.block ∉ F) (hb : (cs.length + ts.length) * 32 ≤ 140737488355328) :
    Calls Tryd.prog 40 #[.slice A ts.length c, .pointer (some ⟨ob, 0, none⟩)] w fun e w' => e = .returned (.tuple #[]) ∧ Keeps F w w' ∧ ∃ F', OutAt w' ob (cs ++ ts.map fun t => ⟨t, 1⟩) F' ∧ ∀ k, k ∈ F' → k ∈ F ∨ w.heap.size ≤ k := by
  have Hs := Lib.hid hs; clear hs
  have HA := Lib.hid hA; clear hA
  have hF := h
  have Hb := Lib.hid hb
  have hob : ob ∈ F := by obtain ⟨v, _, _, rfl⟩ := h; simp
  have hobs : ob < w.heap.size := by obtain ⟨v, h1, _, _⟩ := h; exact blk_lt h1
  clear h
  go_enter Tryd.func40, Tryd.ntmps40
  go_wp2_with fail
  go_loopw [7] (fun i wr => ∃ k : Nat, k ≤ ts.length ∧ i = .int .i64 k ∧ Keeps F w wr ∧ ∃ F', OutAt wr ob (cs ++ (ts.take k).map fun t => ⟨t, 1⟩) F' ∧ ∀ k, k ∈ F' → k ∈ F ∨ w.heap.size ≤ k) (fun i _ => ts.length - (intOf i).toNat)
  case atStart => exact ⟨0, by omega, rfl, Keeps.refl _ _, F, by simpa using hF, fun k hk => .inl hk⟩
  case round =>
    obtain ⟨k, hk, rfl, hkr, F', hO, hF'⟩ := hrel
    clear hF
    have HF' := Lib.hid hF'; clear hF'
    by_cases hlt : k < ts.length
    · obtain ⟨t, ht⟩ : ∃ t, t = ts[k] := ⟨_, rfl⟩
      obtain ⟨ad, rfl, hc⟩ := (Hs.out.keeps hkr HA.out) k (.string t) (by simp [ht, hlt])
      have hO0 := hO
      obtain ⟨v, hv, hrow, rfl⟩ := hO
      have hlen : (cs ++ (ts.take k).map fun t => (⟨t, 1⟩ : CellV)).length = cs.length + k := by simp; omega
      rw [hlen] at hrow
      obtain ⟨B, d, rfl, _, _⟩ := hrow.slice
      have o0 := blk_cell hv 0
      have hobv : ob ∉ fp (.slice B (cs.length + k) d) := fun hm => by
        obtain ⟨cur, hc⟩ := hrow.fp_type ob hm
        exact blk_ne hv hc (by decide) rfl
      have Ht := Lib.hid ht; clear ht
      have Hlen := Lib.hid hlen; clear hlen hO0
      obtain ⟨w0, rfl⟩ : ∃ w0, w0 = wr := ⟨_, rfl⟩
      go_wp2_with (at_builtin; refine wpList_append_row rfl _ _ 23 rfl elC _ _ _ rfl (hrow.keeps ((Keeps.refl [] _).alloc _) (fun _ _ => by simp)) _ 1 1 [.string t, .int .i64 1, .int .i64 0] rfl rfl (Src.new _ _ _) (by intro u hu; simp at hu; rcases hu with rfl | rfl | rfl <;> rfl) (by unfold maxLen; omega) (by omega) ?_; intro A3 c3 w3 hrow3 hk3 hf3; have hb3 := hk3.blk (blk_alloc hv _) hobv; have f3 := blk_frozen hb3 0; have e3 := blk_cell hb3 0)
      have hz0 := hkr.size
      have hz3 := hk3.size
      have hobf : ob ∉ fp (.slice A3 (cs.length + k + 1) c3) := fun hm => by
        rcases hf3 ob hm with h | h
        · exact hobv h
        · simp at h; omega
      go_roundw
      case rel =>
        refine ⟨k + 1, by omega, by go_num, ?_, ob :: fp (.slice A3 (cs.length + k + 1) c3), ⟨_, blk_set hb3 0 _, ?_, rfl⟩, ?_⟩
        · exact ((hkr.alloc (.cells #[.string t, .int .i64 1, .int .i64 0] 26)).then hk3 (fun i hi => HF'.out i (List.mem_cons_of_mem _ hi))).setCell _ _ (.inl hob)
        · have e1 : (cs ++ (ts.take (k + 1)).map fun t => (⟨t, 1⟩ : CellV)) = (cs ++ (ts.take k).map fun t => (⟨t, 1⟩ : CellV)) ++ [⟨t, 1⟩] := by
            rw [List.take_succ_eq_append_getElem hlt, List.map_append, ← List.append_assoc, ← Ht.out]; rfl
          rw [e1, cvs_append, List.length_append, Hlen.out]
          exact hrow3.far _ _ hobf
        · intro i hi
          rcases List.mem_cons.1 hi with rfl | hi
          · exact .inl hob
          · rcases hf3 i hi with h | h
            · exact HF'.out i (List.mem_cons_of_mem _ h)
            · simp at h; exact .inr (by omega)
      case measure => simp [intOf]; omega
    · obtain rfl : k = ts.length := by omega
      go_wp2
      refine bodyPost_end (v := .tuple #[]) (results_none Tryd.results40 _ _ _) rfl ⟨rfl, hkr, F', ?_, HF'.out⟩
      rwa [List.take_of_length_le (Nat.le_refl _)] at hO
end Go.Proofs.YtobogbjpdagklaaDoor.Dec
