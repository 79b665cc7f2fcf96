/- For all parts that hold together at most 1048576 values and letters MacroReplays answers true, and its argument reads behind the call as it read before; the bound on what comes in is the only condition. -/
import Derived.Test.YtjmkgpagcefbjaaRows
import Derived.Test.YtjmkgpagcefbjaaMacReplays
import Derived.JoinedCond
namespace Go.Proofs.Ytjmkgpagcefbjaa.LawMacroReplays
open Go Go.RowKit Go.Proofs.Ytjmkgpagcefbjaa.Rw Go.Proofs.Ytjmkgpagcefbjaa.Arg Go.Proofs.Ytjmkgpagcefbjaa.Mac Go.Proofs.Ytjmkgpagcefbjaa.Bulk Go.ChangeShapes Go.WideShapes Go.ChangeAt

theorem own : ownKnob Try.prog.godebug = none := by kernel_rfl
theorem laidOut : laidOutB Try.prog = true := by kernel_rfl
set_option maxRecDepth 100000 in
theorem lifted (os : Os) (started : os.Started) (H : Type) (enc : TypeId × Value → H) (F : Stop.Interp) :
    ReturnsInHanded {} Try.checked os 4 .any ((Rows.OpenSpec.upto Rows.macroReplaysSpec).pre6 enc Try.prog Try.f4 Rows.macroReplaysUptoRow.domain false) (((Rows.OpenSpec.upto Rows.macroReplaysSpec).at F).post enc Try.prog Try.f4 false true false false) := by
  refine returnsInHanded_of_cond (C := Try.checked) (s := Rows.OpenSpec.upto Rows.macroReplaysSpec) (k := Rows.uptoSmall) rfl own started (by kernel_rfl) Try.func4
    (OpenSpec.witness (enc := enc) (C := Try.checked) (s := Rows.OpenSpec.upto Rows.macroReplaysSpec) (k := Rows.uptoSmall) rfl false ⟨#[], #[.slice none 0 0], []⟩ 8 (by kernel_rfl) (by kernel_rfl) (by kernel_rfl)
      (x := ([.nil], [], [])) (by kernel_rfl) rfl (by kernel_rfl)) ?_
  intro W base args ds gs before hval0 hW _ hk _
  have hval : ∀ (j : Nat) t v, Try.f4.params[j]? = some t → args[j]? = some v → Value.okWide Try.prog W .any base t v := hval0
  have hW' := hW
  obtain ⟨p, q, hA0, hV, rfl, hfz, hnd⟩ := hW
  have hA : DataW.TrodAll enc Try.prog W 0 (fun _ => true) true Try.f4.params.toList args.toList ds p := hA0
  rw [Try.params4] at hA hval
  obtain ⟨v0, vs0, d0, ds0, p0, q0, hargs, rfl, rfl, h0, r0⟩ := trodAll_cons hA
  obtain ⟨rfl, rfl, rfl⟩ := trodAll_nil r0
  obtain rfl : args = #[v0] := by cases args; simp_all
  obtain ⟨rfl, rfl⟩ := trodVars_none hV
  have k0 := h0
  have lt0 : ∀ x ∈ p0, x.block < W.heap.size := by obtain ⟨m, hm⟩ := k0; exact DataW.trod_lt m _ _ _ hm
  obtain ⟨a0, len0, cap0, rfl⟩ := okWide_slice Try.underlying32 (hval 0 32 v0 rfl rfl)
  obtain ⟨vs, ls, rfl, s0, hp, hl0, hm0, hb⟩ := open_parts Try.underlying32 Try.underlying22 Try.underlying5 (by kernel_rfl) (by kernel_rfl) h0
  have hbd := bound hk
  simp only [List.append_nil, Rows.uptoBulkAll, Nat.add_zero] at hbd
  clear hA0 hval0 hk
  refine (replays_calls W a0 cap0 vs ls s0 hp hl0 (by omega) (by omega)).mono fun e W' ⟨he, hkk⟩ => ?_
  have bel : Below W.heap.size W W' := hkk.below _ (Nat.le_refl _) (by simp)
  subst he
  exact ⟨_, rfl, _, _, _, [], _, [], hW', trodAll_mk1 (shut_bool Try.underlying4 _),
    (trodAll_cons_mk (Below.trod laidOut (by kernel_rfl) (of_decide_eq_true (by kernel_rfl)) k0 bel lt0) trodAll_mk0),
    rfl, bel.frame _, fun h => by cases h⟩
theorem proved : Rows.MacroReplaysUptoSaid :=
  OpenClaim.holds_of_cond 4 Try.f4 rfl rfl rfl rfl rfl rfl rfl ⟨rfl, rfl, rfl, rfl, rfl⟩ rfl rfl rfl rfl rfl (by kernel_rfl) Try.func4 (by kernel_rfl)
    (of_decide_eq_true (by kernel_rfl)) (by unfold Func.isWrapper; first | (rw [if_pos (by decide +kernel)]; kernel_rfl) | (rw [if_neg (by decide +kernel)]; exact ⟨rfl, rfl⟩))
    (fun os started H enc _ F => lifted os started H enc F)
end Go.Proofs.Ytjmkgpagcefbjaa.LawMacroReplays
namespace Go.Proofs.Ytjmkgpagcefbjaa
/-- The statement, proved. -/
theorem macroReplaysUpto_holds : Rows.MacroReplaysUptoSaid := LawMacroReplays.proved
#print axioms macroReplaysUpto_holds
end Go.Proofs.Ytjmkgpagcefbjaa
