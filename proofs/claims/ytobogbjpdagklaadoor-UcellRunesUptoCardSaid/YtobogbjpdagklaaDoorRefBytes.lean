/- lanyardref01.Bytes. -/
import Derived.Test.YtobogbjpdagklaaDoorRefForm
namespace Go.Proofs.YtobogbjpdagklaaDoor.Dec
open Go Go.RowKit Go.Proofs.YtobogbjpdagklaaDoor.Rw

set_option maxRecDepth 100000 in
set_option maxHeartbeats 2000000 in
theorem RfBytes_calls (w : World) (A : Option Addr) (c : Nat) (l : List Int) (hs : Src w A (ns .i32 l)) (hn : l.length ≤ 17592186044416) (hr : ∀ r ∈ l, -2147483648 ≤ r ∧ r ≤ 2147483647) :
    Calls Tryd.prog 39 #[.slice A l.length c] w fun e w' => MadeB w w' e (encAll l) := by
  have Hs := Lib.hid hs; clear hs
  have Hr := Lib.hid hr; clear hr
  go_enter Tryd.func39, Tryd.ntmps39
  go_wp2_with fail
  go_loopw [3, 4] (fun v i wr => ∃ k : Nat, k ≤ l.length ∧ i = .int .i64 k ∧ Keeps [] w wr ∧ Row wr 5 1 v (encAll (l.take k)).length (bs (encAll (l.take k))) ∧ (∀ j, j ∈ fp v → w.heap.size ≤ j) ∧ (encAll (l.take k)).length ≤ 4 * k) (fun _ i _ => l.length - (intOf i).toNat)
  case atStart => exact ⟨0, by omega, rfl, Keeps.refl _ _, Row.nil _ _ _ _, fun k hk => by simp [fp] at hk, by simp [encAll]⟩
  case round =>
    obtain ⟨k, hk, rfl, hkr, hrow, hfp, hle⟩ := hrel
    by_cases hlt : k < l.length
    · obtain ⟨ad, rfl, hc⟩ := (Hs.out.keeps hkr (by simp)) k (.int .i32 l[k]) (by simp [ns, hlt])
      obtain ⟨r0, r1⟩ := Hr.out _ (List.getElem_mem hlt)
      have htk : encAll (l.take (k + 1)) = encAll (l.take k) ++ Lib.encodeRune l[k] := by
        unfold encAll; rw [List.take_succ_eq_append_getElem hlt, List.flatMap_append, List.flatMap_cons, List.flatMap_nil, List.append_nil]
      generalize l[k] = r at *
      have Htk := Lib.hid htk; clear htk
      have hel := enc_len r
      have hz := hkr.size
      have k0 : (0 : Int) ≤ k := by omega
      have hF := Form_calls wr r r0 r1
      generalize encAll (l.take k) = xs at *
      generalize Lib.encodeRune r = ys at *
      have Hfp := Lib.hid hfp; clear hfp
      obtain ⟨w0, rfl⟩ : ∃ w0, w0 = wr := ⟨_, rfl⟩
      go_wp2_with (first
        | (go_at_call 44; refine hF.mono ?_; rintro e w1 ⟨A1, c1, rfl, hrow1, hk1, hf1⟩; obtain ⟨A2, c2, he2, h21, h22, hs2, hd2⟩ := hrow1.src; cases he2)
        | (at_builtin; refine wpList_append_row rfl _ _ 39 rfl elB _ _ _ rfl (hrow.keeps hk1 (fun _ _ => by simp)) _ ys.length c1 (bs ys) rfl (by rw [bs_length, Nat.mul_one]) hs2 (bs_one ys) (by unfold maxLen; omega) (by omega) ?_; intro A3 c3 w3 hrow3 hk3 hf3))
      have hz1 := hk1.size
      have hn3 : Keeps [] w w3 := (hkr.trans hk1).then hk3 (fun i hi => .inr (Hfp.out i hi))
      have hfin : ∀ j, j ∈ fp (.slice A3 (xs.length + ys.length) c3) → w.heap.size ≤ j := fun j hj => by
        rcases hf3 j hj with h | h
        · exact Hfp.out j h
        · omega
      go_roundw
      case rel =>
        refine ⟨k + 1, by omega, by go_num, hn3, ?_, hfin, ?_⟩
        · rw [Htk.out, bs_append, List.length_append]; exact hrow3
        · rw [Htk.out, List.length_append]; omega
      case measure => simp [intOf]; omega
    · obtain rfl : k = l.length := by omega
      rw [List.take_of_length_le (Nat.le_refl _)] at hrow
      obtain ⟨A2, c2, rfl, h1, h2⟩ := hrow.slice
      go_wp2
      go_ret
      exact ⟨A2, c2, rfl, hrow, hkr, hfp⟩
end Go.Proofs.YtobogbjpdagklaaDoor.Dec
