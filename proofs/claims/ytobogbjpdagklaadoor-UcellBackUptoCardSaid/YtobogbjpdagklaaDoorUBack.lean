/- lanyardlaw01.UcellBack: what it comes to. -/
import Derived.Test.YtobogbjpdagklaaDoorUBytes
import Derived.Test.YtobogbjpdagklaaDoorLive
import Derived.Test.YtobogbjpdagklaaDoorRefKinds
namespace Go.Proofs.YtobogbjpdagklaaDoor.Uc
open Go Go.RowKit Go.Proofs.YtobogbjpdagklaaDoor.Rw Go.Proofs.YtobogbjpdagklaaDoor.Dec Go.Proofs.YtobogbjpdagklaaDoor.Kinds

theorem filter_take (l : List Int) (k : Nat) (h : k < l.length) : (l.take (k + 1)).filter valid = (l.take k).filter valid ++ (if valid l[k] = true then [l[k]] else []) := by
  rw [List.take_succ_eq_append_getElem h, List.filter_append]
  congr 1
  by_cases hv : valid l[k] = true <;> simp [hv]
theorem enc_all_len (l : List Int) : (encAll l).length ≤ 4 * l.length := by
  induction l with
  | nil => simp [encAll]
  | cons r l ih =>
    have := enc_len r
    rw [show encAll (r :: l) = Lib.encodeRune r ++ encAll l by simp [encAll], List.length_append, List.length_cons]
    omega
set_option maxRecDepth 100000 in
set_option maxHeartbeats 2000000 in
theorem back_all (w : World) (hU : UTabs w) (hT : Tabs w) (A : Option Addr) (c : Nat) (l : List Int) (Ab : Option Addr) (cb : Nat) (b : List UInt8) (hl : Src w A (ns .i32 l)) (hn : l.length ≤ 1048576) (hr : ∀ r ∈ l, -2147483648 ≤ r ∧ r ≤ 2147483647)
    (hb : Src w Ab (bs b)) (hnb : b.length ≤ 1048576) (hcb : b.length ≤ cb) (hmb : cb ≤ 9223372036854775807) :
    Calls Tryd.prog 10 #[.slice A l.length c, .slice Ab b.length cb] w fun e w' => e = .returned (.bool true) ∧ Keeps [] w w' := by
  have HL := Lib.hid (fun w' (k : Keeps [] w w') => live01_calls w' (UTabs_keeps hU k) (hT.keeps k))
  have HU := Lib.hid hU
  have Hr := Lib.hid hr
  have Hl := Lib.hid hl
  have Hb := Lib.hid hb
  clear hU hT hr hl hb
  go_enter Tryd.func10, Tryd.ntmps10
  go_wp2_with fail
  go_loopw [5, 11] (fun v i wr => ∃ (k : Nat) (g : List Int), k ≤ l.length ∧ i = .int .i64 k ∧ Keeps [] w wr ∧ Row wr 21 1 v g.length (ns .i32 g) ∧ (∀ j, j ∈ fp v → w.heap.size ≤ j) ∧ Hid (g = (l.take k).filter valid) ∧ g.length ≤ k) (fun _ i _ => l.length - (intOf i).toNat)
  case atStart => exact ⟨0, [], by omega, rfl, Keeps.refl _ _, Row.nil _ _ _ _, fun j hj => by simp [fp] at hj, rfl, by simp⟩
  case round =>
    obtain ⟨k, g, hk, rfl, hkr, hrow, hfp, Hg, hgk⟩ := hrel
    obtain ⟨Ag, cg, rfl, _, _⟩ := hrow.slice
    have Hfp := Lib.hid hfp; clear hfp
    obtain ⟨w0, rfl⟩ : ∃ w0, w0 = wr := ⟨_, rfl⟩
    by_cases hlt : k < l.length
    · obtain ⟨ad, rfl, hc⟩ := (Hl.out.keeps hkr (by simp)) k (.int .i32 l[k]) (by simp [ns, hlt])
      obtain ⟨r0, r1⟩ := Hr.out _ (List.getElem_mem hlt)
      have hft := filter_take l k hlt
      generalize l[k] = r at *
      have hV := RfRune_calls w0 r r0 r1
      cases hv : valid r with
      | true =>
        rw [hv] at hV hft
        have hft' : g ++ [r] = (l.take (k + 1)).filter valid := by rw [hft, Hg.out]; rfl
        have Hft := Lib.hid hft'; clear hft hft' hv
        go_wp2_with (first
          | (go_at_call 18; refine hV.mono ?_; rintro e w' ⟨rfl, rfl⟩)
          | (at_builtin; refine wpList_append_row rfl _ _ 22 rfl elR _ _ _ rfl (hrow.keeps ((Keeps.refl [] _).alloc _) (fun _ _ => by simp)) _ 1 1 [.int .i32 r] rfl rfl (Src.new _ _ _) (by intro u hu; simp at hu; subst hu; rfl) (by unfold maxLen; omega) (by omega) ?_; intro A3 c3 w3 hrow3 hk3 hf3))
        have hz0 := hkr.size
        have hn3 : Keeps [] w w3 := (hkr.alloc (.cells #[.int .i32 r] 21)).then hk3 (fun i hi => .inr (Hfp.out i hi))
        have hfin : ∀ j, j ∈ fp (.slice A3 (g.length + 1) c3) → w.heap.size ≤ j := fun j hj => by
          rcases hf3 j hj with h | h
          · exact Hfp.out j h
          · simp at h; omega
        go_roundw
        case rel => exact ⟨k + 1, g ++ [r], by omega, by go_num, hn3, by rw [ns_append, List.length_append]; exact hrow3, hfin, Hft.out, by rw [List.length_append]; simp; omega⟩
        case measure => simp [intOf]; omega
      | false =>
        rw [hv] at hV hft
        have hft' : g = (l.take (k + 1)).filter valid := by rw [hft, Hg.out]; simp
        have Hft := Lib.hid hft'; clear hft hft' hv
        go_wp2_with (go_at_call 18; refine hV.mono ?_; rintro e w' ⟨rfl, rfl⟩)
        go_roundw
        case rel => exact ⟨k + 1, g, by omega, by go_num, hkr, hrow, Hfp.out, Hft.out, by omega⟩
        case measure => simp [intOf]; omega
    · obtain rfl : k = l.length := by omega
      have hgv : ∀ r ∈ g, valid r = true := fun r h => by
        rw [Hg.out] at h
        exact (List.mem_filter.1 h).2
      obtain ⟨_, _, hse, hgl, hgm, hgs, _⟩ := hrow.src
      cases hse
      have He1 := Lib.hid (runes_enc g hgv)
      have hel := enc_all_len g
      have Hg2 : Hid (∀ r ∈ g, -2147483648 ≤ r ∧ r ≤ 2147483647) := fun r h => valid_range (hgv r h)
      clear hgv Hg
      go_wp2_with fail
      refine (Runes_calls w0 (UTabs_keeps HU.out hkr) Ab cb b (Hb.out.keeps hkr (by simp)) hcb hmb (by omega)).mono ?_
      have Hs1 := Lib.hid (runes_enc (runesOf b) (runes_valid b))
      have Hs2 : Hid (∀ r ∈ runesOf b, -2147483648 ≤ r ∧ r ≤ 2147483647) := fun r h => valid_range (runes_valid b r h)
      have hlen := runesOf_length b
      have hes := enc_all_len (runesOf b)
      generalize runesOf b = sm at *
      rintro e w1 ⟨A1, c1, rfl, hrow1, hk1, hf1⟩
      have k1 := hkr.trans hk1
      obtain ⟨_, _, hse, _, _, hss, _⟩ := hrow1.src
      cases hse
      have Hgs := Lib.hid hgs; clear hgs
      have Hss := Lib.hid hss; clear hss
      go_wp2_with fail
      refine (HL.out _ k1).mono ?_
      rintro e w2 ⟨rfl, hk2⟩
      have k2 := k1.trans hk2
      have hg2 := Hgs.out.keeps (hk1.trans hk2) (fun _ _ _ => by simp)
      have hs2 := Hss.out.keeps hk2 (fun _ _ _ => by simp)
      go_wp2_with fail
      refine (Bytes_calls w2 Ag cg g hg2 (by omega) Hg2.out).mono ?_
      rintro e w3 ⟨v3, rfl, ho3, hk3⟩
      obtain ⟨A3, c3, rfl, h31, h32, hs3, _⟩ := own_src ho3
      have k3 := k2.trans hk3
      unfold maxLen at h32
      go_wp2_with fail
      refine (Runes_calls w3 (UTabs_keeps HU.out k3) A3 c3 (encAll g) hs3 h31 (by omega) (by omega)).mono ?_
      rw [He1.out]
      rintro e w4 ⟨A4, c4, rfl, hrow4, hk4, _⟩
      have k4 := k3.trans hk4
      obtain ⟨_, _, hse, _, _, hs4, _⟩ := hrow4.src
      cases hse
      have hg4 := hg2.keeps (hk3.trans hk4) (fun _ _ _ => by simp)
      go_wp2_with fail
      refine (Equal_calls w4 A4 Ag g.length g.length c4 cg g g hs4 hg4 rfl rfl (by unfold maxLen; omega) (by unfold maxLen; omega)).mono ?_
      rintro e w5 ⟨he, hk5⟩
      obtain rfl : e = .returned (.bool true) := by rw [he]; simp
      clear he
      have k5 := k4.trans hk5
      have hs5 := hs2.keeps ((hk3.trans hk4).trans hk5) (fun _ _ _ => by simp)
      clear hs3 hs4 hrow4 ho3
      go_wp2_with fail
      refine (Bytes_calls w5 A1 c1 sm hs5 (by omega) Hs2.out).mono ?_
      rintro e w6 ⟨v6, rfl, ho6, hk6⟩
      obtain ⟨A6, c6, rfl, h61, h62, hs6, _⟩ := own_src ho6
      have k6 := k5.trans hk6
      unfold maxLen at h62
      go_wp2_with fail
      refine (Runes_calls w6 (UTabs_keeps HU.out k6) A6 c6 (encAll sm) hs6 h61 (by omega) (by omega)).mono ?_
      rw [Hs1.out]
      rintro e w7 ⟨A7, c7, rfl, hrow7, hk7, _⟩
      have k7 := k6.trans hk7
      obtain ⟨_, _, hse, _, _, hs7, _⟩ := hrow7.src
      cases hse
      have hs8 := hs5.keeps (hk6.trans hk7) (fun _ _ _ => by simp)
      go_wp2_with fail
      refine (Equal_calls w7 A7 A1 sm.length sm.length c7 c1 sm sm hs7 hs8 rfl rfl (by unfold maxLen; omega) (by unfold maxLen; omega)).mono ?_
      rintro e w8 ⟨he, hk8⟩
      obtain rfl : e = .returned (.bool true) := by rw [he]; simp
      clear he
      have k8 := k7.trans hk8
      have hle : (sm.length : Int) ≤ (b.length : Int) := by omega
      go_wp2
      go_ret
      exact ⟨rfl, k8⟩
end Go.Proofs.YtobogbjpdagklaaDoor.Uc
