/- lanyardlaw01.UcellStream: what it comes to. -/
import Derived.Test.YtobogbjpdagklaaDoorDecD
import Derived.Test.YtobogbjpdagklaaDoorBulk
namespace Go.Proofs.YtobogbjpdagklaaDoor.Uc
open Go Go.RowKit Go.Proofs.YtobogbjpdagklaaDoor.Rw Go.Proofs.YtobogbjpdagklaaDoor.Dec Go.Proofs.YtobogbjpdagklaaDoor.Kinds Go.Proofs.YtobogbjpdagklaaDoor.Bulk

theorem flatten_take (ls : List (List UInt8)) (k : Nat) (h : k < ls.length) : (ls.take (k + 1)).flatten = (ls.take k).flatten ++ ls[k] := by
  rw [List.take_succ_eq_append_getElem h, List.flatten_append]
  simp
theorem flatten_take_le (ls : List (List UInt8)) (k : Nat) : (ls.take k).flatten.length ≤ ls.flatten.length := by
  have : ls.flatten = (ls.take k).flatten ++ (ls.drop k).flatten := by rw [← List.flatten_append, List.take_append_drop]
  rw [this, List.length_append]; omega
/-- The loop's relation. -/
def Streams (w : World) (b : Nat) (ls : List (List UInt8)) (va vg i : Value) (wr : World) : Prop :=
  ∃ (k : Nat) (all : List UInt8) (got : List Int) (h : List UInt8) (F : List Nat), k ≤ ls.length ∧ i = .int .i64 k ∧ all = (ls.take k).flatten ∧ Row wr 5 1 va all.length (bs all) ∧ Row wr 21 1 vg got.length (ns .i32 got) ∧ DAt wr b F h ∧ Keeps [] w wr ∧
    (∀ j, j ∈ fp va → w.heap.size ≤ j ∧ j ∉ F) ∧ (∀ j, j ∈ fp vg → w.heap.size ≤ j) ∧ (∀ j, j ∈ F → w.heap.size ≤ j) ∧ (∀ y, got ++ runesOf (h ++ y) = runesOf (all ++ y)) ∧ got.length + h.length ≤ all.length ∧ h.length ≤ 3
theorem vsRune {w : World} {b : Nat} {F : List Nat} {h : List UInt8} {v : Value} {n : Nat} {xs : List Value} (hD : DAt w b F h) (hr : Row w 21 1 v n xs) : ∀ i, i ∈ fp v → i ∉ F := by
  obtain ⟨bv, hD, rfl⟩ := hD
  intro i hi hm
  obtain ⟨cur2, hc2⟩ := hr.fp_type i hi
  rcases List.mem_cons.1 hm with rfl | hm
  · exact blk_ne hD.blk hc2 (by decide) rfl
  · obtain ⟨cur, hc1⟩ := hD.row.fp_type i hm
    exact blk_ne hc1 hc2 (by decide) rfl
set_option maxRecDepth 100000 in
set_option maxHeartbeats 2000000 in
theorem stream_all (w : World) (hU : UTabs w) (hT : Tabs w) (A : Option Addr) (c : Nat) (vs : List Value) (ls : List (List UInt8)) (hs : Src w A vs) (hp : Parts w vs ls) (hb : ls.flatten.length + ls.length ≤ 1048576) :
    Calls Tryd.prog 7 #[.slice A ls.length c] w fun e w' => e = .returned (.bool true) ∧ Keeps [] w w' := by
  have HL := Lib.hid (fun w' (k : Keeps [] w w') => live01_calls w' (UTabs_keeps hU k) (hT.keeps k))
  have hlt := UTabs_lt hU
  have HU := Lib.hid hU
  have Hs := Lib.hid hs
  have Hp := Lib.hid hp
  have Hb := Lib.hid hb
  clear hU hT hs hp
  go_enter Tryd.func7, Tryd.ntmps7
  go_wp2_with fail
  refine (DNew_calls w).mono ?_
  rintro e w1 ⟨rfl, hk1, hD⟩
  obtain ⟨b, hbe⟩ : ∃ b, b = w.heap.size := ⟨_, rfl⟩
  rw [← hbe] at hD ⊢
  have Hbe := Lib.hid hbe; clear hbe
  go_wp2_with fail
  refine (HL.out _ hk1).mono ?_
  rintro e w2 ⟨rfl, hk2⟩
  have hD2 := hD.keeps hk2 (by simp)
  have hk12 := hk1.trans hk2
  clear hD hk1 hk2
  go_wp2_with fail
  go_loopw [4, 5, 17] (fun va vg i wr => Streams w b ls va vg i wr) (fun _ _ i _ => ls.length - (intOf i).toNat)
  case atStart => exact ⟨0, [], [], [], [b], by omega, rfl, rfl, Row.nil _ _ _ _, Row.nil _ _ _ _, hD2, hk12, fun j hj => by simp [fp] at hj, fun j hj => by simp [fp] at hj, fun j hj => by have := Hbe.out; simp at hj; omega, fun y => rfl, by simp, by simp⟩
  case round =>
    clear hD2 hk12
    obtain ⟨k, all, got, h, F, hk, rfl, hall, hra, hrg, hD, hkr, hfa, hfg, hF, hy, hle, h3⟩ := hrel
    obtain ⟨Aa, ca, rfl, _, hca⟩ := hra.slice
    obtain ⟨Ag, cg, rfl, _, _⟩ := hrg.slice
    have Hfa := Lib.hid hfa; clear hfa
    have Hfg := Lib.hid hfg; clear hfg
    have HF := Lib.hid hF; clear hF
    have Hy := Lib.hid hy; clear hy
    have Hall := Lib.hid hall; clear hall
    have hal : all.length ≤ ls.flatten.length := by rw [Hall.out]; exact flatten_take_le ls k
    have hbF : ∀ j, j ∈ F → j ≠ 2 ∧ j ≠ 3 := fun j hj => by have := HF.out j hj; omega
    have HbF := Lib.hid hbF; clear hbF
    obtain ⟨w0, rfl⟩ : ∃ w0, w0 = wr := ⟨_, rfl⟩
    by_cases hlt2 : k < ls.length
    · have hkv : k < vs.length := by have := Hp.out.1; omega
      obtain ⟨p, cp, hv, hcp1, hcp2, hsp⟩ := Hp.out.2 k vs[k] ls[k] (List.getElem?_eq_getElem hkv) (List.getElem?_eq_getElem hlt2)
      obtain ⟨ad, hA, hc⟩ := (Hs.out.keeps hkr (fun _ _ _ => by simp)) k vs[k] (List.getElem?_eq_getElem hkv)
      rw [hv] at hc
      have hft := flatten_take ls k hlt2
      have hfl : (ls.take k).flatten.length + ls[k].length ≤ ls.flatten.length := by
        have := flatten_take_le ls (k + 1); rw [hft, List.length_append] at this; exact this
      rw [← Hall.out] at hft hfl
      have hsp0 := hsp.keeps hkr (fun _ _ _ => by simp)
      have hcat : all ++ ls[k] = (ls.take (k + 1)).flatten := hft.symm
      have Hsp := Lib.hid hsp; clear hsp
      generalize ls[k] = x at *
      have Hcat := Lib.hid hcat; clear hcat hft hv
      have Hsp0 := Lib.hid hsp0; clear hsp0
      subst hA
      go_wp2_with (at_builtin; refine wpList_append_row rfl _ _ 39 rfl elB _ _ _ rfl hra _ x.length _ (bs x) rfl (by rw [bs_length, Nat.mul_one]) Hsp0.out (bs_one x) (by unfold maxLen; omega) (by omega) ?_; intro A3 c3 w3 hrow3 hk3 hf3)
      have hD3 := hD.keeps hk3 (fun i hi hm => (Hfa.out i hm).2 hi)
      have hrg3 := hrg.keeps hk3 (fun i hi hm => by
        obtain ⟨cur, hc1⟩ := hra.fp_type i hm
        obtain ⟨cur2, hc2⟩ := hrg.fp_type i hi
        exact blk_ne hc1 hc2 (by decide) rfl)
      have hkr3 : Keeps [] w w3 := hkr.then hk3 (fun i hi => .inr (Hfa.out i hi).1)
      have hz3 := hk3.size
      have hz0 := hkr.size
      have hF3 := hD.lt
      have hfa3 : ∀ j, j ∈ fp (.slice A3 (all.length + x.length) c3) → w.heap.size ≤ j ∧ j ∉ F := fun j hj => by
        rcases hf3 j hj with h' | h'
        · exact Hfa.out j h'
        · exact ⟨by omega, fun hm => by have := hF3 j hm; omega⟩
      refine (DPut_calls w3 (UTabs_keeps HU.out hkr3) b F h x p cp hD3 (fun hm => (HbF.out _ hm).1 rfl) (fun hm => (HbF.out _ hm).2 rfl) (Hsp.out.keeps hkr3 (fun _ _ _ => by simp)) (by omega)).mono ?_
      rintro e w4 ⟨A4, c4, F4, rfl, hrow4, hk4, hD4, hF4, hf4⟩
      have hdl := drain_rest _ (h ++ x) (Nat.le_refl _)
      have hdh := drain_held (h ++ x)
      have hds := fun y => runesOf_split _ (h ++ x) y (Nat.le_refl _)
      have Hds := Lib.hid hds; clear hds
      have hdl2 := hdl.2; clear hdl
      rw [List.length_append] at hdl2
      generalize Dec.drain (h ++ x) = D at *
      obtain ⟨r, h'⟩ := D
      simp only at hrow4 hD4 hdl2 hdh hf4
      have hz4 := hk4.size
      have hrg4 := hrg3.keeps hk4 (vsRune hD3 hrg3)
      have hra4 := hrow3.keeps hk4 (fun i hi => (hfa3 i hi).2)
      have hkr4 : Keeps [] w w4 := hkr3.then hk4 (fun i hi => .inr (HF.out i hi))
      obtain ⟨_, _, hse, _, _, hsr4, _⟩ := hrow4.src
      cases hse
      have Hsr4 := Lib.hid hsr4; clear hsr4
      have Hf4 := Lib.hid hf4; clear hf4
      have HF4 := Lib.hid hF4; clear hF4
      have Hfa3 := Lib.hid hfa3; clear hfa3
      go_wp2_with (first
        | (at_builtin; refine wpList_append_row rfl _ _ 22 rfl elR _ _ _ rfl hrg4 _ r.length _ (ns .i32 r) rfl (by rw [ns_length, Nat.mul_one]) Hsr4.out (ns_one _ r) (by unfold maxLen; omega) (by omega) ?_; intro A5 c5 w5 hrow5 hk5 hf5; have hD5 := hD4.keeps hk5 (fun i hi hm => (vsRune hD4 hrg4) i hm hi))
        | (go_at_call 24; refine (DPending_calls w5 b F4 h' hD5).mono ?_; rintro e w6 ⟨rfl, rfl⟩))
      have hz5 := hk5.size
      have hF5 := hD4.lt
      have hgr : ∀ j, j ∈ fp (.slice A5 (got.length + r.length) c5) → w.heap.size ≤ j := fun j hj => by
        rcases hf5 j hj with h9 | h9
        · exact Hfg.out j h9
        · omega
      have hFn : ∀ j, j ∈ F4 → w.heap.size ≤ j := fun j hj => by
        rcases HF4.out j hj with h9 | h9
        · exact HF.out j h9
        · omega
      go_roundw
      case rel =>
        refine ⟨k + 1, all ++ x, got ++ r, h', F4, by omega, by go_num, Hcat.out, ?_, ?_, hD5, hkr4.then hk5 (fun i hi => .inr (Hfg.out i hi)), ?_, hgr, hFn, ?_, ?_, hdh⟩
        · rw [bs_append, List.length_append]
          exact hra4.keeps hk5 (fun i hi hm => by
            obtain ⟨cur, hc1⟩ := hra4.fp_type i hi
            obtain ⟨cur2, hc2⟩ := hrg4.fp_type i hm
            exact blk_ne hc1 hc2 (by decide) rfl)
        · rw [ns_append, List.length_append]; exact hrow5
        · intro j hj
          refine ⟨(Hfa3.out j hj).1, fun hm => ?_⟩
          rcases HF4.out j hm with h9 | h9
          · exact (Hfa3.out j hj).2 h9
          · have := hrow3.fp_lt j hj; omega
        · intro y
          have e1 := Hy.out (x ++ y)
          have e2 := Hds.out y
          rw [← List.append_assoc, ← List.append_assoc, e2, ← List.append_assoc] at e1
          exact e1
        · rw [List.length_append, List.length_append]; omega
      case measure => simp [intOf]; omega
    · obtain rfl : k = ls.length := by omega
      have hUr := UTabs_keeps HU.out hkr
      have hz0 := hkr.size
      go_wp2_with fail
      refine (DFlush_calls w0 hUr b F h hD (by omega)).mono ?_
      rintro e w4 ⟨A4, c4, rfl, hrow4, hk4, hD4, hf4⟩
      have hrl := runesOf_length h
      have hrg4 := hrg.keeps hk4 (vsRune hD hrg)
      have hra4 := hra.keeps hk4 (fun i hi => (Hfa.out i hi).2)
      have hkr4 : Keeps [] w w4 := hkr.then hk4 (fun i hi => .inr (HF.out i hi))
      obtain ⟨_, _, hse, _, _, hsr4, _⟩ := hrow4.src
      cases hse
      have Hsr4 := Lib.hid hsr4; clear hsr4
      have Hf4 := Lib.hid hf4; clear hf4
      have e1 := Hy.out []
      rw [List.append_nil, List.append_nil] at e1
      have He1 := Lib.hid e1; clear e1
      generalize runesOf h = r at *
      go_wp2_with (at_builtin; refine wpList_append_row rfl _ _ 22 rfl elR _ _ _ rfl hrg4 _ r.length _ (ns .i32 r) rfl (by rw [ns_length, Nat.mul_one]) Hsr4.out (ns_one _ r) (by unfold maxLen; omega) (by omega) ?_; intro A5 c5 w5 hrow5 hk5 hf5)
      have hD5 := hD4.keeps hk5 (fun i hi hm => (vsRune hD4 hrg4) i hm hi)
      have hra5 := hra4.keeps hk5 (fun i hi hm => by
            obtain ⟨cur, hc1⟩ := hra4.fp_type i hi
            obtain ⟨cur2, hc2⟩ := hrg4.fp_type i hm
            exact blk_ne hc1 hc2 (by decide) rfl)
      have hkr5 : Keeps [] w w5 := hkr4.then hk5 (fun i hi => .inr (Hfg.out i hi))
      obtain ⟨_, _, hse, hla, _, hsra, _⟩ := hra5.src
      cases hse
      unfold maxLen at hca
      refine (Runes_calls w5 (UTabs_keeps HU.out hkr5) Aa ca all hsra hla (by omega) (by omega)).mono ?_
      rintro e w6 ⟨A6, c6, rfl, hrow6, hk6, hf6⟩
      rw [← He1.out] at hrow6
      have hD6 := hD5.keeps hk6 (by simp)
      rw [← ns_append] at hrow5
      obtain ⟨_, _, hse, _, _, hs5, _⟩ := (hrow5.keeps hk6 (fun _ _ => by simp)).src
      cases hse
      obtain ⟨_, _, hse, _, _, hs6, _⟩ := hrow6.src
      cases hse
      have hrn := runesOf_length all
      rw [← He1.out, List.length_append] at hrn
      go_wp2_with fail
      refine (Equal_calls w6 A5 A6 (got.length + r.length) (runesOf all).length c5 c6 (got ++ r) (got ++ r) hs5 hs6 (by rw [List.length_append]) (by rw [← He1.out]) (by unfold maxLen; omega) (by rw [← He1.out, List.length_append]; unfold maxLen; omega)).mono ?_
      rintro e w7 ⟨he, hk7⟩
      obtain rfl : e = .returned (.bool true) := by rw [he]; simp
      clear he
      have hD7 := hD6.keeps hk7 (by simp)
      have hfin : Keeps [] w w7 := (hkr5.trans hk6).trans hk7
      go_wp2_with (go_at_call 24; refine (DPending_calls w7 b [b] [] hD7).mono ?_; rintro e w8 ⟨rfl, rfl⟩)
      go_ret
      exact ⟨rfl, hfin⟩
end Go.Proofs.YtobogbjpdagklaaDoor.Uc
