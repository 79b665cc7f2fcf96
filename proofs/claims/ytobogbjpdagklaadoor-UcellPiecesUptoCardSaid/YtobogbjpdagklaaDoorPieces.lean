/- lanyardlaw01.UcellPieces: what it comes to. -/
import Derived.Test.YtobogbjpdagklaaDoorRefDec
import Derived.Test.YtobogbjpdagklaaDoorLive
import Derived.Test.YtobogbjpdagklaaDoorBulk
import Derived.Deep.RegionWith
import Derived.Deep.CutRange
namespace Go.Proofs.YtobogbjpdagklaaDoor.Uc
open Go Go.RowKit Go.Proofs.YtobogbjpdagklaaDoor.Rw Go.Proofs.YtobogbjpdagklaaDoor.Dec Go.Proofs.YtobogbjpdagklaaDoor.Kinds Go.Proofs.YtobogbjpdagklaaDoor.Bulk

/-- The loop's relation. -/
def Pieces (w : World) (b g : Nat) (ls : List (List UInt8)) (i : Value) (wr : World) : Prop :=
  ∃ (k : Nat) (h : List UInt8) (F G : List Nat), k ≤ ls.length ∧ i = .int .i64 k ∧ DAt wr b F h ∧ EAt wr g G h ∧ Keeps [] w wr ∧ (∀ j, j ∈ F → w.heap.size ≤ j) ∧ (∀ j, j ∈ G → w.heap.size ≤ j ∧ j ∉ F) ∧ h.length ≤ (ls.take k).flatten.length
theorem flatten_take (ls : List (List UInt8)) (k : Nat) (h : k < ls.length) : (ls.take (k + 1)).flatten = (ls.take k).flatten ++ ls[k] := by
  rw [List.take_succ_eq_append_getElem h, List.flatten_append]
  simp
theorem flatten_take_le (ls : List (List UInt8)) (k : Nat) : (ls.take k).flatten.length ≤ ls.flatten.length := by
  have : ls.flatten = (ls.take k).flatten ++ (ls.drop k).flatten := by rw [← List.flatten_append, List.take_append_drop]
  rw [this, List.length_append]; omega
theorem PutD.back {w0 wx w' : World} {b : Nat} {F : List Nat} {e : Ending} {r : List Int × List UInt8} (k : Keeps [] w0 wx) (h : PutD wx w' b F e r) : PutD w0 w' b F e r := by
  obtain ⟨A, c, F', h1, h2, h3, h4, h5, h6⟩ := h
  have := k.size
  exact ⟨A, c, F', h1, h2, (k.mono (fun i hi => by simp at hi)).trans h3, h4, fun i hi => by rcases h5 i hi with h | h; exact .inl h; exact .inr (by omega), fun i hi => by have := h6 i hi; omega⟩
/-- Both decoders hold the same bytes. -/
def Held (w : World) (b g : Nat) (h : List UInt8) (wx : World) : Prop := ∃ F G, DAt wx b F h ∧ EAt wx g G h ∧ Keeps [] w wx ∧ (∀ j, j ∈ F → w.heap.size ≤ j) ∧ (∀ j, j ∈ G → w.heap.size ≤ j ∧ j ∉ F)
theorem Held.quiet {w w1 w2 : World} {b g : Nat} {h : List UInt8} (hh : Held w b g h w1) (k : Keeps [] w1 w2) : Held w b g h w2 := by
  obtain ⟨F, G, h1, h2, h3, h4, h5⟩ := hh
  exact ⟨F, G, h1.keeps k (by simp), h2.keeps k (by simp), h3.trans k, h4, h5⟩
theorem put_both {w w0 w1 w2 : World} {b g : Nat} {h h1 h2 : List UInt8} {F G F1 G1 : List Nat} (hE : EAt w0 g G h) (hk0 : Keeps [] w w0) (hF : ∀ j, j ∈ F → w.heap.size ≤ j) (hG : ∀ j, j ∈ G → w.heap.size ≤ j ∧ j ∉ F)
    (hk1 : Keeps F w0 w1) (hD1 : DAt w1 b F1 h1) (hF1 : ∀ k, k ∈ F1 → k ∈ F ∨ w0.heap.size ≤ k) (hk2 : Keeps G w1 w2) (_hE2 : EAt w2 g G1 h2) (hG1 : ∀ k, k ∈ G1 → k ∈ G ∨ w1.heap.size ≤ k) :
    DAt w2 b F1 h1 ∧ Keeps [] w w2 ∧ (∀ j, j ∈ F1 → w.heap.size ≤ j) ∧ (∀ j, j ∈ G1 → w.heap.size ≤ j ∧ j ∉ F1) := by
  have z0 := hk0.size
  have z1 := hk1.size
  have hGl := hE.lt
  have hF1l := hD1.lt
  have hd : ∀ i, i ∈ F1 → i ∉ G := fun i hi hm => by
    rcases hF1 i hi with h | h
    · exact (hG i hm).2 h
    · have := hGl i hm; omega
  refine ⟨hD1.keeps hk2 hd, (hk0.then hk1 (fun i hi => .inr (hF i hi))).then hk2 (fun i hi => .inr (hG i hi).1), fun j hj => ?_, fun j hj => ?_⟩
  · rcases hF1 j hj with h | h
    · exact hF j h
    · omega
  · rcases hG1 j hj with h | h
    · exact ⟨(hG j h).1, fun hm => hd j hm h⟩
    · exact ⟨by omega, fun hm => by have := hF1l j hm; omega⟩
set_option maxRecDepth 100000 in
set_option maxHeartbeats 4000000 in
theorem pieces_all (w : World) (hU : UTabs w) (hT : Tabs w) (A : Option Addr) (c : Nat) (vs : List Value) (ls : List (List UInt8)) (hs : Src w A vs) (hp : Parts w vs ls) (hb : ls.flatten.length + ls.length ≤ 1048576)
    (B : Option Addr) (d : Nat) (fs : List Bool) (hfs : Src w B (fs.map Value.bool)) (hfl : fs.length ≤ maxLen) :
    Calls Tryd.prog 6 #[.slice A ls.length c, .slice B fs.length d] w fun e w' => e = .returned (.bool true) ∧ Keeps [] w w' := by
  have HL := Lib.hid (fun w' (k : Keeps [] w w') => live01_calls w' (UTabs_keeps hU k) (hT.keeps k))
  have hlt := UTabs_lt hU
  have HU := Lib.hid hU
  have Hs := Lib.hid hs
  have Hp := Lib.hid hp
  have Hb := Lib.hid hb
  have Hfs := Lib.hid hfs
  unfold maxLen at hfl
  clear hU hT hs hp hfs
  go_enter Tryd.func6, Tryd.ntmps6
  go_wp2_with fail
  refine (DNew_calls w).mono ?_
  rintro e w1 ⟨rfl, hk1, hD⟩
  obtain ⟨b, hbe⟩ : ∃ b, b = w.heap.size := ⟨_, rfl⟩
  rw [← hbe] at hD ⊢
  have Hbe := Lib.hid hbe; clear hbe
  go_wp2_with fail
  obtain ⟨g, hge⟩ : ∃ g, g = w1.heap.size := ⟨_, rfl⟩
  have hE : EAt (w1.alloc (.cells #[.slice none 0 0] 41)) g [g] [] := by
    subst hge
    exact ⟨.slice none 0 0, ⟨blk_new w1 _, Row.nil _ _ _ _⟩, rfl⟩
  have hk2 := hk1.alloc (.cells #[.slice none 0 0] 41)
  have hD2 := hD.keeps ((Keeps.refl [] w1).alloc (.cells #[.slice none 0 0] 41)) (by simp)
  have hz1 := hk1.size
  have hbl := hD.lt b (by simp)
  rw [← hge] at hbl hz1 ⊢
  clear hD
  generalize w1.alloc (.cells #[.slice none 0 0] 41) = w2 at *
  refine (HL.out _ hk2).mono ?_
  rintro e w3 ⟨rfl, hk3⟩
  have hD3 := hD2.keeps hk3 (by simp)
  have hE3 := hE.keeps hk3 (by simp)
  have hk13 := hk2.trans hk3
  have hS : Pieces w b g ls (.int .i64 0) w3 := ⟨0, [], [b], [g], by omega, rfl, hD3, hE3, hk13, fun j hj => by have := Hbe.out; simp at hj; omega, fun j hj => by simp at hj ⊢; omega, by simp⟩
  clear hD2 hE hge hk1 hk2 hk3 hD3 hE3 hz1 hbl
  go_wp2_with fail
  go_loopw [20] (fun i wr => Pieces w b g ls i wr) (fun i _ => ls.length - (intOf i).toNat)
  case atStart => exact hS
  case round =>
    clear hS hk13
    obtain ⟨k, h, F, G, hk, rfl, hD, hE, hkr, hF, hG, hle⟩ := hrel
    have HF := Lib.hid hF; clear hF
    have HG := Lib.hid hG; clear hG
    have hbF : ∀ j, j ∈ F → j ≠ 2 ∧ j ≠ 3 := fun j hj => by have := HF.out j hj; omega
    have HbF := Lib.hid hbF; clear hbF
    obtain ⟨w0, rfl⟩ : ∃ w0, w0 = wr := ⟨_, rfl⟩
    by_cases hlt2 : k < ls.length
    · have hkv : k < vs.length := by have := Hp.out.1; omega
      obtain ⟨p, cp, hv, hcp1, hcp2, hsp⟩ := Hp.out.2 k vs[k] ls[k] (List.getElem?_eq_getElem hkv) (List.getElem?_eq_getElem hlt2)
      obtain ⟨ad, hA, hc⟩ := (Hs.out.keeps hkr (fun _ _ _ => by simp)) k vs[k] (List.getElem?_eq_getElem hkv)
      rw [hv] at hc
      have hft := flatten_take ls k hlt2
      have hfl2 : (ls.take k).flatten.length + ls[k].length ≤ ls.flatten.length := by
        have := flatten_take_le ls (k + 1); rw [hft, List.length_append] at this; exact this
      have hsp0 := hsp.keeps hkr (fun _ _ _ => by simp)
      have hnew : (ls.take (k + 1)).flatten.length = (ls.take k).flatten.length + ls[k].length := by rw [hft, List.length_append]
      generalize ls[k] = x at *
      have Hnew := Lib.hid hnew; clear hnew hft hv
      have Hsp := Lib.hid hsp; clear hsp
      have Hsp0 := Lib.hid hsp0; clear hsp0
      have HD := Lib.hid hD; clear hD
      have HE := Lib.hid hE; clear hE
      generalize (ls.take k).flatten.length = q at *
      subst hA
      have hP := fun wx (kx : Keeps [] w0 wx) => (DPut_calls wx (UTabs_keeps HU.out (hkr.trans kx)) b F h x p cp (HD.out.keeps kx (by simp)) (fun hm => (HbF.out _ hm).1 rfl) (fun hm => (HbF.out _ hm).2 rfl) (Hsp0.out.keeps kx (fun _ _ _ => by simp)) (by omega)).mono fun _ _ hh => PutD.back kx hh
      have HP := Lib.hid hP; clear hP
      have hdl := drain_rest _ (h ++ x) (Nat.le_refl _)
      have hdl2 := hdl.2
      rw [List.length_append] at hdl2
      have hQ := fun w1 (hEx : EAt w1 g G h) (hsx : Src w1 p (bs x)) => EPut_calls w1 g G h x p cp hEx hsx (by omega)
      generalize Dec.drain (h ++ x) = D at *
      obtain ⟨r, h'⟩ := D
      have HQ := Lib.hid hQ; clear hQ hdl
      simp only at hdl2
      go_upto_region 8 with fail
      go_cut [20, 42] from 20 to 66 (fun i s wx => i = .int .i64 k ∧ s = .bool false ∧ Held w b g h' wx)
      case first =>
        go_region_with (first
          | (go_at_call 22; refine (HP.out _ (by first | exact Keeps.refl _ _ | exact (Keeps.refl _ _).drew | exact (Keeps.refl _ _).drewN _)).mono ?_; rintro e w1 ⟨A1, c1, F1, rfl, hrow1, hk1, hD1, hF1, hf1⟩; simp only at hrow1 hD1)
          | (go_at_call 23; refine (HQ.out w1 (HE.out.keeps hk1 (fun i hi => (HG.out i hi).2)) (Hsp.out.keeps (hkr.then hk1 (fun i hi => .inr (HF.out i hi))) (fun _ _ _ => by simp))).mono ?_; rintro e w2 ⟨A2, c2, G1, rfl, hrow2, hk2, hE2, hG1, hf2⟩; simp only at hrow2 hE2; have hboth := put_both HE.out hkr HF.out HG.out hk1 hD1 hF1 hk2 hE2 hG1; have hrow1' := hrow1.keeps hk2 (fun i hi hm => by have := HE.out.lt i hm; have := hf1 i hi; omega); obtain ⟨_, _, he1, _, hm1, hs1, _⟩ := hrow1'.src; cases he1; obtain ⟨_, _, he2, _, hm2, hs2, _⟩ := hrow2.src; cases he2)
          | (go_at_call 21; refine (Equal_calls w2 A1 A2 _ _ c1 c2 r r hs1 hs2 rfl rfl (by unfold maxLen; omega) (by unfold maxLen; omega)).mono ?_; rintro e w4 ⟨he, hk4⟩; obtain rfl : e = .returned (.bool true) := (by rw [he]; simp); have hE4 := hE2.keeps hk4 (by simp); obtain ⟨bvE, hEi, heE⟩ := hE4; obtain ⟨AE, cE, rfl, _, _⟩ := hEi.row.slice; have cE0 := blk_cell hEi.blk 0; have hHeld : Held w b g h' w4 := ⟨F1, G1, hboth.1.keeps hk4 (by simp), hE2.keeps hk4 (by simp), hboth.2.1.trans hk4, hboth.2.2.1, hboth.2.2.2⟩)
          | (go_at_call 24; refine (DPending_calls _ b F1 h' (hboth.1.keeps (hk4.trans (by first | exact Keeps.refl _ _ | exact (Keeps.refl _ _).drew | exact (Keeps.refl _ _).drewN _)) (by simp))).mono ?_; rintro e w' ⟨rfl, rfl⟩))
        all_goals go_wp2
        all_goals go_meet
        all_goals exact ⟨rfl, rfl, hHeld.quiet (by first | exact Keeps.refl _ _ | exact (Keeps.refl _ _).drew | exact (Keeps.refl _ _).drewN _)⟩
      case rest =>
        obtain ⟨rfl, rfl, F', G', hD', hE', hkc, hF', hG'⟩ := hcut
        clear HP HQ HD HE HF HG HbF Hsp0 Hsp hc
        have k0 : (0 : Int) ≤ k := by omega
        by_cases hkf : k < fs.length
        · obtain ⟨bd, rfl, hcf⟩ := (Hfs.out.keeps hkc (fun _ _ _ => by simp)) k (.bool fs[k]) (by simp [hkf])
          cases hfk : fs[k] with
          | false =>
            rw [hfk] at hcf
            clear hfk
            go_wp2_with fail
            go_roundw
            case rel => exact ⟨k + 1, h', F', G', by omega, by go_num, hD', hE', hkc, hF', hG', by rw [Hnew.out]; omega⟩
            case measure => simp [intOf]; omega
          | true =>
            rw [hfk] at hcf
            clear hfk
            have hdr := runesOf_length h'
            go_wp2_with fail
            refine (DFlush_calls wc (UTabs_keeps HU.out hkc) b F' h' hD' (by omega)).mono ?_
            rintro e w5 ⟨A5, c5, rfl, hrow5, hk5, hD5, hf5⟩
            have hkc5 : Keeps [] w w5 := hkc.then hk5 (fun i hi => .inr (hF' i hi))
            have hE5 := hE'.keeps hk5 (fun i hi => (hG' i hi).2)
            have hbm : b ∈ F' := by obtain ⟨bv, _, rfl⟩ := hD'; simp
            have hgm : g ∈ G' := by obtain ⟨bv, _, rfl⟩ := hE'; simp
            have hGl := hE'.lt
            go_wp2_with fail
            refine (EFlush_calls w5 g G' h' hE5 (by omega)).mono ?_
            rintro e w6 ⟨A6, c6, rfl, hrow6, hk6, hE6, hf6⟩
            have hkc6 : Keeps [] w w6 := hkc5.then hk6 (fun i hi => .inr (hG' i hi).1)
            have hD6 := hD5.keeps hk6 (fun i hi hm => (hG' i hm).2 (by simp at hi; subst hi; exact hbm))
            have hrow5' := hrow5.keeps hk6 (fun i hi hm => by have := hGl i hm; have := hf5 i hi; omega)
            obtain ⟨_, _, he1, _, hm1, hs1, _⟩ := hrow5'.src
            cases he1
            obtain ⟨_, _, he2, _, hm2, hs2, _⟩ := hrow6.src
            cases he2
            clear hrow5 hrow6 hrow5'
            go_wp2_with fail
            refine (Equal_calls w6 A5 A6 _ _ c5 c6 _ _ hs1 hs2 rfl rfl (by unfold maxLen; omega) (by unfold maxLen; omega)).mono ?_
            rintro e w7 ⟨he, hk7⟩
            obtain rfl : e = .returned (.bool true) := by rw [he]; simp
            have hD7 := hD6.keeps hk7 (by simp)
            have hE7 := hE6.keeps hk7 (by simp)
            have hkc7 := hkc6.trans hk7
            have hF7 : ∀ j, j ∈ [b] → w.heap.size ≤ j := fun j hj => by simp at hj; subst hj; exact hF' _ hbm
            have hG7 : ∀ j, j ∈ [g] → w.heap.size ≤ j ∧ j ∉ [b] := fun j hj => by
              simp at hj; subst hj
              exact ⟨(hG' _ hgm).1, fun hm => by simp at hm; subst hm; exact (hG' _ hgm).2 hbm⟩
            clear he hs1 hs2 hD5 hE5 hD6 hE6
            go_wp2_with fail
            refine (DPending_calls w7 b [b] [] hD7).mono ?_
            rintro e w8 ⟨rfl, rfl⟩
            go_wp2_with fail
            go_roundw
            case rel => exact ⟨k + 1, [], [b], [g], by omega, by go_num, hD7, hE7, hkc7, hF7, hG7, by simp⟩
            case measure => simp [intOf]; omega
        · go_wp2_with fail
          go_roundw
          case rel => exact ⟨k + 1, h', F', G', by omega, by go_num, hD', hE', hkc, hF', hG', by rw [Hnew.out]; omega⟩
          case measure => simp [intOf]; omega
    · obtain rfl : k = ls.length := by omega
      go_wp2
      go_ret
      exact ⟨rfl, hkr⟩
end Go.Proofs.YtobogbjpdagklaaDoor.Uc
