/- lanyardlaw07.BufferMoves: what it comes to. -/
import Derived.Test.YtmnmdpgckefefaaDoorMoves
import Derived.Test.YtmnmdpgckefefaaDoorWordsLaw
namespace Go.Proofs.YtmnmdpgckefefaaDoor.Buf
open Go Go.RowKit Go.Proofs.YtmnmdpgckefefaaDoor.Rw Go.Proofs.YtmnmdpgckefefaaDoor.SlR Go.Proofs.YtmnmdpgckefefaaDoor.Words Go.Proofs.YtmnmdpgckefefaaDoor.OpArg Go.Proofs.YtmnmdpgckefefaaDoor.Kinds

set_option maxRecDepth 100000 in
set_option maxHeartbeats 1000000 in
theorem moves_all (w : World) (hT : Tabs w) (A : Option Addr) (n c : Nat) (a r : Int) (l : List Int) (hr : Runes w A n c l) (hw : l.length * 4 ≤ reachBytes) :
    Calls Tryd.prog 7 #[.slice A n c, .int .i64 a, .int .i32 r] w (Yea w) := by
  obtain ⟨hln, hl, hc, hm, hwf⟩ := hr
  unfold reachBytes at hw
  have hn : n ≤ maxLen := by omega
  have hn2 : n ≤ 70368744177664 := by omega
  have hD : ∀ x ∈ l, R32 x := fun x hx => r32_of (hwf x hx)
  have hS : ∀ w1, Keeps [] w w1 → Src w1 A (ns .i32 l) := fun w1 k => hl.keeps k (by simp)
  have hTT : ∀ w1, Keeps [] w w1 → Tabs w1 := fun w1 k => hT.keeps k
  have HS := Lib.hid hS
  have HT := Lib.hid hTT
  have HD := Lib.hid hD
  have Hn := Lib.hid hln
  clear hS hTT hD hln hl hT hwf
  go_enter Tryd.func7, Tryd.ntmps7
  go_wp2_with fail
  refine (BFind_fwd w A n c a l r (HS.out _ (Keeps.refl _ _)) Hn.out hn2).mono ?_
  rintro e w1 ⟨rfl, k1⟩
  go_wp2_with fail
  refine (RfFind_fwd w1 A n c a l r (HS.out _ k1) Hn.out hn2).mono ?_
  rintro e w2 ⟨rfl, k2'⟩
  have k2 := k1.trans k2'
  go_wp2_with fail
  refine (BFind_back w2 A n c a l r (HS.out _ k2) Hn.out hn2).mono ?_
  rintro e w3 ⟨rfl, k3'⟩
  have k3 := k2.trans k3'
  go_wp2_with fail
  refine (RfFind_back w3 A n c a l r (HS.out _ k3) Hn.out hn2).mono ?_
  rintro e w4 ⟨rfl, k4'⟩
  have k4 := k3.trans k4'
  generalize findF l r (n - (clampN a n + 1)) (clampN a n + 1) = R
  generalize findB l r (clampN a n) = R'
  obtain ⟨R1, R2⟩ := R
  obtain ⟨R3, R4⟩ := R'
  go_wp2_with fail
  refine (live07_calls w4).mono ?_
  rintro e w5 ⟨rfl, k5'⟩
  have k5 := k4.trans k5'
  go_wp2_with fail
  refine (Next_any w5 A n c a l (HT.out _ k5) (HS.out _ k5) Hn.out hn HD.out).mono ?_
  rintro e w6 ⟨rfl, k6'⟩
  have k6 := k5.trans k6'
  go_wp2_with fail
  refine (RfNext_any w6 A n c a l (HS.out _ k6) Hn.out hn HD.out).mono ?_
  rintro e w7 ⟨rfl, k7'⟩
  have k7 := k6.trans k7'
  go_wp2_with fail
  refine (Previous_any w7 A n c a l (HT.out _ k7) (HS.out _ k7) Hn.out hn HD.out).mono ?_
  rintro e w8 ⟨rfl, k8'⟩
  have k8 := k7.trans k8'
  go_wp2_with fail
  refine (RfPrevious_any w8 A n c a l (HS.out _ k8) Hn.out hn HD.out).mono ?_
  rintro e w9 ⟨rfl, k9'⟩
  have k9 := k8.trans k9'
  go_wp2_with fail
  refine (WordEnd_any w9 A n c a l (HT.out _ k9) (HS.out _ k9) Hn.out hn HD.out).mono ?_
  rintro e wa ⟨rfl, ka'⟩
  have ka := k9.trans ka'
  go_wp2_with fail
  refine (RfWordEnd_any wa A n c a l (HS.out _ ka) Hn.out hn HD.out).mono ?_
  rintro e wb ⟨rfl, kb'⟩
  have kb := ka.trans kb'
  go_wp2_with fail
  refine (WordStart_any wb A n c a l (HT.out _ kb) (HS.out _ kb) Hn.out hn HD.out).mono ?_
  rintro e wc ⟨rfl, kc'⟩
  have kc := kb.trans kc'
  go_wp2_with fail
  refine (RfWordStart_any wc A n c a l (HS.out _ kc) Hn.out hn HD.out).mono ?_
  rintro e wd ⟨rfl, kd'⟩
  have kd := kc.trans kd'
  go_wp2_with fail
  refine (BlankStart_any wd A n c a l (HS.out _ kd) Hn.out hn).mono ?_
  rintro e we ⟨rfl, ke'⟩
  have ke := kd.trans ke'
  go_wp2_with fail
  refine (RfBlankStart_any we A n c a l (HS.out _ ke) Hn.out hn HD.out).mono ?_
  rintro e wf ⟨rfl, kf'⟩
  have kf := ke.trans kf'
  go_wp2_with fail
  refine (BlankEnd_any wf A n c a l (HS.out _ kf) Hn.out hn).mono ?_
  rintro e wg ⟨rfl, kg'⟩
  have kg := kf.trans kg'
  go_wp2_with fail
  refine (RfBlankEnd_any wg A n c a l (HS.out _ kg) Hn.out hn HD.out).mono ?_
  rintro e wh ⟨rfl, kh'⟩
  have kh := kg.trans kh'
  go_wp2
  go_ret
  exact ⟨by first | rfl | simp, kh⟩
end Go.Proofs.YtmnmdpgckefefaaDoor.Buf
