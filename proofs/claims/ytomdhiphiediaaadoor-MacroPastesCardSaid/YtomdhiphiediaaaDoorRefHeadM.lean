/- lanyardref01: need, second, Head, value. -/
import Derived.Test.YtomdhiphiediaaaDoorHeadPM
import Derived.Deep.CutRange
import Derived.Deep.QuietTactic
import Derived.BigQuiet
import Derived.BigRegion
namespace Go.Proofs.YtomdhiphiediaaaDoor.Dec
open Go Go.RowKit Go.Proofs.YtomdhiphiediaaaDoor.Rw

theorem ret_i64 {a b : Int} (h : a = b) : Ending.returned (.int .i64 a) = .returned (.int .i64 b) := by rw [h]
set_option maxRecDepth 100000 in
theorem Need_calls (w : World) (x : Nat) (hx : x < 256) : Calls Tryd.prog 47 #[.int .u8 x] w fun e w' => e = .returned (.int .i64 (needN x : Nat)) ∧ w = w' := by
  go_enter Tryd.func47, Tryd.ntmps47
  go_wp2
  all_goals go_ret
  all_goals (refine ⟨ret_i64 ?_, rfl⟩; unfold needN; repeat' split)
  all_goals omega
set_option maxRecDepth 100000 in
theorem Second_calls (w : World) (x y : Nat) (hx : x < 256) (hy : y < 256) : Calls Tryd.prog 48 #[.int .u8 x, .int .u8 y] w fun e w' => e = .returned (.bool (secN x y)) ∧ w' = w := by
  by_cases c1 : x = 224
  · subst c1
    go_enter Tryd.func48, Tryd.ntmps48
    go_wp2
    all_goals go_ret
    all_goals (refine ⟨congrArg (fun b => Ending.returned (.bool b)) ?_, rfl⟩; rw [Bool.eq_iff_iff]; simp [secN, secLo, secHi]; try omega)
  by_cases c2 : x = 237
  · subst c2
    go_enter Tryd.func48, Tryd.ntmps48
    go_wp2
    all_goals go_ret
    all_goals (refine ⟨congrArg (fun b => Ending.returned (.bool b)) ?_, rfl⟩; rw [Bool.eq_iff_iff]; simp [secN, secLo, secHi]; try omega)
  by_cases c3 : x = 240
  · subst c3
    go_enter Tryd.func48, Tryd.ntmps48
    go_wp2
    all_goals go_ret
    all_goals (refine ⟨congrArg (fun b => Ending.returned (.bool b)) ?_, rfl⟩; rw [Bool.eq_iff_iff]; simp [secN, secLo, secHi]; try omega)
  by_cases c4 : x = 244
  · subst c4
    go_enter Tryd.func48, Tryd.ntmps48
    go_wp2
    all_goals go_ret
    all_goals (refine ⟨congrArg (fun b => Ending.returned (.bool b)) ?_, rfl⟩; rw [Bool.eq_iff_iff]; simp [secN, secLo, secHi]; try omega)
  have e : secN x y = decide (128 ≤ y ∧ y ≤ 191) := by unfold secN secLo secHi; rw [if_neg c1, if_neg c3, if_neg c2, if_neg c4]
  rw [e]
  have d1 : ¬ (x : Int) = 224 := by omega
  have d2 : ¬ (x : Int) = 237 := by omega
  have d3 : ¬ (x : Int) = 240 := by omega
  have d4 : ¬ (x : Int) = 244 := by omega
  go_enter Tryd.func48, Tryd.ntmps48
  go_wp2
  all_goals go_ret
  all_goals (refine ⟨congrArg (fun b => Ending.returned (.bool b)) ?_, rfl⟩; rw [Bool.eq_iff_iff]; simp; try omega)

theorem bs_at (l : List UInt8) (k : Nat) (h : k < l.length) : (bs l)[k]? = some (.int .u8 (byteN l k : Nat)) := by
  unfold bs byteN
  rw [List.getElem?_map, List.getElem?_eq_getElem h, Option.map_some, List.getD_eq_getElem?_getD, List.getElem?_eq_getElem h]
  rfl
theorem needN_le (x : Nat) : needN x ≤ 4 := by
  unfold needN
  repeat' split
  all_goals omega
theorem headK_stop (l : List UInt8) (n f k : Nat) (h : n ≤ k ∨ l.length ≤ k) : headK l n f k = (k, n) := by
  cases f with
  | zero => rfl
  | succ f => unfold headK; rw [if_pos h]
theorem headK_go (l : List UInt8) (n f k : Nat) (h1 : k < n) (h2 : k < l.length) : headK l n (f + 1) k = if okAt l k = true then headK l n f (k + 1) else (0, n) := by
  conv => lhs; unfold headK
  rw [if_neg (by omega)]
set_option maxRecDepth 100000 in
set_option maxHeartbeats 4000000 in
theorem Head_calls (w : World) (A : Option Addr) (c : Nat) (l : List UInt8) (hs : Src w A (bs l)) (hc : l.length ≤ c) (hm : c ≤ 9223372036854775807) :
    Calls Tryd.prog 42 #[.slice A l.length c] w fun e w' => e = .returned (.tuple #[.int .i64 ((headN l).1 : Nat), .int .i64 ((headN l).2 : Nat)]) ∧ Keeps [] w w' := by
  by_cases hl : l.length = 0
  · obtain rfl : l = [] := List.eq_nil_of_length_eq_zero hl
    go_enter Tryd.func42, Tryd.ntmps42
    go_wp2
    go_ret2
    exact ⟨rfl, Keeps.refl _ _⟩
  · have hl0 : 0 < l.length := by omega
    have hne : (0 : Int) < (l.length : Int) := by omega
    have hnz : ¬ ((l.length : Int) = 0) := by omega
    obtain ⟨b, off, rfl⟩ : ∃ b off, A = some ⟨b, off, none⟩ := by
      cases l with
      | nil => exact absurd rfl hl
      | cons x l => exact src_head (xs := bs l) (x := .int .u8 x.toNat) hs
    have hcell : ∀ k, k < l.length → w.cell? ⟨b, off + k, none⟩ = some (.int .u8 (byteN l k : Nat)) := fun k hk => src_cell hs k _ (bs_at l k hk)
    have h0 := hcell 0 hl0
    rw [Nat.add_zero] at h0
    have Hcell := Lib.hid hcell
    clear hcell hs
    have hlt := byteN_lt l
    have b0 := hlt 0
    have hN := Need_calls w (byteN l 0) b0
    have hn4 := needN_le (byteN l 0)
    have hh : headN l = if needN (byteN l 0) = 0 then (0, 0) else headK l (needN (byteN l 0)) 3 1 := by unfold headN; rw [if_neg hl]
    generalize needN (byteN l 0) = n at *
    by_cases hn0 : n = 0
    · subst hn0
      rw [if_pos rfl] at hh
      rw [hh]
      clear hh
      go_enter Tryd.func42, Tryd.ntmps42
      go_wp2_with (go_at_call 47; refine hN.mono ?_; rintro e w' ⟨rfl, rfl⟩)
      go_ret2
      exact ⟨rfl, Keeps.refl _ _⟩
    · rw [if_neg hn0] at hh
      have Hh := Lib.hid hh; clear hh
      have Hlt := Lib.hid hlt; clear hlt
      have hn1 : ¬ (n : Int) = 0 := by omega
      rw [Hh.out]
      generalize headN l = hd at *
      go_enter Tryd.func42, Tryd.ntmps42
      go_wp2_with (go_at_call 47; refine hN.mono ?_; rintro e w' ⟨rfl, rfl⟩)
      clear hN
      go_loopw [5] (fun i wr => ∃ k : Nat, i = .int .i64 k ∧ 1 ≤ k ∧ k ≤ 4 ∧ Keeps [] w wr ∧ Hid (headK l n 3 1 = headK l n (4 - k) k)) (fun i _ => 4 - (intOf i).toNat)
      case atStart => exact ⟨1, rfl, by omega, by omega, Keeps.refl _ _, rfl⟩
      case round =>
        obtain ⟨k, rfl, hk1, hk4, hkr, hK⟩ := hrel
        by_cases hlt : k < n ∧ k < l.length
        · obtain ⟨g1, g2⟩ := hlt
          have hK2 := hK.out
          rw [show 4 - k = (3 - k) + 1 by omega, headK_go l n (3 - k) k g1 g2] at hK2
          have hstep := fun (h : okAt l k = true) => hK2.trans (if_pos h)
          have hfail := fun (h : ¬ okAt l k = true) => hK2.trans (if_neg h)
          have Hstep := Lib.hid hstep
          have Hfail := Lib.hid hfail
          clear hK2 hstep hfail hK
          have ck := hkr.cell (Hcell.out k g2) (by simp)
          have c0 := hkr.cell h0 (by simp)
          clear h0
          have hbk := Hlt.out k
          by_cases hk : k = 1
          · have hkt : ((k : Int) == 1) = true := by simp; omega
            have c1 := hkr.cell (Hcell.out 1 (by omega)) (by simp)
            rw [hk] at ck
            rw [show (⟨b, off + 1, none⟩ : Addr) = ⟨b, off + k, none⟩ by rw [hk]] at ck
            have hbk := Hlt.out 1
            have hS := fun w => Second_calls w (byteN l 0) (byteN l 1) b0 (Hlt.out 1)
            have hok : okAt l k = ((!(!secN (byteN l 0) (byteN l 1))) && decide (128 ≤ byteN l 1 ∧ byteN l 1 ≤ 191)) := by rw [hk]; unfold okAt; simp
            generalize byteN l 0 = x0 at *
            generalize byteN l 1 = x1 at *
            have Hok := Lib.hid hok; clear hok
            have c8 : ¬ (n : Int) ≤ k := by omega
            have k0 : (0 : Int) ≤ k := by omega
            have k9 : (k : Int) < l.length := by omega
            have k2 : k + 1 ≤ 4 := by omega
            have Hz4 := Lib.hid k2
            have l1 : (1 : Int) < l.length := by omega
            clear hk4 k2 hk hk1
            have Hb := Lib.hid hbk
            cases hsec : secN x0 x1 with
            | false =>
              have hno : ¬ okAt l k = true := by rw [Hok.out, hsec]; simp
              have hz := Hfail.out hno
              have Hz := Lib.hid hz
              rw [hsec] at hS
              clear hsec hz hno
              go_upto_region 8 with fail
              go_quiet ((go_at_call 48; exact Calls.quiet_of_same (hS _)))
              go_wp2
              go_ret2
              rw [Hz.out]
              exact ⟨rfl, hkr.drewN _⟩
            | true =>
              rw [hsec] at hS
              by_cases h128 : x1 < 128
              · have hno : ¬ okAt l k = true := by rw [Hok.out, hsec]; simp; omega
                have hz := Hfail.out hno
                have Hz := Lib.hid hz
                have t1 : decide ((x1 : Int) < 128) = true := by simp; omega
                clear hsec hz hno
                go_upto_region 8 with fail
                go_quiet ((go_at_call 48; exact Calls.quiet_of_same (hS _)))
                go_wp2
                go_ret2
                rw [Hz.out]
                exact ⟨rfl, hkr.drewN _⟩
              · have t1 : decide ((x1 : Int) < 128) = false := by simp; omega
                by_cases h191 : 191 < x1
                · have hno : ¬ okAt l k = true := by rw [Hok.out, hsec]; simp; omega
                  have hz := Hfail.out hno
                  have Hz := Lib.hid hz
                  have t2 : decide ((191 : Int) < x1) = true := by simp; omega
                  clear hsec hz hno
                  go_upto_region 8 with fail
                  go_quiet ((go_at_call 48; exact Calls.quiet_of_same (hS _)))
                  go_wp2
                  go_ret2
                  rw [Hz.out]
                  exact ⟨rfl, hkr.drewN _⟩
                · have t2 : decide ((191 : Int) < x1) = false := by simp; omega
                  have hyes : okAt l k = true := by rw [Hok.out, hsec]; simp; omega
                  have hz := Hstep.out hyes
                  have Hz := Lib.hid hz
                  clear hsec hz hyes
                  go_upto_region 8 with fail
                  go_quiet ((go_at_call 48; exact Calls.quiet_of_same (hS _)))
                  go_wp2
                  go_roundw
                  case rel => exact ⟨k + 1, by go_num, by omega, Hz4.out, hkr.drewN _, by have := Hz.out; rw [show 4 - (k + 1) = 3 - k by omega]; exact this⟩
                  case measure => have := Hz4.out; simp [intOf]; omega
          · have hkf : ((k : Int) == 1) = false := by simp; omega
            have hok : okAt l k = decide (128 ≤ byteN l k ∧ byteN l k ≤ 191) := ok2 l k hk
            generalize byteN l 0 = x0 at *
            generalize byteN l k = x1 at *
            have Hok := Lib.hid hok; clear hok
            have Hb := Lib.hid hbk
            have k0 : (0 : Int) ≤ k := by omega
            have k9 : (k : Int) < l.length := by omega
            have kn : ¬ (n : Int) ≤ k := by omega
            have Hz4 := Lib.hid hk4
            clear hk4
            by_cases h128 : x1 < 128
            · have hno : ¬ okAt l k = true := by rw [Hok.out]; simp; omega
              have hz := Hfail.out hno
              have Hz := Lib.hid hz
              have t1 : decide ((x1 : Int) < 128) = true := by simp; omega
              clear hz hno
              go_upto_region 8 with fail
              go_quiet (fail)
              go_wp2
              go_ret2
              rw [Hz.out]
              exact ⟨rfl, hkr.drewN _⟩
            · have t1 : decide ((x1 : Int) < 128) = false := by simp; omega
              by_cases h191 : 191 < x1
              · have hno : ¬ okAt l k = true := by rw [Hok.out]; simp; omega
                have hz := Hfail.out hno
                have Hz := Lib.hid hz
                have t2 : decide ((191 : Int) < x1) = true := by simp; omega
                clear hz hno
                go_upto_region 8 with fail
                go_quiet (fail)
                go_wp2
                go_ret2
                rw [Hz.out]
                exact ⟨rfl, hkr.drewN _⟩
              · have t2 : decide ((191 : Int) < x1) = false := by simp; omega
                have hyes : okAt l k = true := by rw [Hok.out]; simp; omega
                have hz := Hstep.out hyes
                have Hz := Lib.hid hz
                clear hz hyes
                go_upto_region 8 with fail
                go_quiet (fail)
                go_wp2
                go_roundw
                case rel => exact ⟨k + 1, by go_num, by omega, by omega, hkr.drewN _, by have := Hz.out; rw [show 4 - (k + 1) = 3 - k by omega]; exact this⟩
                case measure => have := Hz4.out; simp [intOf]; omega
        · have hend : headK l n 3 1 = (k, n) := by rw [hK.out, headK_stop l n _ k (by omega)]
          have Hend := Lib.hid hend
          clear hK hend
          have g1 : ¬ ((k : Int) < n ∧ (k : Int) < l.length) := by omega
          by_cases g3 : k < n
          · have g4 : ¬ k < l.length := by omega
            go_wp2_with fail
            go_ret2
            rw [Hend.out]
            exact ⟨rfl, hkr⟩
          · go_wp2_with fail
            go_ret2
            rw [Hend.out]
            exact ⟨rfl, hkr⟩
end Go.Proofs.YtomdhiphiediaaaDoor.Dec
