/- lanyardlaw01.UcellNone, UcellKinds: what they come to. -/
import Derived.Test.YtobogbjpdagklaaDoorLive
import Derived.Test.YtobogbjpdagklaaDoorCaps
import Derived.Test.YtobogbjpdagklaaDoorLetter
namespace Go.Proofs.YtobogbjpdagklaaDoor.Uc
open Go Go.RowKit Go.Proofs.YtobogbjpdagklaaDoor.Rw Go.Proofs.YtobogbjpdagklaaDoor.Dec Go.Proofs.YtobogbjpdagklaaDoor.Kinds

theorem none_all (w : World) (hU : UTabs w) (hT : Tabs w) (A : Option Addr) (n c : Nat) : Calls Tryd.prog 8 #[.slice A n c] w fun e w' => e = .returned (.bool true) ∧ Keeps [] w w' := by
  have HL := Lib.hid (live01_calls w hU hT); clear hU hT
  go_enter Tryd.func8, Tryd.ntmps8
  go_wp2_with fail
  refine HL.out.mono ?_
  rintro e w1 ⟨rfl, hk1⟩
  go_wp2_with (first
    | (go_at_call 22; refine (DPut_nil w1 A n c).mono ?_; rintro e w' ⟨rfl, rfl⟩)
    | (go_at_call 25; refine (DFlush_nil w1).mono ?_; rintro e w' ⟨rfl, rfl⟩)
    | (go_at_call 24; refine (DPending_nil w1).mono ?_; rintro e w' ⟨rfl, rfl⟩))
  go_ret
  exact ⟨rfl, hk1⟩

def R32 (r : Int) : Prop := -2147483648 ≤ r ∧ r ≤ 2147483647
theorem src_num {w : World} {A : Option Addr} {l : List Int} (h : Src w A (ns .i32 l)) (k : Nat) (hk : k < l.length) : ∃ ad, A = some ad ∧ w.cell? (ad.add k) = some (.int .i32 l[k]) :=
  h k (.int .i32 l[k]) (by simp [ns, List.getElem?_map, List.getElem?_eq_getElem hk])
set_option maxRecDepth 100000 in
set_option maxHeartbeats 2000000 in
theorem kinds_all (w : World) (hU : UTabs w) (hT : Tabs w) (A : Option Addr) (c : Nat) (l : List Int) (hl : Src w A (ns .i32 l)) (hn : l.length ≤ 9223372036854775807) (hr : ∀ r ∈ l, R32 r) :
    Calls Tryd.prog 9 #[.slice A l.length c] w fun e w' => e = .returned (.bool true) ∧ Keeps [] w w' := by
  have HL := Lib.hid (fun w' (k : Keeps [] w w') => live01_calls w' (UTabs_keeps hU k) (hT.keeps k))
  have HT := Lib.hid hT
  have Hr := Lib.hid hr
  have Hl := Lib.hid hl
  clear hU hT hr hl
  go_enter Tryd.func9, Tryd.ntmps9
  go_wp2_with fail
  go_loopw [7] (fun i wr => ∃ k : Nat, k ≤ l.length ∧ i = .int .i64 k ∧ Keeps [] w wr) (fun i _ => l.length - (intOf i).toNat)
  case atStart => exact ⟨0, by omega, rfl, Keeps.refl _ _⟩
  case round =>
    obtain ⟨k, hk, rfl, hkr⟩ := hrel
    by_cases hlt : k < l.length
    · obtain ⟨ad, rfl, hc⟩ := src_num (Hl.out.keeps hkr (by simp)) k hlt
      obtain ⟨r0, r1⟩ := Hr.out _ (List.getElem_mem hlt)
      generalize l[k] = r at *
      obtain ⟨w0, rfl⟩ : ∃ w0, w0 = wr := ⟨_, rfl⟩
      go_wp2_with fail
      refine (Width_calls w0 (HT.out.keeps hkr) r r0 r1).mono ?_
      rintro e w1 ⟨rfl, k1⟩
      go_wp2_with fail
      refine (RfWidth_calls w1 r r0 r1).mono ?_
      rintro e w2 ⟨rfl, k2⟩
      go_wp2_with (first
        | (go_at_call 17; refine (Control_calls w2 r r0 r1).mono ?_; rintro e w' ⟨rfl, rfl⟩)
        | (go_at_call 29; refine (RfControl_calls w2 r r0 r1).mono ?_; rintro e w' ⟨rfl, rfl⟩))
      refine (Letter_calls w2 (HT.out.keeps ((hkr.trans k1).trans k2)) r r0 r1).mono ?_
      rintro e w3 ⟨rfl, k3⟩
      go_wp2_with fail
      refine (RfLetter_calls w3 r r0 r1).mono ?_
      rintro e w4 ⟨rfl, k4⟩
      go_wp2_with (go_at_call 32; refine (Upper_calls w4 r r0 r1).mono ?_; rintro e w' ⟨rfl, rfl⟩)
      refine (RfUpper_calls w4 r r0 r1).mono ?_
      rintro e w5 ⟨rfl, k5⟩
      go_wp2_with (go_at_call 34; refine (Lower_calls w5 r r0 r1).mono ?_; rintro e w' ⟨rfl, rfl⟩)
      refine (RfLower_calls w5 r r0 r1).mono ?_
      rintro e w6 ⟨rfl, k6⟩
      have kk := (((((hkr.trans k1).trans k2).trans k3).trans k4).trans k5).trans k6
      go_wp2
      go_roundw
      case rel => exact ⟨k + 1, by omega, by go_num, kk⟩
      case measure => simp [intOf]; omega
    · obtain rfl : k = l.length := by omega
      go_wp2_with fail
      refine (HL.out _ hkr).mono ?_
      rintro e w1 ⟨rfl, hk1⟩
      go_wp2
      go_ret
      exact ⟨rfl, hkr.trans hk1⟩
end Go.Proofs.YtobogbjpdagklaaDoor.Uc
