/- MacroOrder: true for every typed bytes, number and pushed bytes. -/
import Derived.Test.YtjmkgpagcefbjaaMacBegun
import Derived.Deep.DeepCutAuto
namespace Go.Proofs.Ytjmkgpagcefbjaa.Mac
open Go Go.RowKit Go.Proofs.Ytjmkgpagcefbjaa.Rw

/-- A queue whose blocks are all new since w. -/
def New (w wr : World) (b : Nat) (q : QS) : Prop := Keeps [] w wr ∧ ∃ F, (∀ k, k ∈ F → w.heap.size ≤ k) ∧ QAt wr b F q
theorem New.left {w w1 w2 : World} {b : Nat} {q2 : QS} (h : Keeps [] w w1) {F : List Nat} (hF : ∀ k, k ∈ F → w.heap.size ≤ k) (hl : Left w1 w2 b F q2) : New w w2 b q2 := by
  obtain ⟨k, F', h1, h2⟩ := hl
  refine ⟨h.then k (fun i hi => .inr (hF i hi)), F', fun i hi => ?_, h2⟩
  rcases h1 i hi with h' | h'
  · exact hF i h'
  · have := h.size; omega

theorem addr_add_add (a : Addr) (k j : Nat) : (a.add k).add j = a.add (k + j) := by
  unfold Addr.add
  by_cases hk : k = 0
  · subst hk; simp
  · by_cases hj : j = 0
    · subst hj; simp [hk]
    · simp [hk, hj, Nat.add_assoc]
/-- The queue behind so many bytes of the macro. -/
def st (ty pu : List UInt8) (k j : Nat) : QS := ⟨ty.drop k, if pu.drop j = [] then [] else [pu.drop j], j⟩
theorem push_st (ty pu : List UInt8) (k : Nat) (h : ¬ 128 < pu.length) : QS.push ⟨ty.drop k, [], 0⟩ pu = (0, st ty pu k 0) := by
  simp only [QS.push, if_neg h, List.length_nil, st, List.drop_zero]
  rw [if_neg (by decide)]
  by_cases hp : pu = []
  · rw [if_pos hp, if_pos hp]; rfl
  · rw [if_neg hp, if_neg hp]; rfl
theorem st_macros (ty pu : List UInt8) (k j : Nat) (h : j < pu.length) : (st ty pu k j).macros = [] ++ [pu[j] :: pu.drop (j + 1)] := by
  have hd : pu.drop j = pu[j] :: pu.drop (j + 1) := List.drop_eq_getElem_cons h
  have hn : ¬ pu.drop j = [] := fun e => by rw [List.drop_eq_nil_iff] at e; omega
  simp only [st, if_neg hn, List.nil_append]
  rw [hd]
theorem st_pop (ty pu : List UInt8) (k j : Nat) : (st ty pu k j).popMacro [] (pu.drop (j + 1)) = st ty pu k (j + 1) := by
  simp only [st, QS.popMacro, List.nil_append]
  congr 1

set_option maxRecDepth 100000 in
set_option maxHeartbeats 1000000 in
theorem order_calls (w : World) (A1 A2 : Option Addr) (c1 c2 : Nat) (ty pu : List UInt8) (many : Int) (s1 : Src w A1 (bs ty)) (s2 : Src w A2 (bs pu)) (n1 : ty.length ≤ 9223372036854775807) (n2 : pu.length ≤ 9223372036854775807) (k1 : ty.length ≤ c1) (hm1 : many ≤ 9223372036854775807) :
    Calls Try.prog 3 #[.slice A1 ty.length c1, .int .i64 many, .slice A2 pu.length c2] w (Said (.bool true) fun w' => Keeps [] w w') := by
  by_cases h65 : 65536 < ty.length
  · go_enter Try.func3, Try.ntmps3
    go_wp2_with fail
    refine (QNew_calls _).mono ?_
    rintro e w1 ⟨rfl, hk1, hq1⟩
    obtain ⟨b, hb⟩ : ∃ b, b = w.heap.size := ⟨_, rfl⟩
    rw [← hb] at hq1 ⊢
    have Hb := Lib.hid hb; clear hb
    go_wp2_with fail
    refine (begun_calls _).mono ?_
    rintro e w2 ⟨rfl, hk2⟩
    have hk12 := hk1.trans hk2
    have hq2 := hq1.keeps hk2 (by simp)
    go_wp2_with fail
    refine Calls.mono (R := Said (.int .i64 3) fun w' => Left w2 w' b [b] ⟨[], [], 0⟩) ?_ ?_
    · have := QPut_calls w2 b [b] ⟨[], [], 0⟩ A1 c1 ty hq2 (s1.keeps hk12 (by simp)) n1
      rw [show QS.put ⟨[], [], 0⟩ ty = (3, ⟨[], [], 0⟩) by simp only [QS.put, List.length_nil, Nat.add_zero, if_pos h65]] at this
      exact this
    rintro e w3 ⟨rfl, hl3⟩
    obtain ⟨hk3, F3, hF3, hq3⟩ := New.left hk12 (by simp [Hb.out]) hl3
    have hx : decide ((65536 : Int) < (ty.length : Int)) = true := by simp; omega
    go_wp2
    go_ret
    exact ⟨rfl, hk3⟩
  go_enter Try.func3, Try.ntmps3
  go_wp2_with fail
  refine (QNew_calls _).mono ?_
  rintro e w1 ⟨rfl, hk1, hq1⟩
  obtain ⟨b, hb⟩ : ∃ b, b = w.heap.size := ⟨_, rfl⟩
  rw [← hb] at hq1 ⊢
  have Hb := Lib.hid hb; clear hb
  go_wp2_with fail
  refine (begun_calls _).mono ?_
  rintro e w2 ⟨rfl, hk2⟩
  have hk12 := hk1.trans hk2
  have hq2 := hq1.keeps hk2 (by simp)
  go_wp2_with fail
  refine Calls.mono (R := Said (.int .i64 0) fun w' => Left w2 w' b [b] ⟨ty, [], 0⟩) ?_ ?_
  · have := QPut_calls w2 b [b] ⟨[], [], 0⟩ A1 c1 ty hq2 (s1.keeps hk12 (by simp)) n1
    rw [show QS.put ⟨[], [], 0⟩ ty = (0, ⟨ty, [], 0⟩) by simp only [QS.put, List.length_nil, Nat.add_zero, if_neg h65, List.nil_append]] at this
    exact this
  rintro e w3 ⟨rfl, hl3⟩
  obtain ⟨hk3, F3, hF3, hq3⟩ := New.left hk12 (by simp [Hb.out]) hl3
  obtain ⟨kN, hkN, hky, hkn⟩ : ∃ kN : Nat, kN ≤ ty.length ∧ (0 < many → 0 < ty.length → many % (ty.length : Int) = kN) ∧ (many ≤ 0 ∨ ty.length = 0 → kN = 0) := by
    by_cases h : 0 < many ∧ 0 < ty.length
    · refine ⟨(many % (ty.length : Int)).toNat, ?_, fun _ _ => ?_, fun h' => by omega⟩
      · have := Int.emod_lt_of_pos many (b := (ty.length : Int)) (by omega)
        omega
      · have := Int.emod_nonneg many (b := (ty.length : Int)) (by omega)
        omega
    · exact ⟨0, by omega, fun h1 h2 => absurd ⟨h1, h2⟩ h, fun _ => rfl⟩
  have Hky := Lib.hid hky; clear hky
  have Hkn := Lib.hid hkn; clear hkn
  have hsame : Keeps [] w w := Keeps.refl _ _
  go_upto_region 8 with fail
  go_cut [53] (fun s wx => wx = w3 ∧ s = .bool (decide (0 < many) && decide (0 < ty.length)))
  case first =>
    go_wp2
    all_goals go_meet
    all_goals exact ⟨rfl, by first | (simp [*]; done) | (simp; omega)⟩
  case rest =>
    obtain ⟨rfl, rfl⟩ := hcut
    go_upto_if 53 with fail
    go_cut [9] (fun s wx => wx = wc ∧ s = .int .i64 kN)
    case first =>
      by_cases h0 : 0 < many
      · by_cases h1 : 0 < ty.length
        · have hE := Hky.out h0 h1
          go_wp2
          all_goals go_meet
          all_goals exact ⟨rfl, by simp [*]⟩
        · obtain rfl := Hkn.out (.inr (by omega))
          go_wp2
          all_goals go_meet
          all_goals exact ⟨rfl, by simp [*]⟩
      · obtain rfl := Hkn.out (.inl (by omega))
        go_wp2
        all_goals go_meet
        all_goals exact ⟨rfl, by simp [*]⟩
    case rest =>
      obtain ⟨rfl, rfl⟩ := hcut
      go_wp2_with fail
      go_loopw [59] (fun i wr => ∃ k : Nat, k ≤ kN ∧ i = .int .i64 k ∧ New w wr b ⟨ty.drop k, [], 0⟩) (fun i _ => kN - (intOf i).toNat)
      case atStart => exact ⟨0, Nat.zero_le _, rfl, by rw [List.drop_zero]; exact ⟨hk3, F3, hF3, hq3⟩⟩
      case round =>
        obtain ⟨k, hk, rfl, hkr, F, hF, hqr⟩ := hrel
        by_cases hlt : k < kN
        · have hkt : k < ty.length := by omega
          have hd : ty.drop k = ty[k] :: ty.drop (k + 1) := List.drop_eq_getElem_cons hkt
          obtain ⟨ad, rfl, hcell⟩ := s1 k (.int .u8 ty[k].toNat) (by simp [bs, hkt])
          have Hd := Lib.hid hd; clear hd
          go_wp2_with fail
          refine (QNext_typed wr b F _ ty[k] (ty.drop (k + 1)) hqr Hd.out (.inl rfl)).mono ?_
          rintro e wn ⟨rfl, hln⟩
          have hnew := New.left hkr hF hln
          have hcell' := hnew.1.cell hcell (by simp)
          go_wp2
          go_roundw
          case rel => exact ⟨k + 1, by omega, by go_num, hnew⟩
          case measure => simp [intOf]; omega
        · obtain rfl : k = kN := by omega
          go_wp2_with fail
          by_cases h128 : 128 < pu.length
          · refine Calls.mono (R := Said (.int .i64 3) fun w' => New w w' b ⟨ty.drop k, [], 0⟩) ?_ ?_
            · have := QPush_calls wr b F ⟨ty.drop k, [], 0⟩ A2 c2 pu hqr (s2.keeps hkr (by simp))
              rw [show QS.push ⟨ty.drop k, [], 0⟩ pu = (3, ⟨ty.drop k, [], 0⟩) by simp only [QS.push, if_pos h128]] at this
              exact this.mono fun e w' ⟨h1, h2⟩ => ⟨h1, New.left hkr hF h2⟩
            rintro e wp ⟨rfl, hnp⟩
            have hx : decide ((128 : Int) < (pu.length : Int)) = true := by simp; omega
            go_wp2
            go_ret
            exact ⟨rfl, hnp.1⟩
          refine Calls.mono (R := Said (.int .i64 0) fun w' => New w w' b (st ty pu k 0)) ?_ ?_
          · have := QPush_calls wr b F ⟨ty.drop k, [], 0⟩ A2 c2 pu hqr (s2.keeps hkr (by simp))
            rw [push_st ty pu k h128] at this
            exact this.mono fun e w' ⟨h1, h2⟩ => ⟨h1, New.left hkr hF h2⟩
          rintro e wp ⟨rfl, hkp, Fp, hFp, hqp⟩
          obtain ⟨dN, hdN, hd1⟩ : ∃ dN : Nat, dN = (st ty pu k 0).macros.length ∧ ((dN : Int) == 1) = decide (0 < (pu.length : Int)) := by
            refine ⟨_, rfl, ?_⟩
            cases pu with
            | nil => rfl
            | cons x r => rw [Bool.eq_iff_iff]; simp [st]
          obtain ⟨tN, htN, ht1⟩ : ∃ tN : Nat, tN = (st ty pu k 0).typed.length + total (st ty pu k 0).macros ∧ tN = ty.length - k + pu.length := by
            refine ⟨_, rfl, ?_⟩
            cases pu with
            | nil => simp [st, total]
            | cons x r => simp [st, total]
          have HtN := Lib.hid htN; clear htN
          have HdN := Lib.hid hdN; clear hdN
          go_wp2_with fail
          refine Calls.mono (R := fun e w' => e = .returned (.int .i64 dN) ∧ wp = w') (HdN.out ▸ QDepth_calls wp b Fp _ hqp) ?_
          rintro e w4 ⟨rfl, rfl⟩
          go_wp2_with fail
          refine Calls.mono (R := fun e w' => e = .returned (.int .i64 tN) ∧ wp = w') (HtN.out ▸ QLen_calls wp b Fp _ hqp (by rw [← HtN.out]; omega)) ?_
          rintro e w4 ⟨rfl, rfl⟩
          have hcmp : ((tN : Int) != (ty.length : Int) - (k : Int) + (pu.length : Int)) = false := by
            rw [bne_eq_false_iff_eq]; omega
          clear ht1
          go_wp2
          have hnewp : New w wp b (st ty pu k 0) := ⟨hkp, Fp, hFp, hqp⟩
          clear hqr hF hkr
          obtain ⟨wo, rfl⟩ : ∃ wo : World, wo = wr := ⟨_, rfl⟩
          go_loopw [116] (fun i wr => ∃ j : Nat, j ≤ pu.length ∧ i = .int .i64 j ∧ New w wr b (st ty pu k j)) (fun i _ => pu.length - (intOf i).toNat)
          case atStart => exact ⟨0, Nat.zero_le _, rfl, hnewp⟩
          case round =>
            obtain ⟨j, hj, rfl, hkr, F, hF, hqr⟩ := hrel
            by_cases hlt2 : j < pu.length
            · obtain ⟨ad, rfl, hcell⟩ := s2 j (.int .u8 pu[j].toNat) (by simp [bs, hlt2])
              have hcr := hkr.cell hcell (by simp)
              have Hm := Lib.hid (st_macros ty pu k j hlt2)
              have Hp := Lib.hid (st_pop ty pu k j)
              go_wp2_with fail
              refine Calls.mono (R := Said (.tuple #[.int .u8 pu[j].toNat, .bool true, .bool false]) fun w' => New w w' b (st ty pu k (j + 1))) ((QNext_macro wr b F _ [] pu[j] (pu.drop (j + 1)) hqr Hm.out (show ((j : Int)) < 256 by omega)).mono fun e w' ⟨h1, h2⟩ => ⟨h1, by rw [Hp.out] at h2; exact New.left hkr hF h2⟩) ?_
              rintro e wn ⟨rfl, hnew⟩
              have hcell' := hnew.1.cell hcell (by simp)
              go_wp2
              go_roundw
              case rel => exact ⟨j + 1, by omega, by go_num, hnew⟩
              case measure => simp [intOf]; omega
            · obtain rfl : j = pu.length := by omega
              have hst : st ty pu k pu.length = ⟨ty.drop k, [], pu.length⟩ := by simp [st]
              have hnr : ∃ r : Int, New w wr b ⟨ty.drop (k + 0), [], r⟩ := ⟨pu.length, by rw [Nat.add_zero]; exact hst ▸ ⟨hkr, F, hF, hqr⟩⟩
              clear hst hqr hF hkr hnewp
              obtain ⟨wo2, rfl⟩ : ∃ wo2 : World, wo2 = wr := ⟨_, rfl⟩
              by_cases hck : k < ty.length
              · have hck' : k < c1 := by omega
                obtain ⟨ad, rfl, _⟩ := s1 k (.int .u8 ty[k].toNat) (by simp [bs, hck])
                go_wp2
                go_loopw [141] (fun i wr => ∃ j : Nat, j ≤ ty.length - k ∧ i = .int .i64 j ∧ ∃ r : Int, New w wr b ⟨ty.drop (k + j), [], r⟩) (fun i _ => ty.length - k - (intOf i).toNat)
                case atStart => exact ⟨0, Nat.zero_le _, rfl, hnr⟩
                case round =>
                  obtain ⟨wy, rfl⟩ : ∃ wy : World, wy = wr := ⟨_, rfl⟩
                  obtain ⟨j, hj, rfl, rn, hkx, Fx, hFx, hqx⟩ := hrel
                  by_cases hlt3 : j < ty.length - k
                  · have hkt : k + j < ty.length := by omega
                    have hd : ty.drop (k + j) = ty[k + j] :: ty.drop (k + (j + 1)) := List.drop_eq_getElem_cons hkt
                    obtain ⟨ad', hx, hcell⟩ := s1 (k + j) (.int .u8 ty[k + j].toNat) (by simp [bs, hkt])
                    cases hx
                    have Hd := Lib.hid hd; clear hd
                    have hcr : wy.cell? ((ad.add k).add j) = some (.int .u8 ty[k + j].toNat) := by
                      rw [addr_add_add]; exact hkx.cell hcell (by simp)
                    go_wp2_with fail
                    refine Calls.mono (R := Said (.tuple #[.int .u8 ty[k + j].toNat, .bool true, .bool true]) fun w' => New w w' b ⟨ty.drop (k + (j + 1)), [], 0⟩) ((QNext_typed wy b Fx _ ty[k + j] (ty.drop (k + (j + 1))) hqx Hd.out (.inl rfl)).mono fun e w' ⟨h1, h2⟩ => ⟨h1, New.left hkx hFx h2⟩) ?_
                    rintro e wn ⟨rfl, hnew⟩
                    go_wp2
                    go_roundw
                    case rel => exact ⟨j + 1, by omega, by go_num, 0, hnew⟩
                    case measure => simp [intOf]; omega
                  · have hkt' : ty.length ≤ k + j := by omega
                    have hnil : ty.drop (k + j) = [] := List.drop_eq_nil_of_le hkt'
                    rw [hnil] at hqx
                    go_wp2_with fail
                    refine Calls.mono (R := Said (.tuple #[.int .u8 0, .bool false, .bool false]) fun w' => New w w' b ⟨[], [], rn⟩) ((QNext_none wy b Fx _ hqx rfl (.inl rfl)).mono fun e w' ⟨h1, h2⟩ => ⟨h1, New.left hkx hFx h2⟩) ?_
                    rintro e wz ⟨rfl, hkz, Fz, hFz, hqz⟩
                    go_wp2_with fail
                    refine Calls.mono (R := fun e w' => e = .returned (.int .i64 0) ∧ wz = w') (QLen_calls wz b Fz _ hqz (by simp [total])) ?_
                    rintro e w5 ⟨rfl, rfl⟩
                    go_wp2_with fail
                    refine Calls.mono (R := fun e w' => e = .returned (.int .i64 0) ∧ wz = w') (QDepth_calls wz b Fz _ hqz) ?_
                    rintro e w5 ⟨rfl, rfl⟩
                    go_wp2
                    go_ret
                    exact ⟨rfl, hkz⟩
              · have hnk : ty.length ≤ k := by omega
                have hnil0 : ty.drop k = [] := List.drop_eq_nil_of_le hnk
                obtain ⟨rn, hkx, Fx, hFx, hqx⟩ := hnr
                rw [Nat.add_zero, hnil0] at hqx
                have hz0 : ty.length - k = 0 := by omega
                go_wp2
                all_goals
                  go_loopw [141] (fun i wr => i = .int .i64 0 ∧ wr = wo2) (fun i _ => 0)
                  case atStart => exact ⟨rfl, rfl⟩
                  case round =>
                    obtain ⟨rfl, rfl⟩ := hrel
                    go_wp2_with fail
                    refine Calls.mono (R := Said (.tuple #[.int .u8 0, .bool false, .bool false]) fun w' => New w w' b ⟨[], [], rn⟩) ((QNext_none _ b Fx _ hqx rfl (.inl rfl)).mono fun e w' ⟨h1, h2⟩ => ⟨h1, New.left hkx hFx h2⟩) ?_
                    rintro e wz ⟨rfl, hkz, Fz, hFz, hqz⟩
                    go_wp2_with fail
                    refine Calls.mono (R := fun e w' => e = .returned (.int .i64 0) ∧ wz = w') (QLen_calls wz b Fz _ hqz (by simp [total])) ?_
                    rintro e w5 ⟨rfl, rfl⟩
                    go_wp2_with fail
                    refine Calls.mono (R := fun e w' => e = .returned (.int .i64 0) ∧ wz = w') (QDepth_calls wz b Fz _ hqz) ?_
                    rintro e w5 ⟨rfl, rfl⟩
                    go_wp2
                    go_ret
                    exact ⟨rfl, hkz⟩
end Go.Proofs.Ytjmkgpagcefbjaa.Mac
