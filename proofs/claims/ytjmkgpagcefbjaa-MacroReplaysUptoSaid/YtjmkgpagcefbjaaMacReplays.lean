/- MacReplays: true for all parts whose bytes are few. -/
import Derived.Test.YtjmkgpagcefbjaaMacOrder
import Derived.Test.YtjmkgpagcefbjaaRec
import Derived.Test.YtjmkgpagcefbjaaJoin
namespace Go.Proofs.Ytjmkgpagcefbjaa.Mac
open Go Go.RowKit Go.Proofs.Ytjmkgpagcefbjaa.Rw Go.Proofs.Ytjmkgpagcefbjaa.Rec Go.Proofs.Ytjmkgpagcefbjaa.Join Go.Proofs.Ytjmkgpagcefbjaa.Bulk

theorem flat_take (ls : List (List UInt8)) (k : Nat) (h : k < ls.length) : (ls.take (k + 1)).flatten = (ls.take k).flatten ++ ls[k] := by
  rw [List.take_succ_eq_append_getElem h, List.flatten_append]; simp
theorem flat_take_le (ls : List (List UInt8)) (k : Nat) : (ls.take k).flatten.length ≤ ls.flatten.length := by
  have : ls.flatten = (ls.take k).flatten ++ (ls.drop k).flatten := by rw [← List.flatten_append, List.take_append_drop]
  rw [this, List.length_append]; omega

set_option maxRecDepth 100000 in
set_option maxHeartbeats 1000000 in
theorem replays_calls (w : World) (A : Option Addr) (c : Nat) (vs : List Value) (ls : List (List UInt8)) (hs : Src w A vs) (hp : Parts w vs ls) (hc : ls.length ≤ c) (hsum : ls.flatten.length ≤ 1048576) (hn : ls.length ≤ 1048576) :
    Calls Try.prog 4 #[.slice A ls.length c] w (Said (.bool true) fun w' => Keeps [] w w') := by
  go_enter Try.func4, Try.ntmps4
  go_wp2_with fail
  refine (RNew_calls _).mono ?_
  rintro e w1 ⟨rfl, hk1, hr1⟩
  obtain ⟨br, hbr⟩ : ∃ br, br = w.heap.size := ⟨_, rfl⟩
  rw [← hbr] at hr1 ⊢
  have Hbr := Lib.hid hbr; clear hbr
  go_wp2_with fail
  refine (QNew_calls _).mono ?_
  rintro e w2 ⟨rfl, hk2, hq2⟩
  obtain ⟨bq, hbq⟩ : ∃ bq, bq = w1.heap.size := ⟨_, rfl⟩
  rw [← hbq] at hq2 ⊢
  have Hbq := Lib.hid hbq; clear hbq
  have hk1w := Lib.hid hk1.size
  go_wp2_with fail
  refine (begun_calls _).mono ?_
  rintro e w3 ⟨rfl, hk3⟩
  have hk13 := hk2.trans hk3
  have hr3 := hr1.keeps hk13 (by simp)
  have hq3 := hq2.keeps hk3 (by simp)
  have hkw3 := hk1.trans hk13
  go_wp2_with fail
  refine Calls.mono (R := Said (.int .i64 0) fun w' => RLeft w3 w' br [br] ⟨[], true, [], false⟩) (RStart_calls w3 br [br] _ hr3) ?_
  rintro e w4 ⟨rfl, hr4⟩
  obtain ⟨hk4, Fr4, hFr4, hr4'⟩ := hr4
  go_wp2_with fail
  refine Calls.mono (R := Said (.int .i64 6) fun w' => RLeft w4 w' br Fr4 ⟨[], true, [], false⟩) (RStart_calls w4 br Fr4 _ hr4') ?_
  rintro e w5 ⟨rfl, hk5, Fr5, hFr5, hr5⟩
  have h31 := hk1.size
  have h13 := hk13.size
  have h45 := hk4.size
  have h56 := hk5.size
  have hqlt : bq < w3.heap.size := hq3.lt bq (by simp)
  have hrq : br ≠ bq := by have := Hbr.out; have := Hbq.out; have := hr1.lt br (by simp); omega
  have hFn : ∀ k, k ∈ Fr5 → w.heap.size ≤ k ∧ k ≠ bq := by
    intro k hk
    have := Hbr.out
    rcases hFr5 k hk with h | h
    · rcases hFr4 k h with h | h
      · simp at h; subst h; exact ⟨by omega, hrq⟩
      · exact ⟨by omega, by omega⟩
    · exact ⟨by omega, by omega⟩
  have hq5 := (hq3.keeps hk4 (by simp; omega)).keeps hk5 (by
    intro i hi hi'
    simp at hi; subst hi
    rcases hFr4 i hi' with h | h
    · simp at h; omega
    · omega)
  have hkw5 : Keeps [] w w5 := (hkw3.then hk4 (fun i hi => by simp at hi; have := Hbr.out; exact .inr (by omega))).then hk5 (fun i hi => by
    have := Hbr.out
    rcases hFr4 i hi with h | h
    · simp at h; exact .inr (by omega)
    · exact .inr (by omega))
  clear hr1 hq2 hr3 hq3 hr4' hFr4 hFr5 hk4 hk5 hk13 hkw3 hk3 hk2 hk1 h31 h13 h45 h56 hqlt hrq
  go_wp2_with fail
  refine (Join_calls w5 A c vs ls (hs.keeps hkw5 (by simp)) (parts_keeps hp hkw5) hc hsum hn).mono ?_
  rintro e w6 ⟨A', c', rfl, hlc, hcm, hsa, hA', hk6⟩
  have hkw6 := hkw5.trans hk6
  have hr6 := hr5.keeps hk6 (by simp)
  have hq6 := hq5.keeps hk6 (by simp)
  have hsaF : ∀ a, A' = some a → a.block ∉ Fr5 := fun a ha hf => by have := hA' a ha; have := hr5.lt _ hf; omega
  have hA'q : ∀ a, A' = some a → a.block ≠ bq := fun a ha e => by have := hA' a ha; have := hq5.lt bq (by simp); omega
  clear hr5 hq5 hk6 hkw5 hA'
  obtain ⟨all, hall⟩ : ∃ all, all = ls.flatten := ⟨_, rfl⟩
  rw [← hall] at hsa hlc hsum ⊢
  have Hall := Lib.hid hall; clear hall
  have hstart : RLeft w6 w6 br Fr5 ⟨[], true, [], false⟩ := RLeft.refl hr6
  unfold maxLen at hcm
  go_wp2_with fail
  go_loopw [42] (fun i wr => ∃ k : Nat, k ≤ ls.length ∧ i = .int .i64 k ∧ (ls.take k).flatten.length ≤ 128 ∧ RLeft w6 wr br Fr5 ⟨(ls.take k).flatten, true, [], false⟩) (fun i _ => ls.length - (intOf i).toNat)
  case atStart => exact ⟨0, Nat.zero_le _, rfl, by simp, hstart⟩
  case round =>
    obtain ⟨k, hk, rfl, hln, hkr, Fr, hFr, hrr⟩ := hrel
    have hkwr : Keeps [] w wr := hkw6.then hkr (fun i hi => .inr (hFn i hi).1)
    have hqr := hq6.keeps hkr (by intro i hi hi'; simp at hi; exact (hFn i hi').2 hi)
    by_cases hlt : k < ls.length
    · have hvk : k < vs.length := by rw [hp.1]; exact hlt
      obtain ⟨ad, hA, hcell⟩ := hs k vs[k] (List.getElem?_eq_getElem hvk)
      obtain ⟨p, cp, hv, hcp, hcpm, hsp⟩ := hp.2 k vs[k] ls[k] (List.getElem?_eq_getElem hvk) (List.getElem?_eq_getElem hlt)
      rw [hv] at hcell
      subst hA
      have hcr := hkwr.cell hcell (by simp)
      have hspr := hsp.keeps hkwr (by simp)
      have hft := flat_take ls k hlt
      have hfl := flat_take_le ls (k + 1)
      rw [hft, List.length_append, ← Hall.out] at hfl
      have Hft := Lib.hid hft; clear hft hv
      unfold maxLen at hcpm
      clear hcell
      go_wp2_with fail
      by_cases hlong : 128 < (ls.take k).flatten.length + ls[k].length
      · refine Calls.mono (R := Said (.int .i64 3) fun w' => RLeft wr w' br Fr ⟨[], false, [], false⟩) ?_ ?_
        · have := RPut_calls wr br Fr _ p cp ls[k] hrr hspr (by omega) hln
          rw [show RS.put ⟨(ls.take k).flatten, true, [], false⟩ ls[k] = (3, ⟨[], false, [], false⟩) by simp only [RS.put, if_true, if_pos hlong]] at this
          exact this
        rintro e wn ⟨rfl, hkn, Fn, hFn', hrn⟩
        have hx : decide ((128 : Int) < (all.length : Int)) = true := by simp only [decide_eq_true_eq]; omega
        have hkn' : Keeps [] w wn := hkwr.then hkn (fun i hi => by
          rcases hFr i hi with h | h
          · exact .inr (hFn i h).1
          · exact .inr (by have := hkw6.size; omega))
        clear hfl hln hlong
        go_wp2_with fail
        refine Calls.mono (R := fun e w' => e = .returned (.bool false) ∧ wn = w') (ROn_calls wn br Fn _ hrn) ?_
        rintro e w9 ⟨rfl, rfl⟩
        go_wp2_with fail
        refine Calls.mono (R := Said (.int .i64 6) fun w' => RLeft wn w' br Fn ⟨[], false, [], false⟩) (REnd_calls wn br Fn _ hrn) ?_
        rintro e w9 ⟨rfl, hk9, F9, hF9, hr9⟩
        go_wp2
        go_ret
        refine ⟨rfl, hkn'.then hk9 (fun i hi => ?_)⟩
        rcases hFn' i hi with h | h
        · rcases hFr i h with h | h
          · exact .inr (hFn i h).1
          · exact .inr (by have := hkw6.size; omega)
        · exact .inr (by have := hkwr.size; omega)
      · refine Calls.mono (R := Said (.int .i64 0) fun w' => RLeft wr w' br Fr ⟨(ls.take (k + 1)).flatten, true, [], false⟩) ?_ ?_
        · have := RPut_calls wr br Fr _ p cp ls[k] hrr hspr (by omega) hln
          rw [show RS.put ⟨(ls.take k).flatten, true, [], false⟩ ls[k] = (0, ⟨(ls.take (k + 1)).flatten, true, [], false⟩) by simp only [RS.put, if_true, if_neg hlong, Hft.out]] at this
          exact this
        rintro e wn ⟨rfl, hrn⟩
        have hrn' : RLeft w6 wn br Fr5 ⟨(ls.take (k + 1)).flatten, true, [], false⟩ := by
          obtain ⟨hkn, Fn, hFn', hrn⟩ := hrn
          refine ⟨hkr.then hkn hFr, Fn, fun i hi => ?_, hrn⟩
          rcases hFn' i hi with h | h
          · exact hFr i h
          · exact .inr (by have := hkr.size; omega)
        have hl1 : (ls.take (k + 1)).flatten.length ≤ 128 := by rw [Hft.out, List.length_append]; omega
        clear hfl hlong
        go_wp2
        go_roundw
        case rel => exact ⟨k + 1, by omega, by go_num, hl1, hrn'⟩
        case measure => simp [intOf]; omega
    · obtain rfl : k = ls.length := by omega
      rw [List.take_length, ← Hall.out] at hrr hln
      have hsar : Src wr A' (bs all) := hsa.keeps hkr (fun a ha _ => hsaF a ha)
      go_wp2_with fail
      refine Calls.mono (R := fun e w' => e = .returned (.tuple #[.string ⟨#[]⟩, .bool false]) ∧ Keeps [] wr w') (RLast_calls wr br Fr _ hrr) ?_
      rintro e wa ⟨rfl, hka⟩
      have hra := hrr.keeps hka (by simp)
      have hqa := hqr.keeps hka (by simp)
      have hsaa := hsar.keeps hka (by simp)
      have hkwa := hkwr.trans hka
      clear hrr hqr hsar hka hkwr
      go_wp2_with fail
      refine Calls.mono (R := fun e w' => e = .returned (.bool true) ∧ wa = w') (ROn_calls wa br Fr _ hra) ?_
      rintro e w9 ⟨rfl, rfl⟩
      go_wp2_with fail
      refine Calls.mono (R := Said (.int .i64 0) fun w' => RLeft wa w' br Fr ⟨[], false, all, true⟩) (REnd_calls wa br Fr _ hra) ?_
      rintro e wb ⟨rfl, hkb, Fb, hFb, hrb⟩
      have hFrn : ∀ i, i ∈ Fr → w.heap.size ≤ i ∧ i ≠ bq ∧ (∀ a, A' = some a → 0 < (bs all).length → a.block ≠ i) := fun i hi => by
        rcases hFr i hi with h | h
        · exact ⟨(hFn i h).1, (hFn i h).2, fun a ha _ e => hsaF a ha (e ▸ h)⟩
        · refine ⟨by have := hkw6.size; omega, fun e => ?_, fun a ha h0 e => ?_⟩
          · have := hq6.lt bq (by simp); omega
          · obtain ⟨ad', hA2, hcl⟩ := hsa 0 _ (List.getElem?_eq_getElem h0)
            rw [ha] at hA2; cases hA2
            have := World.block_lt_of_cell? _ _ hcl
            have e2 : (a.add 0).block = a.block := by simp [Addr.add]
            omega
      have hkwb := hkwa.then hkb (fun i hi => .inr (hFrn i hi).1)
      have hqb := hqa.keeps hkb (by intro i hi hi'; simp at hi; exact (hFrn i hi').2.1 hi)
      have hsab := hsaa.keeps hkb (fun a ha h0 hf => (hFrn _ hf).2.2 a ha h0 rfl)
      have hbqF : bq ∉ Fb := fun hf => by
        rcases hFb bq hf with h | h
        · exact (hFrn bq h).2.1 rfl
        · have := hqa.lt bq (by simp); omega
      go_wp2_with fail
      refine Calls.mono (R := fun e w' => e = .returned (.bool false) ∧ wb = w') (ROn_calls wb br Fb _ hrb) ?_
      rintro e w9 ⟨rfl, rfl⟩
      clear hra hqa hsaa hkwa hkb hkr hFr hFb hFrn hstart hr6 hq6 hsa hsaF
      go_wp2_with fail
      refine Calls.mono (R := fun e w' => e = .returned (.tuple #[.string ⟨all.toArray⟩, .bool true]) ∧ Keeps [] wb w') (RLast_calls wb br Fb _ hrb) ?_
      rintro e wc ⟨rfl, hkc⟩
      have hqc := hqb.keeps hkc (by simp)
      have hsac := hsab.keeps hkc (by simp)
      have hkwc := hkwb.trans hkc
      clear hqb hsab hkc hkwb hrb
      have kc := conv_string (P := Try.prog) (w := wc) 22 9 5 (c := c') Try.underlying22 Try.underlying5 Try.underlying9 hsac
      have kd := conv_bytes (P := Try.prog) 9 22 5 all Try.underlying9 Try.underlying22 Try.underlying5 wc
      go_wp2_with fail
      have hk8 := bytesWorld_keeps wc 5 ⟨all.toArray⟩
      have hs8 := bytesWorld_src wc 5 all
      have hq8 := hqc.keeps hk8 (by simp)
      have hsa8 := hsac.keeps hk8 (by simp)
      have hkw8 := hkwc.trans hk8
      have hbqn : w.heap.size ≤ bq := by
        have h1 := hk1w.out
        have := Hbq.out
        omega
      have hleft : Calls Try.prog 10 #[.pointer (some ⟨bq, 0, none⟩), .slice (some ⟨wc.heap.size, 0, none⟩) all.length (grownCap wc all.length 0 5)] (Lib.bytesWorld wc 5 ⟨all.toArray⟩)
          (Said (.int .i64 0) fun w' => Left (Lib.bytesWorld wc 5 ⟨all.toArray⟩) w' bq [bq] (st [] all 0 0)) := by
        have h9 := QPush_calls (Lib.bytesWorld wc 5 ⟨all.toArray⟩) bq [bq] ⟨[], [], 0⟩ (some ⟨wc.heap.size, 0, none⟩) (grownCap wc all.length 0 5) all hq8 hs8
        have h10 := push_st [] all 0 (by omega)
        rw [List.drop_nil] at h10
        rw [h10] at h9
        exact h9
      refine Calls.mono hleft ?_
      rintro e wd ⟨rfl, hkd, Fd, hFd, hqd⟩
      generalize hw8 : Lib.bytesWorld wc 5 ⟨all.toArray⟩ = w8 at *
      clear kc kd hw8 hk8 hs8 hq8 hleft hqc hsac hkwc
      have hkwd : Keeps [] w wd := hkw8.then hkd (fun i hi => by simp at hi; subst hi; exact .inr hbqn)
      have hsad : Src wd A' (bs all) := hsa8.keeps hkd (fun a ha _ hf => by simp at hf; exact hA'q a ha hf)
      have hFdn : ∀ i, i ∈ Fd → w.heap.size ≤ i := fun i hi => by
        rcases hFd i hi with h | h
        · simp at h; subst h; exact hbqn
        · have := hkw8.size; omega
      have hAF : ∀ a, A' = some a → 0 < (bs all).length → a.block ∉ Fd := fun a ha h0 hf => by
        rcases hFd _ hf with h | h
        · simp at h; exact hA'q a ha h
        · obtain ⟨ad', hA2, hcl⟩ := hsa8 0 _ (List.getElem?_eq_getElem h0)
          rw [ha] at hA2; cases hA2
          have := World.block_lt_of_cell? _ _ hcl
          have e2 : (a.add 0).block = a.block := by simp [Addr.add]
          omega
      have hnewd : Left wd wd bq Fd (st [] all 0 0) := Left.refl hqd
      clear hkd hFd hqd hkw8 hsa8
      go_wp2_with fail
      obtain ⟨wo, rfl⟩ : ∃ wo : World, wo = wr := ⟨_, rfl⟩
      go_loopw [115] (fun i wr => ∃ j : Nat, j ≤ all.length ∧ i = .int .i64 j ∧ Left wd wr bq Fd (st [] all 0 j)) (fun i _ => all.length - (intOf i).toNat)
      case atStart => exact ⟨0, Nat.zero_le _, rfl, hnewd⟩
      case round =>
        obtain ⟨j, hj, rfl, hleftr⟩ := hrel
        obtain ⟨hkr, F, hF, hqr⟩ := hleftr
        by_cases hlt2 : j < all.length
        · obtain ⟨ad, rfl, hcell⟩ := (hsad.keeps hkr hAF) j (.int .u8 all[j].toNat) (by simp [bs, hlt2])
          have Hm := Lib.hid (st_macros [] all 0 j hlt2)
          have Hp := Lib.hid (st_pop [] all 0 j)
          go_wp2_with fail
          refine Calls.mono (R := Said (.tuple #[.int .u8 all[j].toNat, .bool true, .bool false]) fun w' => Left wd w' bq Fd (st [] all 0 (j + 1))) ?_ ?_
          · refine (QNext_macro wr bq F _ [] all[j] (all.drop (j + 1)) hqr Hm.out (show ((j : Int)) < 256 by omega)).mono fun e w' ⟨h1, hkn, Fn, hFn', hqn⟩ => ⟨h1, hkr.then hkn hF, Fn, fun i hi => ?_, by rw [Hp.out] at hqn; exact hqn⟩
            rcases hFn' i hi with h | h
            · exact hF i h
            · exact .inr (by have := hkr.size; omega)
          rintro e wn ⟨rfl, hnew⟩
          go_wp2
          go_roundw
          case rel => exact ⟨j + 1, by omega, by go_num, hnew⟩
          case measure => simp [intOf]; omega
        · obtain rfl : j = all.length := by omega
          have hst : st [] all 0 all.length = ⟨[], [], all.length⟩ := by simp [st]
          rw [hst] at hqr
          clear hst
          go_wp2_with fail
          refine Calls.mono (R := fun e w' => e = .returned (.int .i64 0) ∧ _ = w') (QLen_calls _ bq F _ hqr (by simp [total])) ?_
          rintro e w9 ⟨rfl, rfl⟩
          go_wp2
          go_ret
          exact ⟨rfl, hkwd.then hkr (fun i hi => .inr (hFdn i hi))⟩
end Go.Proofs.Ytjmkgpagcefbjaa.Mac
