/- bytes.Replace: every instance of one or two bytes by one. -/
import Derived.Test.YtomdhiphiediaaaDoorSearch
import Derived.Test.YtomdhiphiediaaaDoorPasteP
import Derived.Deep.CutRange
import Derived.StillTailTactics
import Derived.KernelRfl
namespace Go.Proofs.YtomdhiphiediaaaDoor.Dec
open Go Go.RowKit Go.Proofs.YtomdhiphiediaaaDoor.Rw

/-- A new row of bytes. -/
def MadeB (w w' : World) (e : Ending) (l : List UInt8) : Prop := ∃ A c, e = .returned (.slice A l.length c) ∧ Row w' 5 1 (.slice A l.length c) l.length (bs l) ∧ Keeps [] w w' ∧ ∀ k, k ∈ fp (.slice A l.length c) → w.heap.size ≤ k
theorem count_zero {s old : List UInt8} (ho : 0 < old.length) (h : Lib.count s old = 0) : Lib.index s old = -1 := by
  by_cases hi : Lib.index s old = -1
  · exact hi
  · have hge := Lib.index_ge s old
    obtain ⟨i, hi2⟩ : ∃ i : Nat, Lib.index s old = i := ⟨(Lib.index s old).toNat, by omega⟩
    have := Lib.count_hit (List.length_pos_iff.1 ho) hi2
    omega
theorem count_pos {s old : List UInt8} (ho : 0 < old.length) (h : 0 < Lib.count s old) : ∃ i : Nat, Lib.index s old = i ∧ i + old.length ≤ s.length ∧ Lib.count s old = 1 + Lib.count (s.drop (i + old.length)) old := by
  have hge := Lib.index_ge s old
  by_cases hi : Lib.index s old = -1
  · rw [Lib.count_miss hi] at h; omega
  · obtain ⟨i, hi2⟩ : ∃ i : Nat, Lib.index s old = i := ⟨(Lib.index s old).toNat, by omega⟩
    have hr := Lib.index_room s old (by omega)
    exact ⟨i, hi2, by omega, Lib.count_hit (List.length_pos_iff.1 ho) hi2⟩
theorem canon (d0 news : List Value) (z : Value) (N p i : Nat) (hp : d0.length = p) (_hi : news.length = i) (_h : p + i ≤ N) :
    (d0 ++ List.replicate (N - p) z).take p ++ (news ++ (d0 ++ List.replicate (N - p) z).drop (p + i)) = (d0 ++ news) ++ List.replicate (N - (p + i)) z := by
  subst hp
  rw [List.take_left, ← List.drop_drop, List.drop_left, List.drop_replicate, List.append_assoc, Nat.sub_sub]
/-- The loop's relation. -/
def RLoop (w : World) (s old : List UInt8) (F : List UInt8 → List UInt8) (N m g : Nat) (wv st i : Value) (wr : World) : Prop :=
  ∃ (done : List UInt8) (start cnt : Nat), wv = .int .i64 done.length ∧ st = .int .i64 start ∧ i = .int .i64 cnt ∧ start ≤ s.length ∧ cnt + Lib.count (s.drop start) old = m ∧ done ++ F (s.drop start) = F s ∧
    Row wr 5 1 (.slice (some ⟨g, 0, none⟩) N N) N (bs done ++ List.replicate (N - done.length) (.int .u8 0)) ∧ Keeps [] w wr
section
variable (w : World) (A B C : Option Addr) (c d e2 : Nat) (s old : List UInt8) (F : List UInt8 → List UInt8)
set_option maxRecDepth 100000 in
set_option maxHeartbeats 2000000 in
theorem Replace_none (hM : MaxC w) (hs : Src w A (bs s)) (hold : Src w B (bs old)) (ho : 0 < old.length) (ho2 : old.length ≤ 2) (hz : A = none → c = 0) (hc : s.length ≤ c) (hl : s.length ≤ 1048576) (hF : Repl old [10] F) (h0 : Lib.count s old = 0) :
    Calls Tryd.prog 39 #[.slice A s.length c, .slice B old.length d, .slice C 1 e2, .int .i64 (-1)] w fun e w' => MadeB w w' e (F s) := by
  have hC := Count_calls w hM A c s B d old hs hold ho ho2 hz hc (by omega)
  rw [h0] at hC
  rw [hF.miss s (count_zero ho h0)]
  have Hs := Lib.hid hs
  have HC := Lib.hid hC
  clear hC hs hold hz h0
  go_enter Tryd.func39, Tryd.ntmps39
  go_wp2_with (first
    | (go_at_call 44; refine HC.out.mono ?_; rintro e w1 ⟨rfl, hk1⟩)
    | (at_builtin; refine wpList_append_row rfl _ _ 22 rfl elB _ _ _ rfl (Row.nil _ _ _ none) _ s.length c (bs s) rfl (by rw [bs_length, Nat.mul_one]) (Hs.out.keeps hk1 (fun _ _ _ => by simp)) (bs_one s) (by unfold maxLen; omega) (by omega) ?_; intro A3 c3 w3 hrow3 hk3 hf3))
  go_ret
  simp only [Nat.zero_add, List.nil_append] at hrow3 hf3
  have hz1 := hk1.size
  refine ⟨A3, c3, rfl, hrow3, hk1.then hk3 (fun i hi => absurd hi (by show i ∉ fp (.slice none 0 0); simp [fp])), fun k hk => ?_⟩
  rcases hf3 k hk with h | h
  · exact absurd h (by show k ∉ fp (.slice none 0 0); simp [fp])
  · omega
set_option maxRecDepth 100000 in
set_option maxHeartbeats 4000000 in
theorem Replace_some (hM : MaxC w) (hs : Src w A (bs s)) (hold : Src w B (bs old)) (hnew : Src w C (bs [10])) (k : Nat) (hk : old.length = k) (ho2 : k = 1 ∨ k = 2) (hz : A = none → c = 0) (hc : s.length ≤ c) (hcm : c ≤ 9223372036854775807) (hl : s.length ≤ 1048576) (hF : Repl old [10] F) (m : Nat) (hm : Lib.count s old = m) (h0 : 0 < m) :
    Calls Tryd.prog 39 #[.slice A s.length c, .slice B k d, .slice C 1 e2, .int .i64 (-1)] w fun e w' => MadeB w w' e (F s) := by
  have ho : 0 < old.length := by omega
  have hC := Count_calls w hM A c s B d old hs hold ho (by omega) hz hc (by omega)
  rw [hm, hk] at hC
  have hlen := repl_length hF ho _ s (Nat.le_refl _)
  rw [hm, hk] at hlen
  have hmb : m ≤ s.length + 1 := by rw [← hm]; exact Lib.count_le _ _
  obtain ⟨A0, rfl⟩ : ∃ a, A = some a := by
    cases A with
    | some a => exact ⟨a, rfl⟩
    | none => obtain rfl := src_none hs; rw [Lib.count_miss (by unfold Lib.index; cases old with | nil => simp at ho | cons _ _ => rfl)] at hm; omega
  have hI := fun (wx : World) (kx : Keeps [] w wx) (p : Nat) (hp : p ≤ s.length) => Index_calls wx (hM.keeps kx) (cutA (some A0) c p) (c - p) (s.drop p) B d old (by have := (hs.keeps kx (fun _ _ _ => by simp)).cutA c p (by rw [bs_length]; exact hc); rwa [show (bs s).drop p = bs (s.drop p) by simp [bs]] at this) (hold.keeps kx (fun _ _ _ => by simp)) ho (by omega) (fun h => by unfold cutA at h; split at h <;> simp at h) (by rw [List.length_drop]; omega) (by rw [List.length_drop]; omega)
  rw [hk] at hI
  simp only [List.length_drop] at hI
  have HI := Lib.hid hI
  have HC := Lib.hid hC
  have Hs := Lib.hid hs
  have Hnew := Lib.hid hnew
  have Hm := Lib.hid hm
  have HFF := Lib.hid hF
  have Hk := Lib.hid hk
  clear hC hs hold hz hI hnew hm hF hM ho
  obtain ⟨N, hN⟩ : ∃ N, (F s).length = N := ⟨_, rfl⟩
  rw [hN] at hlen
  have HN := Lib.hid hN
  clear hN
  rcases ho2 with rfl | rfl
  · obtain rfl : N = s.length := by omega
    clear hlen
    have hse : True := trivial
    go_enter Tryd.func39, Tryd.ntmps39
    go_wp2_with (first
      | (go_at_call 44; refine HC.out.mono ?_; rintro e w1 ⟨rfl, hk1⟩)
      | (refine wpList_make_row rfl _ _ 22 rfl elB rfl .i64 .i64 s.length rfl rfl (by omega) (by unfold maxLen; omega) ?_; intro w2 hrow2 hk2 hz2))
    have k2 := hk1.trans hk2
    obtain ⟨g, hg⟩ : ∃ g, g = w1.heap.size := ⟨_, rfl⟩
    rw [← hg] at hrow2 ⊢
    have hgz : w.heap.size ≤ g := by rw [hg]; exact hk1.size
    clear hg hz2 hse
    have hS : RLoop w s old F s.length m g (.int .i64 0) (.int .i64 0) (.int .i64 0) w2 := ⟨[], 0, 0, rfl, rfl, rfl, by omega, by rw [List.drop_zero]; have := Hm.out; omega, by simp, by simpa [bs] using hrow2, k2⟩
    clear hrow2 k2 hk2 hk1
    go_loopw [11, 12, 49] (fun wv st i wr => RLoop w s old F s.length m g wv st i wr) (fun _ _ i _ => m - (intOf i).toNat)
    case atStart => exact hS
    case round =>
      clear hS
      obtain ⟨done, start, cnt, rfl, rfl, rfl, hst, hcnt, hdone, hrow, hkr⟩ := hrel
      have hdl : done.length + (F (s.drop start)).length = s.length := by
        have := congrArg List.length hdone
        rw [List.length_append, HN.out] at this
        exact this
      by_cases hlt : cnt < m
      · obtain ⟨i, hi, hroom, hc2⟩ := count_pos (s := s.drop start) (old := old) (by rw [Hk.out]; decide) (by omega)
        have hFh := HFF.out.hit _ i hi
        rw [Hk.out] at hroom hc2 hFh
        rw [List.drop_drop] at hc2 hFh
        rw [List.length_drop] at hroom
        have hI2 := HI.out wr hkr start hst
        rw [hi] at hI2
        have HI2 := Lib.hid hI2
        have hw1 : done.length + i + 1 ≤ s.length := by rw [hFh] at hdl; simp at hdl; omega
        have HFh := Lib.hid hFh
        have Hc2 := Lib.hid hc2
        have Hdone := Lib.hid hdone
        have Hcnt := Lib.hid hcnt
        have hnw : ¬ s.length = done.length := by omega
        have hcs : ¬ c = start := by omega
        have hnw2 : ¬ s.length = done.length + i := by omega
        clear hI2 hi hc2 hFh hdone hcnt hdl
        have hsl : start ≤ s.length := hst
        go_upto_region 15 with (first
          | (refine wpList_slice_l rfl _ _ 22 rfl elB (some A0) s.length c start rfl rfl hsl ?_)
          | (go_at_call 45; (with_reducible refine HI2.out.mono ?_); rintro e w3 ⟨rfl, hk3⟩))
        obtain ⟨j, hj⟩ : ∃ j, j = start + i := ⟨_, rfl⟩
        rw [show (start : Int) + (i : Int) = (j : Int) by omega]
        have hk3' := hkr.trans hk3
        have hrow3 := hrow.keeps hk3 (fun _ _ => by simp)
        have hS3 : Src w3 (some (A0.add start)) (bs ((s.drop start).take i)) := by
          have := ((Hs.out.keeps hk3' (fun _ _ _ => by simp)).drop start).take i
          rwa [show ((bs s).drop start).take i = bs ((s.drop start).take i) by simp [bs]] at this
        have hnl : (bs ((s.drop start).take i)).length = i := by rw [bs_length, List.length_take, List.length_drop]; omega
        have hroomD : done.length + (s.length - done.length) ≤ s.length ∧ ∃ g' off', (some ⟨g, 0, none⟩ : Option Addr) = some ⟨g', off', none⟩ ∧ (some ⟨g, done.length, none⟩ : Option Addr) = some ⟨g', off' + done.length, none⟩ := ⟨by omega, g, 0, rfl, by rw [Nat.zero_add]⟩
        have hroomE := Lib.hid hroomD; clear hroomD
        have hmi : i ≤ s.length - done.length := by omega
        have ha1 : IntKind.i64.wrap ((done.length : Int) + (i : Int)) = ((done.length + i : Nat) : Int) := by rw [IntWalk.i64_in _ (by omega)]; omega
        have hji : j - start = i := by omega
        have hsw : done.length ≤ s.length := by omega
        have hjs : j ≤ c := by omega
        have hss : start ≤ j := by omega
        have hjl : j + 1 ≤ s.length := by omega
        have Hj := Lib.hid hj
        clear hrow hk3 hj
        obtain ⟨w4, hrun4, hrow4, hk4, hz4⟩ := run_copy_cut (P := Tryd.prog) (w := w3.drew) 22 22 3 elB (some ⟨g, 0, none⟩) s.length s.length _ hrow3.drew (some ⟨g, done.length, none⟩) (s.length - done.length) (s.length - done.length) done.length (fun _ => hroomE.out) (some (A0.add start)) i (c - start) (bs ((s.drop start).take i)) hnl hS3.drew (bs_one _)
        rw [show Nat.min i (s.length - done.length) = i from Nat.min_eq_left hmi] at hrun4
        rw [List.take_of_length_le (show (bs ((s.drop start).take i)).length ≤ s.length - done.length by omega), hnl] at hrow4
        have Hrow4 := Lib.hid hrow4
        clear hrow4
        go_region
        have hrow5 : Row w4 5 1 (.slice (some ⟨g, 0, none⟩) s.length s.length) s.length (bs (done ++ (s.drop start).take i) ++ List.replicate (s.length - (done.length + i)) (.int .u8 0)) := by
          have := Hrow4.out
          rw [canon (bs done) (bs ((s.drop start).take i)) _ s.length done.length i (bs_length _) hnl (by omega), ← bs_append] at this
          exact this
        have hk4' : Keeps [] w w4 := (hk3'.drew).then hk4 (fun x hx => .inr (by rw [fp_some (by omega)] at hx; simp at hx; omega))
        have hpl : (done ++ (s.drop start).take i).length = done.length + i := by rw [List.length_append, ← bs_length ((s.drop start).take i), hnl]
        obtain ⟨p, hp⟩ : ∃ p, p = done.length + i := ⟨_, rfl⟩
        rw [← hp] at hrow5 hpl hnw2
        rw [show (done.length : Int) + (i : Int) = (p : Int) by omega]
        have hroomP : p + (s.length - p) ≤ s.length ∧ ∃ g' off', (some ⟨g, 0, none⟩ : Option Addr) = some ⟨g', off', none⟩ ∧ (some ⟨g, p, none⟩ : Option Addr) = some ⟨g', off' + p, none⟩ := ⟨by omega, g, 0, rfl, by rw [Nat.zero_add]⟩
        have hp1 : p + 1 ≤ s.length := by omega
        have Hp := Lib.hid hp
        clear hp hw1 hnw ha1 hroomE hrun4 hk4 hz4 hS3 hnl hrow3 hk3' Hrow4 hmi hcs hji
        obtain ⟨w5, hrun5, hrow6, hk5, hz5⟩ := run_copy_cut (P := Tryd.prog) (w := w4) 22 22 3 elB (some ⟨g, 0, none⟩) s.length s.length _ hrow5 (some ⟨g, p, none⟩) (s.length - p) (s.length - p) p (fun _ => hroomP) C 1 e2 (bs [10]) rfl (Hnew.out.keeps hk4' (fun _ _ _ => by simp)) (bs_one _)
        rw [show Nat.min 1 (s.length - p) = 1 from Nat.min_eq_left (by omega)] at hrun5
        rw [List.take_of_length_le (show (bs [10]).length ≤ s.length - p by rw [bs_length]; simp; omega), canon (bs (done ++ (s.drop start).take i)) (bs [10]) _ s.length p (bs [10]).length (by rw [bs_length, hpl]) rfl (by rw [bs_length]; simp; omega), ← bs_append] at hrow6
        have Hrow6 := Lib.hid hrow6
        clear hrow6 hrow5 hroomP
        have hk5' : Keeps [] w w5 := hk4'.then hk5 (fun x hx => .inr (by rw [fp_some (by omega)] at hx; simp at hx; omega))
        have hpN : p ≤ s.length := by omega
        have hjb : (j : Int) + 1 ≤ 9223372036854775807 := by omega
        go_wp2_with fail
        have hj := Hj.out
        refine ⟨⟨done ++ (s.drop start).take i ++ [10], j + 1, cnt + 1, ?_, by go_num, by go_num, hjl, ?_, ?_, ?_, hk5'⟩, ?_⟩
        · congr 1; rw [List.length_append, hpl]; simp
        · have h1 := Hc2.out
          have h2 := Hcnt.out
          rw [show start + (i + 1) = j + 1 by omega] at h1
          omega
        · have h1 := HFh.out
          have h2 := Hdone.out
          rw [h1, show start + (i + 1) = j + 1 by omega] at h2
          rw [← h2]
          simp only [List.append_assoc]
        · have := Hrow6.out
          rw [show p + (bs [10]).length = (done ++ (s.drop start).take i ++ [10]).length by rw [List.length_append, hpl]; rfl] at this
          exact this
        · simp [intOf]; omega
      · have hcnt0 : Lib.count (s.drop start) old = 0 := by omega
        have hFr := HFF.out.miss _ (count_zero (by rw [Hk.out]; decide) hcnt0)
        rw [hFr] at hdone hdl
        have hcm2 : cnt = m := by omega
        have Hdone := Lib.hid hdone
        rw [List.length_drop] at hdl
        clear hcnt hcnt0 hFr hdone
        by_cases hre : start = s.length
        · subst hre
          have hdN : done.length = s.length := by omega
          have hsz : (Tryd.prog.info? 5).map (·.size) = some 1 := by
            obtain ⟨i, hi, _, hsize, _⟩ := info_parts elB.info
            rw [hi, Option.map_some, hsize]
          have hrow9 : Row wr 5 1 (.slice (some ⟨g, 0, none⟩) s.length s.length) s.length (bs (F s)) := by
            have h1 := Hdone.out
            rw [List.drop_length, List.append_nil] at h1
            rw [hdN, Nat.sub_self, List.replicate_zero, List.append_nil, h1] at hrow
            exact hrow
          have Hrow9 := Lib.hid hrow9
          clear hrow9 hrow hdl
          by_cases hcl : c = s.length
          · subst hcl
            have hrun := run_copy_none (P := Tryd.prog) wr.drew 22 22 3 5 (some ⟨g, 0, none⟩) (some A0) 0 0 0 0 elB.under hsz rfl
            go_upto_region 28 with fail
            go_region
            go_wp2
            go_ret
            refine ⟨some ⟨g, 0, none⟩, s.length, by rw [HN.out]; rfl, by rw [HN.out]; exact Hrow9.out.drew, hkr.drew, fun x hx => by rw [HN.out] at hx; cases hN0 : s.length <;> rw [hN0] at hx <;> simp [fp] at hx; omega⟩
          · have hrun := run_copy_none (P := Tryd.prog) wr.drew 22 22 3 5 (some ⟨g, 0, none⟩) (some (A0.add s.length)) 0 0 0 (c - s.length) elB.under hsz rfl
            go_upto_region 28 with fail
            go_region
            go_wp2
            go_ret
            refine ⟨some ⟨g, 0, none⟩, s.length, by rw [HN.out]; rfl, by rw [HN.out]; exact Hrow9.out.drew, hkr.drew, fun x hx => by rw [HN.out] at hx; cases hN0 : s.length <;> rw [hN0] at hx <;> simp [fp] at hx; omega⟩
        · have hslt : start < s.length := by omega
          have hnw : ¬ s.length = done.length := by omega
          have hcs : ¬ c = start := by omega
          have hS3 : Src wr (some (A0.add start)) (bs (s.drop start)) := by
            have := (Hs.out.keeps hkr (fun _ _ _ => by simp)).drop start
            rwa [show (bs s).drop start = bs (s.drop start) by simp [bs]] at this
          have hnl : (bs (s.drop start)).length = s.length - start := by rw [bs_length, List.length_drop]
          obtain ⟨w4, hrun4, hrow4, hk4, hz4⟩ := run_copy_cut (P := Tryd.prog) (w := wr.drew) 22 22 3 elB (some ⟨g, 0, none⟩) s.length s.length _ hrow.drew (some ⟨g, done.length, none⟩) (s.length - done.length) (s.length - done.length) done.length (fun _ => ⟨by omega, g, 0, rfl, by rw [Nat.zero_add]⟩) (some (A0.add start)) (s.length - start) (c - start) (bs (s.drop start)) hnl hS3.drew (bs_one _)
          rw [show Nat.min (s.length - start) (s.length - done.length) = s.length - start from Nat.min_eq_left (by omega)] at hrun4
          rw [List.take_of_length_le (show (bs (s.drop start)).length ≤ s.length - done.length by omega), canon (bs done) (bs (s.drop start)) _ s.length done.length (bs (s.drop start)).length (bs_length _) rfl (by omega), ← bs_append, Hdone.out, show s.length - (done.length + (bs (s.drop start)).length) = 0 by omega, List.replicate_zero, List.append_nil] at hrow4
          have Hrow9 := Lib.hid hrow4
          have hk4' : Keeps [] w w4 := (hkr.drew).then hk4 (fun x hx => .inr (by rw [fp_some (by omega)] at hx; simp at hx; omega))
          have ha2 : IntKind.i64.wrap ((done.length : Int) + ((s.length - start : Nat) : Int)) = ((s.length : Nat) : Int) := by rw [IntWalk.i64_in _ (by omega)]; omega
          have ha3 : (done.length : Int) + ((s.length - start : Nat) : Int) = ((s.length : Nat) : Int) := by omega
          have hle9 : start ≤ s.length := by omega
          have hdl9 : done.length ≤ s.length := by omega
          clear hrow4 hk4 hz4 hnl hS3 hrow hdl
          go_upto_region 28 with fail
          go_region
          go_wp2
          go_ret
          refine ⟨some ⟨g, 0, none⟩, s.length, by rw [HN.out]; rfl, by rw [HN.out]; exact Hrow9.out, hk4', fun x hx => by rw [HN.out, fp_some (by omega)] at hx; simp at hx; omega⟩
  · have hml : m ≤ s.length := by omega
    have hse : (s.length : Int) + -(m : Int) = (N : Nat) := by omega
    have hNs : N ≤ s.length := by omega
    have Hmk := Lib.hid hlen
    clear hlen
    go_enter Tryd.func39, Tryd.ntmps39
    go_wp2_with (first
      | (go_at_call 44; refine HC.out.mono ?_; rintro e w1 ⟨rfl, hk1⟩)
      | (refine wpList_make_row rfl _ _ 22 rfl elB rfl .i64 .i64 N rfl rfl (by omega) (by unfold maxLen; omega) ?_; intro w2 hrow2 hk2 hz2))
    have k2 := hk1.trans hk2
    obtain ⟨g, hg⟩ : ∃ g, g = w1.heap.size := ⟨_, rfl⟩
    rw [← hg] at hrow2 ⊢
    have hgz : w.heap.size ≤ g := by rw [hg]; exact hk1.size
    clear hg hz2 hse
    have hS : RLoop w s old F N m g (.int .i64 0) (.int .i64 0) (.int .i64 0) w2 := ⟨[], 0, 0, rfl, rfl, rfl, by omega, by rw [List.drop_zero]; have := Hm.out; omega, by simp, by simpa [bs] using hrow2, k2⟩
    clear hrow2 k2 hk2 hk1
    go_loopw [11, 12, 49] (fun wv st i wr => RLoop w s old F N m g wv st i wr) (fun _ _ i _ => m - (intOf i).toNat)
    case atStart => exact hS
    case round =>
      clear hS
      obtain ⟨done, start, cnt, rfl, rfl, rfl, hst, hcnt, hdone, hrow, hkr⟩ := hrel
      have hdl : done.length + (F (s.drop start)).length = N := by
        have := congrArg List.length hdone
        rw [List.length_append, HN.out] at this
        exact this
      by_cases hlt : cnt < m
      · obtain ⟨i, hi, hroom, hc2⟩ := count_pos (s := s.drop start) (old := old) (by rw [Hk.out]; decide) (by omega)
        have hFh := HFF.out.hit _ i hi
        rw [Hk.out] at hroom hc2 hFh
        rw [List.drop_drop] at hc2 hFh
        rw [List.length_drop] at hroom
        have hI2 := HI.out wr hkr start hst
        rw [hi] at hI2
        have HI2 := Lib.hid hI2
        have hw1 : done.length + i + 1 ≤ N := by rw [hFh] at hdl; simp at hdl; omega
        have HFh := Lib.hid hFh
        have Hc2 := Lib.hid hc2
        have Hdone := Lib.hid hdone
        have Hcnt := Lib.hid hcnt
        have hnw : ¬ N = done.length := by omega
        have hcs : ¬ c = start := by omega
        have hnw2 : ¬ N = done.length + i := by omega
        clear hI2 hi hc2 hFh hdone hcnt hdl
        have hsl : start ≤ s.length := hst
        go_upto_region 15 with (first
          | (refine wpList_slice_l rfl _ _ 22 rfl elB (some A0) s.length c start rfl rfl hsl ?_)
          | (go_at_call 45; (with_reducible refine HI2.out.mono ?_); rintro e w3 ⟨rfl, hk3⟩))
        obtain ⟨j, hj⟩ : ∃ j, j = start + i := ⟨_, rfl⟩
        rw [show (start : Int) + (i : Int) = (j : Int) by omega]
        have hk3' := hkr.trans hk3
        have hrow3 := hrow.keeps hk3 (fun _ _ => by simp)
        have hS3 : Src w3 (some (A0.add start)) (bs ((s.drop start).take i)) := by
          have := ((Hs.out.keeps hk3' (fun _ _ _ => by simp)).drop start).take i
          rwa [show ((bs s).drop start).take i = bs ((s.drop start).take i) by simp [bs]] at this
        have hnl : (bs ((s.drop start).take i)).length = i := by rw [bs_length, List.length_take, List.length_drop]; omega
        have hroomD : done.length + (N - done.length) ≤ N ∧ ∃ g' off', (some ⟨g, 0, none⟩ : Option Addr) = some ⟨g', off', none⟩ ∧ (some ⟨g, done.length, none⟩ : Option Addr) = some ⟨g', off' + done.length, none⟩ := ⟨by omega, g, 0, rfl, by rw [Nat.zero_add]⟩
        have hroomE := Lib.hid hroomD; clear hroomD
        have hmi : i ≤ N - done.length := by omega
        have ha1 : IntKind.i64.wrap ((done.length : Int) + (i : Int)) = ((done.length + i : Nat) : Int) := by rw [IntWalk.i64_in _ (by omega)]; omega
        have hji : j - start = i := by omega
        have hsw : done.length ≤ N := by omega
        have hjs : j ≤ c := by omega
        have hss : start ≤ j := by omega
        have hjl : j + 2 ≤ s.length := by omega
        have Hj := Lib.hid hj
        clear hrow hk3 hj
        obtain ⟨w4, hrun4, hrow4, hk4, hz4⟩ := run_copy_cut (P := Tryd.prog) (w := w3.drew) 22 22 3 elB (some ⟨g, 0, none⟩) N N _ hrow3.drew (some ⟨g, done.length, none⟩) (N - done.length) (N - done.length) done.length (fun _ => hroomE.out) (some (A0.add start)) i (c - start) (bs ((s.drop start).take i)) hnl hS3.drew (bs_one _)
        rw [show Nat.min i (N - done.length) = i from Nat.min_eq_left hmi] at hrun4
        rw [List.take_of_length_le (show (bs ((s.drop start).take i)).length ≤ N - done.length by omega), hnl] at hrow4
        have Hrow4 := Lib.hid hrow4
        clear hrow4
        go_region
        have hrow5 : Row w4 5 1 (.slice (some ⟨g, 0, none⟩) N N) N (bs (done ++ (s.drop start).take i) ++ List.replicate (N - (done.length + i)) (.int .u8 0)) := by
          have := Hrow4.out
          rw [canon (bs done) (bs ((s.drop start).take i)) _ N done.length i (bs_length _) hnl (by omega), ← bs_append] at this
          exact this
        have hk4' : Keeps [] w w4 := (hk3'.drew).then hk4 (fun x hx => .inr (by rw [fp_some (by omega)] at hx; simp at hx; omega))
        have hpl : (done ++ (s.drop start).take i).length = done.length + i := by rw [List.length_append, ← bs_length ((s.drop start).take i), hnl]
        obtain ⟨p, hp⟩ : ∃ p, p = done.length + i := ⟨_, rfl⟩
        rw [← hp] at hrow5 hpl hnw2
        rw [show (done.length : Int) + (i : Int) = (p : Int) by omega]
        have hroomP : p + (N - p) ≤ N ∧ ∃ g' off', (some ⟨g, 0, none⟩ : Option Addr) = some ⟨g', off', none⟩ ∧ (some ⟨g, p, none⟩ : Option Addr) = some ⟨g', off' + p, none⟩ := ⟨by omega, g, 0, rfl, by rw [Nat.zero_add]⟩
        have hp1 : p + 1 ≤ N := by omega
        have Hp := Lib.hid hp
        clear hp hw1 hnw ha1 hroomE hrun4 hk4 hz4 hS3 hnl hrow3 hk3' Hrow4 hmi hcs hji
        obtain ⟨w5, hrun5, hrow6, hk5, hz5⟩ := run_copy_cut (P := Tryd.prog) (w := w4) 22 22 3 elB (some ⟨g, 0, none⟩) N N _ hrow5 (some ⟨g, p, none⟩) (N - p) (N - p) p (fun _ => hroomP) C 1 e2 (bs [10]) rfl (Hnew.out.keeps hk4' (fun _ _ _ => by simp)) (bs_one _)
        rw [show Nat.min 1 (N - p) = 1 from Nat.min_eq_left (by omega)] at hrun5
        rw [List.take_of_length_le (show (bs [10]).length ≤ N - p by rw [bs_length]; simp; omega), canon (bs (done ++ (s.drop start).take i)) (bs [10]) _ N p (bs [10]).length (by rw [bs_length, hpl]) rfl (by rw [bs_length]; simp; omega), ← bs_append] at hrow6
        have Hrow6 := Lib.hid hrow6
        clear hrow6 hrow5 hroomP
        have hk5' : Keeps [] w w5 := hk4'.then hk5 (fun x hx => .inr (by rw [fp_some (by omega)] at hx; simp at hx; omega))
        have hpN : p ≤ N := by omega
        have hjb : (j : Int) + 2 ≤ 9223372036854775807 := by omega
        go_wp2_with fail
        have hj := Hj.out
        refine ⟨⟨done ++ (s.drop start).take i ++ [10], j + 2, cnt + 1, ?_, by go_num, by go_num, hjl, ?_, ?_, ?_, hk5'⟩, ?_⟩
        · congr 1; rw [List.length_append, hpl]; simp
        · have h1 := Hc2.out
          have h2 := Hcnt.out
          rw [show start + (i + 2) = j + 2 by omega] at h1
          omega
        · have h1 := HFh.out
          have h2 := Hdone.out
          rw [h1, show start + (i + 2) = j + 2 by omega] at h2
          rw [← h2]
          simp only [List.append_assoc]
        · have := Hrow6.out
          rw [show p + (bs [10]).length = (done ++ (s.drop start).take i ++ [10]).length by rw [List.length_append, hpl]; rfl] at this
          exact this
        · simp [intOf]; omega
      · have hcnt0 : Lib.count (s.drop start) old = 0 := by omega
        have hFr := HFF.out.miss _ (count_zero (by rw [Hk.out]; decide) hcnt0)
        rw [hFr] at hdone hdl
        have hcm2 : cnt = m := by omega
        have Hdone := Lib.hid hdone
        rw [List.length_drop] at hdl
        clear hcnt hcnt0 hFr hdone
        by_cases hre : start = s.length
        · subst hre
          have hdN : done.length = N := by omega
          have hsz : (Tryd.prog.info? 5).map (·.size) = some 1 := by
            obtain ⟨i, hi, _, hsize, _⟩ := info_parts elB.info
            rw [hi, Option.map_some, hsize]
          have hrow9 : Row wr 5 1 (.slice (some ⟨g, 0, none⟩) N N) N (bs (F s)) := by
            have h1 := Hdone.out
            rw [List.drop_length, List.append_nil] at h1
            rw [hdN, Nat.sub_self, List.replicate_zero, List.append_nil, h1] at hrow
            exact hrow
          have Hrow9 := Lib.hid hrow9
          clear hrow9 hrow hdl
          by_cases hcl : c = s.length
          · subst hcl
            have hrun := run_copy_none (P := Tryd.prog) wr.drew 22 22 3 5 (some ⟨g, 0, none⟩) (some A0) 0 0 0 0 elB.under hsz rfl
            go_upto_region 28 with fail
            go_region
            go_wp2
            go_ret
            refine ⟨some ⟨g, 0, none⟩, N, by rw [HN.out]; rfl, by rw [HN.out]; exact Hrow9.out.drew, hkr.drew, fun x hx => by rw [HN.out] at hx; cases hN0 : N <;> rw [hN0] at hx <;> simp [fp] at hx; omega⟩
          · have hrun := run_copy_none (P := Tryd.prog) wr.drew 22 22 3 5 (some ⟨g, 0, none⟩) (some (A0.add s.length)) 0 0 0 (c - s.length) elB.under hsz rfl
            go_upto_region 28 with fail
            go_region
            go_wp2
            go_ret
            refine ⟨some ⟨g, 0, none⟩, N, by rw [HN.out]; rfl, by rw [HN.out]; exact Hrow9.out.drew, hkr.drew, fun x hx => by rw [HN.out] at hx; cases hN0 : N <;> rw [hN0] at hx <;> simp [fp] at hx; omega⟩
        · have hslt : start < s.length := by omega
          have hnw : ¬ N = done.length := by omega
          have hcs : ¬ c = start := by omega
          have hS3 : Src wr (some (A0.add start)) (bs (s.drop start)) := by
            have := (Hs.out.keeps hkr (fun _ _ _ => by simp)).drop start
            rwa [show (bs s).drop start = bs (s.drop start) by simp [bs]] at this
          have hnl : (bs (s.drop start)).length = s.length - start := by rw [bs_length, List.length_drop]
          obtain ⟨w4, hrun4, hrow4, hk4, hz4⟩ := run_copy_cut (P := Tryd.prog) (w := wr.drew) 22 22 3 elB (some ⟨g, 0, none⟩) N N _ hrow.drew (some ⟨g, done.length, none⟩) (N - done.length) (N - done.length) done.length (fun _ => ⟨by omega, g, 0, rfl, by rw [Nat.zero_add]⟩) (some (A0.add start)) (s.length - start) (c - start) (bs (s.drop start)) hnl hS3.drew (bs_one _)
          rw [show Nat.min (s.length - start) (N - done.length) = s.length - start from Nat.min_eq_left (by omega)] at hrun4
          rw [List.take_of_length_le (show (bs (s.drop start)).length ≤ N - done.length by omega), canon (bs done) (bs (s.drop start)) _ N done.length (bs (s.drop start)).length (bs_length _) rfl (by omega), ← bs_append, Hdone.out, show N - (done.length + (bs (s.drop start)).length) = 0 by omega, List.replicate_zero, List.append_nil] at hrow4
          have Hrow9 := Lib.hid hrow4
          have hk4' : Keeps [] w w4 := (hkr.drew).then hk4 (fun x hx => .inr (by rw [fp_some (by omega)] at hx; simp at hx; omega))
          have ha2 : IntKind.i64.wrap ((done.length : Int) + ((s.length - start : Nat) : Int)) = ((N : Nat) : Int) := by rw [IntWalk.i64_in _ (by omega)]; omega
          have ha3 : (done.length : Int) + ((s.length - start : Nat) : Int) = ((N : Nat) : Int) := by omega
          have hle9 : start ≤ s.length := by omega
          have hdl9 : done.length ≤ N := by omega
          clear hrow4 hk4 hz4 hnl hS3 hrow hdl
          go_upto_region 28 with fail
          go_region
          go_wp2
          go_ret
          refine ⟨some ⟨g, 0, none⟩, N, by rw [HN.out]; rfl, by rw [HN.out]; exact Hrow9.out, hk4', fun x hx => by rw [HN.out, fp_some (by omega)] at hx; simp at hx; omega⟩
end
end Go.Proofs.YtomdhiphiediaaaDoor.Dec
