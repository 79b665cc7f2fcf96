/- lanyardlaw07.BufferNone: what it comes to. -/
import Derived.Test.YtmnmdpgckefefaaDoorNone
namespace Go.Proofs.YtmnmdpgckefefaaDoor.Buf
open Go Go.RowKit Go.Proofs.YtmnmdpgckefefaaDoor.Rw Go.Proofs.YtmnmdpgckefefaaDoor.SlR Go.Proofs.YtmnmdpgckefefaaDoor.Words Go.Proofs.YtmnmdpgckefefaaDoor.OpArg

set_option maxRecDepth 100000 in
set_option maxHeartbeats 2000000 in
theorem none_all (w : World) (kd f t a : Int) (A : Option Addr) (n c : Nat) (Ad : Option Addr) (nd cd : Nat) (Ai : Option Addr) (ni ci : Nat) :
    Calls Tryd.prog 10 #[.agg #[.int .i64 kd, .int .i64 f, .int .i64 t, .slice A n c, .int .i64 a, .slice Ad nd cd, .slice Ai ni ci]] w (Yea w) := by
  have hk0 := (Keeps.refl [] w).alloc (.cells #[.int .i64 kd, .int .i64 f, .int .i64 t, .slice A n c, .int .i64 a, .slice Ad nd cd, .slice Ai ni ci] 26)
  have hq := blk_new w (.cells #[.int .i64 kd, .int .i64 f, .int .i64 t, .slice A n c, .int .i64 a, .slice Ad nd cd, .slice Ai ni ci] 26)
  go_enter Tryd.func10, Tryd.ntmps10
  go_wp2_with fail
  refine (live07_calls _).mono ?_
  rintro e w1 ⟨rfl, hk1⟩
  have hq1 := hk1.blk hq (by simp)
  have hk01 := hk0.trans hk1
  go_wp2_with fail
  have hkB := (hk01.alloc (.cells #[.bool false, .slice none 0 0, .int .i64 0, .int .i64 0, .int .i64 0, .int .i64 0] 67)).alloc (.cells #[.pointer none, .pointer (some ⟨w1.heap.size, 0, none⟩)] 27)
  have hqB := blk_alloc (blk_alloc hq1 (.cells #[.bool false, .slice none 0 0, .int .i64 0, .int .i64 0, .int .i64 0, .int .i64 0] 67)) (.cells #[.pointer none, .pointer (some ⟨w1.heap.size, 0, none⟩)] 27)
  have hbB := blk_alloc (blk_new w1 (.cells #[.bool false, .slice none 0 0, .int .i64 0, .int .i64 0, .int .i64 0, .int .i64 0] 67)) (.cells #[.pointer none, .pointer (some ⟨w1.heap.size, 0, none⟩)] 27)
  have hpB := blk_new (w1.alloc (.cells #[.bool false, .slice none 0 0, .int .i64 0, .int .i64 0, .int .i64 0, .int .i64 0] 67)) (.cells #[.pointer none, .pointer (some ⟨w1.heap.size, 0, none⟩)] 27)
  rw [show (w1.alloc (.cells #[.bool false, .slice none 0 0, .int .i64 0, .int .i64 0, .int .i64 0, .int .i64 0] 67)).heap.size = w1.heap.size + 1 by simp] at hpB
  generalize (w1.alloc (.cells #[.bool false, .slice none 0 0, .int .i64 0, .int .i64 0, .int .i64 0, .int .i64 0] 67)).alloc (.cells #[.pointer none, .pointer (some ⟨w1.heap.size, 0, none⟩)] 27) = w2 at *
  have hun : ∀ k : Nat, k < 2 → ∃ p, w2.cell? ⟨w1.heap.size + 1, k, none⟩ = some (.pointer p) ∧ Unmade w2 p := by
    intro k hk
    have h2 : k = 0 ∨ k = 1 := by omega
    rcases h2 with rfl | rfl
    · exact ⟨none, blk_cell hpB 0, fun a ha => by cases ha⟩
    · exact ⟨_, blk_cell hpB 1, fun a ha => by cases ha; exact ⟨_, rfl, blk_cell hbB 0⟩⟩
  have Hun := Lib.hid hun; clear hun
  clear hk0 hk1 hq hq1 hk01 hbB hpB
  go_loopw [17] (fun i wr => ∃ k : Nat, k ≤ 2 ∧ i = .int .i64 k ∧ Keeps [] w2 wr) (fun i _ => 2 - (intOf i).toNat)
  case atStart => exact ⟨0, by omega, rfl, Keeps.refl _ _⟩
  case round =>
    obtain ⟨k, hk, rfl, hkr⟩ := hrel
    by_cases hlt : k < 2
    · obtain ⟨p, hcell, hu⟩ := Hun.out k hlt
      have hc := hkr.cell hcell (by simp)
      have hu3 := hu.keeps hkr
      have hqr := hkr.blk hqB (by simp)
      have q0 := blk_cell hqr 0
      have q1 := blk_cell hqr 1
      have q2 := blk_cell hqr 2
      have q3 := blk_cell hqr 3
      clear hcell hu
      obtain ⟨w3, rfl⟩ : ∃ w3, w3 = wr := ⟨_, rfl⟩
      go_wp2_with fail
      refine (NInsert w3 p A n c hu3).mono ?_
      rintro e w4 ⟨rfl, hk4⟩
      have hka := hk4.alloc (.cells #[.int .i64 0, .slice none 0 0, .slice none 0 0] 24)
      have hu4 := hu3.keeps hka
      have hq4 := hka.blk hqr (by simp)
      clear q0 q1 q2 q3
      go_upto_region 7 with fail
      generalize w4.alloc (.cells #[.int .i64 0, .slice none 0 0, .slice none 0 0] 24) = w5 at *
      have q1 := blk_cell hq4 1
      have q2 := blk_cell hq4 2
      have q3 := blk_cell hq4 3
      go_wp2_with fail
      refine (NDelete w5 p f t hu4).mono ?_
      rintro e w6 ⟨rfl, hk6⟩
      have hkb := hk6.alloc (.cells #[.int .i64 0, .slice none 0 0, .slice none 0 0] 24)
      have hu6 := hu4.keeps hkb
      have hq6 := hkb.blk hq4 (by simp)
      clear q1 q2 q3
      go_upto_region 8 with fail
      generalize w6.alloc (.cells #[.int .i64 0, .slice none 0 0, .slice none 0 0] 24) = w7 at *
      have q1 := blk_cell hq6 1
      have q2 := blk_cell hq6 2
      have q3 := blk_cell hq6 3
      go_wp2_with fail
      refine (NReplace w7 p f t A n c hu6).mono ?_
      rintro e w8 ⟨rfl, hk8⟩
      have hkc := hk8.alloc (.cells #[.int .i64 0, .slice none 0 0, .slice none 0 0] 24)
      have hu8 := hu6.keeps hkc
      have hq8 := hkc.blk hq6 (by simp)
      clear q1 q2 q3
      go_upto_region 9 with fail
      generalize w8.alloc (.cells #[.int .i64 0, .slice none 0 0, .slice none 0 0] 24) = w9 at *
      have q4 := blk_cell hq8 4
      have q5 := blk_cell hq8 5
      have q6 := blk_cell hq8 6
      go_wp2_with fail
      refine (NApply w9 p (.int .i64 a) (.slice Ad nd cd) (.slice Ai ni ci) hu8).mono ?_
      rintro e w10 ⟨rfl, hk10⟩
      have hu10 := hu8.keeps hk10
      have hall := (((hkr.trans hka).trans hkb).trans hkc).trans hk10
      clear q4 q5 q6
      go_wp2_with (first
        | (go_at_call 17; refine (NMove _ p 0 hu10).mono ?_; rintro e w' ⟨rfl, rfl⟩)
        | (go_at_call 42; refine (NSetMark _ p 0 hu10).mono ?_; rintro e w' ⟨rfl, rfl⟩)
        | (go_at_call 43; refine (NSwap _ p hu10).mono ?_; rintro e w' ⟨rfl, rfl⟩)
        | (go_at_call 15; refine (NText _ p hu10).mono ?_; rintro e w' ⟨rfl, rfl⟩)
        | (go_at_call 45; refine (NLen _ p hu10).mono ?_; rintro e w' ⟨rfl, rfl⟩)
        | (go_at_call 23; refine (NPoint _ p hu10).mono ?_; rintro e w' ⟨rfl, rfl⟩)
        | (go_at_call 46; refine (NMark _ p hu10).mono ?_; rintro e w' ⟨rfl, rfl⟩)
        | (go_at_call 47; refine (NClone _ p hu10).mono ?_; rintro e w' ⟨rfl, rfl⟩)
        | (go_at_call 21; refine (NLine _ p hu10).mono ?_; rintro e w11 ⟨rfl, hk11⟩))
      rename_i hK
      refine hK _ _ ?_
      change wpList _ _ _ _ (Act.put _ _ (.slice none 0 0)) _
      go_wp2
      go_roundw
      case rel => exact ⟨k + 1, by omega, by go_num, hall.trans hk11⟩
      case measure => simp [intOf]; omega
    · obtain rfl : k = 2 := by omega
      go_wp2
      go_ret
      exact ⟨rfl, hkB.trans hkr⟩
end Go.Proofs.YtmnmdpgckefefaaDoor.Buf
