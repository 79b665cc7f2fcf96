/- lanyardlaw22.MacroNone: what it comes to. -/
import Derived.Test.YtomdhiphiediaaaDoorMacNone
namespace Go.Proofs.YtomdhiphiediaaaDoor.Mac
open Go Go.RowKit Go.Proofs.YtomdhiphiediaaaDoor.Rw

set_option maxRecDepth 100000 in
set_option maxHeartbeats 2000000 in
theorem none_all (w : World) (A : Option Addr) (n c : Nat) : Calls Tryd.prog 4 #[.slice A n c] w (Said (.bool true) fun w' => Keeps [] w w') := by
  go_enter Tryd.func4, Tryd.ntmps4
  go_wp2_with fail
  refine (begun_calls _).mono ?_
  rintro e w1 ⟨rfl, hk1⟩
  go_wp2_with fail
  have hk10 := (hk1.alloc (.cells #[.slice none 0 0, .slice none 0 0, .int .i64 0, .bool false] 35)).alloc (.cells #[.pointer none, .pointer (some ⟨w1.heap.size, 0, none⟩)] 32)
  have hbB := blk_alloc (blk_new w1 (.cells #[.slice none 0 0, .slice none 0 0, .int .i64 0, .bool false] 35)) (.cells #[.pointer none, .pointer (some ⟨w1.heap.size, 0, none⟩)] 32)
  have hpB := blk_new (w1.alloc (.cells #[.slice none 0 0, .slice none 0 0, .int .i64 0, .bool false] 35)) (.cells #[.pointer none, .pointer (some ⟨w1.heap.size, 0, none⟩)] 32)
  rw [show (w1.alloc (.cells #[.slice none 0 0, .slice none 0 0, .int .i64 0, .bool false] 35)).heap.size = w1.heap.size + 1 by simp] at hpB
  generalize (w1.alloc (.cells #[.slice none 0 0, .slice none 0 0, .int .i64 0, .bool false] 35)).alloc (.cells #[.pointer none, .pointer (some ⟨w1.heap.size, 0, none⟩)] 32) = q1 at *
  have hun : ∀ k : Nat, k < 2 → ∃ p, q1.cell? ⟨w1.heap.size + 1, k, none⟩ = some (.pointer p) ∧ Unmade q1 3 p := by
    intro k hk
    have h2 : k = 0 ∨ k = 1 := by omega
    rcases h2 with rfl | rfl
    · exact ⟨none, blk_cell hpB 0, fun a ha => by cases ha⟩
    · exact ⟨_, blk_cell hpB 1, fun a ha => by cases ha; exact ⟨_, rfl, blk_cell hbB 3⟩⟩
  have Hun1 := Lib.hid hun; clear hun hbB hpB
  go_loopw [22] (fun i wr => ∃ k : Nat, k ≤ 2 ∧ i = .int .i64 k ∧ Keeps [] q1 wr) (fun i _ => 2 - (intOf i).toNat)
  case atStart => exact ⟨0, by omega, rfl, Keeps.refl _ _⟩
  case round =>
    obtain ⟨k, hk, rfl, hkr⟩ := hrel
    by_cases hlt : k < 2
    · obtain ⟨p, hcell, hu⟩ := Hun1.out k hlt
      have hc := hkr.cell hcell (by simp)
      have hu3 := hu.keeps hkr
      clear hcell hu
      obtain ⟨w3, rfl⟩ : ∃ w3, w3 = wr := ⟨_, rfl⟩
      go_wp2_with (first
        | (go_at_call 10; refine (NQNext w3 p hu3).mono ?_; rintro e w' ⟨rfl, rfl⟩)
        | (go_at_call 11; refine (NQPut w3 p A n c hu3).mono ?_; rintro e w' ⟨rfl, rfl⟩)
        | (go_at_call 12; refine (NQPush w3 p A n c hu3).mono ?_; rintro e w' ⟨rfl, rfl⟩)
        | (go_at_call 13; refine (NQBack w3 p A n c hu3).mono ?_; rintro e w' ⟨rfl, rfl⟩)
        | (go_at_call 14; refine (NQLen w3 p hu3).mono ?_; rintro e w' ⟨rfl, rfl⟩)
        | (go_at_call 15; refine (NQDepth w3 p hu3).mono ?_; rintro e w' ⟨rfl, rfl⟩)
        | (go_at_call 16; refine (NQDrop w3 p hu3).mono ?_; rintro e w' ⟨rfl, rfl⟩)
        | (go_at_call 17; refine (NQClone w3 p hu3).mono ?_; rintro e w' ⟨rfl, rfl⟩))
      go_roundw
      case rel => exact ⟨k + 1, by omega, by go_num, hkr⟩
      case measure => simp [intOf]; omega
    · have hk2 : ((k : Nat) : Int) = 2 := by omega
      rw [hk2]
      go_wp2_with fail
      have hk10x := hk10.trans hkr
      clear hkr hk10 hk
      obtain ⟨u1, rfl⟩ : ∃ u1, u1 = wr := ⟨_, rfl⟩
      have hk20 := (hk10x.alloc (.cells #[.slice none 0 0, .bool false, .string ⟨#[]⟩, .bool false, .bool false] 44)).alloc (.cells #[.pointer none, .pointer (some ⟨u1.heap.size, 0, none⟩)] 42)
      have hbB := blk_alloc (blk_new u1 (.cells #[.slice none 0 0, .bool false, .string ⟨#[]⟩, .bool false, .bool false] 44)) (.cells #[.pointer none, .pointer (some ⟨u1.heap.size, 0, none⟩)] 42)
      have hpB := blk_new (u1.alloc (.cells #[.slice none 0 0, .bool false, .string ⟨#[]⟩, .bool false, .bool false] 44)) (.cells #[.pointer none, .pointer (some ⟨u1.heap.size, 0, none⟩)] 42)
      rw [show (u1.alloc (.cells #[.slice none 0 0, .bool false, .string ⟨#[]⟩, .bool false, .bool false] 44)).heap.size = u1.heap.size + 1 by simp] at hpB
      generalize (u1.alloc (.cells #[.slice none 0 0, .bool false, .string ⟨#[]⟩, .bool false, .bool false] 44)).alloc (.cells #[.pointer none, .pointer (some ⟨u1.heap.size, 0, none⟩)] 42) = q2 at *
      have hun : ∀ k : Nat, k < 2 → ∃ p, q2.cell? ⟨u1.heap.size + 1, k, none⟩ = some (.pointer p) ∧ Unmade q2 4 p := by
        intro k hk
        have h2 : k = 0 ∨ k = 1 := by omega
        rcases h2 with rfl | rfl
        · exact ⟨none, blk_cell hpB 0, fun a ha => by cases ha⟩
        · exact ⟨_, blk_cell hpB 1, fun a ha => by cases ha; exact ⟨_, rfl, blk_cell hbB 4⟩⟩
      have Hun2 := Lib.hid hun; clear hun hbB hpB
      go_loopw [79] (fun i wr => ∃ k : Nat, k ≤ 2 ∧ i = .int .i64 k ∧ Keeps [] q2 wr) (fun i _ => 2 - (intOf i).toNat)
      case atStart => exact ⟨0, by omega, rfl, Keeps.refl _ _⟩
      case round =>
        obtain ⟨k, hk, rfl, hkr⟩ := hrel
        by_cases hlt : k < 2
        · obtain ⟨p, hcell, hu⟩ := Hun2.out k hlt
          have hc := hkr.cell hcell (by simp)
          have hu3 := hu.keeps hkr
          clear hcell hu
          obtain ⟨w3, rfl⟩ : ∃ w3, w3 = wr := ⟨_, rfl⟩
          go_wp2_with (first
            | (go_at_call 18; refine (NRLast w3 p hu3).mono ?_; rintro e w' ⟨rfl, rfl⟩)
            | (go_at_call 19; refine (NRStart w3 p hu3).mono ?_; rintro e w' ⟨rfl, rfl⟩)
            | (go_at_call 20; refine (NREnd w3 p hu3).mono ?_; rintro e w' ⟨rfl, rfl⟩)
            | (go_at_call 21; refine (NRPut w3 p A n c hu3).mono ?_; rintro e w' ⟨rfl, rfl⟩)
            | (go_at_call 22; refine (NRCancel w3 p hu3).mono ?_; rintro e w' ⟨rfl, rfl⟩)
            | (go_at_call 23; refine (NROn w3 p hu3).mono ?_; rintro e w' ⟨rfl, rfl⟩)
            | (go_at_call 24; refine (NRClone w3 p hu3).mono ?_; rintro e w' ⟨rfl, rfl⟩))
          go_roundw
          case rel => exact ⟨k + 1, by omega, by go_num, hkr⟩
          case measure => simp [intOf]; omega
        · have hk2 : ((k : Nat) : Int) = 2 := by omega
          rw [hk2]
          go_wp2_with fail
          have hk20x := hk20.trans hkr
          clear hkr hk20 hk
          obtain ⟨u2, rfl⟩ : ∃ u2, u2 = wr := ⟨_, rfl⟩
          have hk30 := (hk20x.alloc (.cells #[.slice none 0 0, .bool false, .bool false] 51)).alloc (.cells #[.pointer none, .pointer (some ⟨u2.heap.size, 0, none⟩)] 23)
          have hbB := blk_alloc (blk_new u2 (.cells #[.slice none 0 0, .bool false, .bool false] 51)) (.cells #[.pointer none, .pointer (some ⟨u2.heap.size, 0, none⟩)] 23)
          have hpB := blk_new (u2.alloc (.cells #[.slice none 0 0, .bool false, .bool false] 51)) (.cells #[.pointer none, .pointer (some ⟨u2.heap.size, 0, none⟩)] 23)
          rw [show (u2.alloc (.cells #[.slice none 0 0, .bool false, .bool false] 51)).heap.size = u2.heap.size + 1 by simp] at hpB
          generalize (u2.alloc (.cells #[.slice none 0 0, .bool false, .bool false] 51)).alloc (.cells #[.pointer none, .pointer (some ⟨u2.heap.size, 0, none⟩)] 23) = q3 at *
          have hun : ∀ k : Nat, k < 2 → ∃ p, q3.cell? ⟨u2.heap.size + 1, k, none⟩ = some (.pointer p) ∧ Unmade q3 2 p := by
            intro k hk
            have h2 : k = 0 ∨ k = 1 := by omega
            rcases h2 with rfl | rfl
            · exact ⟨none, blk_cell hpB 0, fun a ha => by cases ha⟩
            · exact ⟨_, blk_cell hpB 1, fun a ha => by cases ha; exact ⟨_, rfl, blk_cell hbB 2⟩⟩
          have Hun3 := Lib.hid hun; clear hun hbB hpB
          go_loopw [128] (fun i wr => ∃ k : Nat, k ≤ 2 ∧ i = .int .i64 k ∧ Keeps [] q3 wr) (fun i _ => 2 - (intOf i).toNat)
          case atStart => exact ⟨0, by omega, rfl, Keeps.refl _ _⟩
          case round =>
            obtain ⟨k, hk, rfl, hkr⟩ := hrel
            by_cases hlt : k < 2
            · obtain ⟨p, hcell, hu⟩ := Hun3.out k hlt
              have hc := hkr.cell hcell (by simp)
              have hu3 := hu.keeps hkr
              clear hcell hu
              obtain ⟨w3, rfl⟩ : ∃ w3, w3 = wr := ⟨_, rfl⟩
              go_wp2_with (first
                | (go_at_call 8; refine (NPPut w3 p 97 hu3).mono ?_; rintro e w' ⟨rfl, rfl⟩)
                | (go_at_call 9; refine (NPText w3 p hu3).mono ?_; rintro e w' ⟨rfl, rfl⟩))
              go_roundw
              case rel => exact ⟨k + 1, by omega, by go_num, hkr⟩
              case measure => simp [intOf]; omega
            · have hk2 : ((k : Nat) : Int) = 2 := by omega
              rw [hk2]
              go_wp2_with fail
              go_ret
              exact ⟨rfl, hk30.trans hkr⟩
end Go.Proofs.YtomdhiphiediaaaDoor.Mac
