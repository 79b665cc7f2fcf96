/- lanyardlaw22.begun: true, in whatever memory. -/
import Derived.Test.YtomdhiphiediaaaDoorMacNext
namespace Go.Proofs.YtomdhiphiediaaaDoor.Mac
open Go Go.RowKit Go.Proofs.YtomdhiphiediaaaDoor.Rw

theorem begun_calls (w : World) : Calls Tryd.prog 7 #[] w (Said (.bool true) fun w' => Keeps [] w w') := by
  go_enter Tryd.func7, Tryd.ntmps7
  go_wp2_with fail
  refine (QNew_calls _).mono ?_
  rintro e w1 ⟨rfl, hk1, hq1⟩
  obtain ⟨b, hb⟩ : ∃ b, b = w.heap.size := ⟨_, rfl⟩
  rw [← hb] at hq1 ⊢
  have Hb := Lib.hid hb; clear hb
  go_wp2_with fail
  refine Calls.mono (R := Said (.int .i64 0) fun w' => Left (w1.alloc (.cells #[.int .u8 97] 5)) w' b [b] ⟨[97], [], 0⟩) (QPut_calls (w1.alloc (.cells #[.int .u8 97] 5)) b [b] ⟨[], [], 0⟩ (some ⟨w1.heap.size, 0, none⟩) 1 [97] (hq1.keeps ((Keeps.refl [] _).alloc _) (by simp)) (Src.new w1 #[.int .u8 97] 5) (by decide)) ?_
  rintro e w2 ⟨rfl, hk2, F2, hF2, hq2⟩
  go_wp2_with fail
  refine Calls.mono (R := Said (.int .i64 0) fun w' => Left (w2.alloc (.cells #[.int .u8 120] 5)) w' b F2 ⟨[97], [[120]], 0⟩) (QPush_calls (w2.alloc (.cells #[.int .u8 120] 5)) b F2 ⟨[97], [], 0⟩ (some ⟨w2.heap.size, 0, none⟩) 1 [120] (hq2.keeps ((Keeps.refl [] _).alloc _) (by simp)) (Src.new w2 #[.int .u8 120] 5)) ?_
  rintro e w3 ⟨rfl, hk3, F3, hF3, hq3⟩
  go_wp2_with fail
  refine Calls.mono (R := fun e w' => e = .returned (.int .i64 2) ∧ w3 = w') (QLen_calls w3 b F3 _ hq3 (by decide)) ?_
  rintro e w4 ⟨rfl, rfl⟩
  go_wp2_with fail
  refine Calls.mono (R := Said (.tuple #[.int .u8 120, .bool true, .bool false]) fun w' => Left w3 w' b F3 ⟨[97], [], 1⟩) (QNext_macro w3 b F3 _ [] 120 [] hq3 rfl (by decide)) ?_
  rintro e w5 ⟨rfl, hk5, F5, hF5, hq5⟩
  go_wp2_with fail
  refine Calls.mono (R := Said (.tuple #[.int .u8 97, .bool true, .bool true]) fun w' => Left w5 w' b F5 ⟨[], [], 0⟩) (QNext_typed w5 b F5 _ 97 [] hq5 rfl (.inl rfl)) ?_
  rintro e w6 ⟨rfl, hk6, F6, hF6, hq6⟩
  go_wp2_with fail
  go_ret
  refine ⟨rfl, ?_⟩
  have hb := Hb.out
  have z1 := hk1.size
  have z2 := hk2.size
  have z3 := hk3.size
  have z5 := hk5.size
  simp only [World.size_alloc] at z2 z3 hF2 hF3
  have g2 : ∀ i, i ∈ F2 → w.heap.size ≤ i := fun i hi => by
    rcases hF2 i hi with h | h
    · simp at h; omega
    · omega
  have g3 : ∀ i, i ∈ F3 → w.heap.size ≤ i := fun i hi => by
    rcases hF3 i hi with h | h
    · exact g2 i h
    · omega
  have g5 : ∀ i, i ∈ F5 → w.heap.size ≤ i := fun i hi => by
    rcases hF5 i hi with h | h
    · exact g3 i h
    · omega
  exact (((((hk1.alloc _).then hk2 (fun i hi => by simp at hi; exact .inr (by omega))).alloc _).then hk3 (fun i hi => .inr (g2 i hi))).then hk5 (fun i hi => .inr (g3 i hi))).then hk6 (fun i hi => .inr (g5 i hi))
end Go.Proofs.YtomdhiphiediaaaDoor.Mac
