/- lanyardlaw01.UcellCells: what it comes to. -/
import Derived.Test.YtobogbjpdagklaaDoorRefCells2
import Derived.Test.YtobogbjpdagklaaDoorEqC
import Derived.Test.YtobogbjpdagklaaDoorLive
namespace Go.Proofs.YtobogbjpdagklaaDoor.Uc
open Go Go.RowKit Go.Proofs.YtobogbjpdagklaaDoor.Rw Go.Proofs.YtobogbjpdagklaaDoor.Dec Go.Proofs.YtobogbjpdagklaaDoor.Kinds

theorem Span_calls' (w : World) (hT : Tabs w) (A : Option Addr) (c : Nat) (l : List Int) (hl : Src w A (ns .i32 l)) (hn : l.length ≤ 2097152) (hr : ∀ r ∈ l, -2147483648 ≤ r ∧ r ≤ 2147483647) (col : Int) (hc1 : col ≤ 9223372036854775807) :
    Calls Tryd.prog 16 #[.slice A l.length c, .int .i64 col] w fun e w' => e = .returned (.int .i64 ((cellsC (max col 0 % 8).toNat l).length : Nat)) ∧ Keeps [] w w' := by
  have hC := Cells_calls w hT A c l hl hn hr col hc1
  generalize cellsC (max col 0 % 8).toNat l = cs at *
  go_enter Tryd.func16, Tryd.ntmps16
  go_wp2_with fail
  refine hC.mono ?_
  rintro e w1 ⟨B, d, rfl, _, hk, _⟩
  go_wp2
  go_ret
  exact ⟨rfl, hk⟩
set_option maxRecDepth 100000 in
set_option maxHeartbeats 2000000 in
theorem cells_all (w : World) (hU : UTabs w) (hT : Tabs w) (A : Option Addr) (c : Nat) (l : List Int) (hl : Src w A (ns .i32 l)) (hn : l.length ≤ 1048576) (hr : ∀ r ∈ l, -2147483648 ≤ r ∧ r ≤ 2147483647) (col : Int) (hcol : col ≤ 9223372036854775807) :
    Calls Tryd.prog 4 #[.slice A l.length c, .int .i64 col] w fun e w' => e = .returned (.bool true) ∧ Keeps [] w w' := by
  have HL := Lib.hid (fun w' (k : Keeps [] w w') => live01_calls w' (UTabs_keeps hU k) (hT.keeps k))
  have hR := RfCells_calls w A c l hl (by omega) hr col hcol
  have hC := fun w1 (k : Keeps [] w w1) => Cells_calls w1 (hT.keeps k) A c l (hl.keeps k (by simp)) (by omega) hr col hcol
  have hS := fun w1 (k : Keeps [] w w1) => Span_calls' w1 (hT.keeps k) A c l (hl.keeps k (by simp)) (by omega) hr col hcol
  have hle := cellsC_le (max col 0 % 8).toNat l
  generalize cellsC (max col 0 % 8).toNat l = cs at *
  clear hU hT hl hr
  have HC := Lib.hid hC; clear hC
  have HS := Lib.hid hS; clear hS
  go_enter Tryd.func4, Tryd.ntmps4
  go_wp2_with fail
  refine hR.mono ?_
  rintro e w1 ⟨A1, c1, rfl, hrow1, k1, _⟩
  clear hR
  have hr1 := CRead.of_row hrow1
  have Hr1 := Lib.hid hr1
  clear hr1 hrow1
  go_wp2_with fail
  refine (HL.out _ k1).mono ?_
  rintro e w2 ⟨rfl, hk2⟩
  have k2 := k1.trans hk2
  go_wp2_with fail
  refine (HC.out _ k2).mono ?_
  rintro e w3 ⟨A3, c3, rfl, hrow3, hk3, _⟩
  have k3 := k2.trans hk3
  go_wp2_with fail
  refine (EqualC_calls w3 A3 A1 c3 c1 cs (CRead.of_row hrow3) (Hr1.out.keeps (hk2.trans hk3)) (by omega)).mono ?_
  rintro e w4 ⟨rfl, hk4⟩
  have k4 := k3.trans hk4
  go_wp2_with fail
  refine (HS.out _ k4).mono ?_
  rintro e w5 ⟨rfl, hk5⟩
  go_wp2
  go_ret
  exact ⟨rfl, k4.trans hk5⟩
end Go.Proofs.YtobogbjpdagklaaDoor.Uc
