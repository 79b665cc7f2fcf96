/- lanyardlaw01.UcellWide: what it comes to. -/
import Derived.Test.YtobogbjpdagklaaDoorCellsX
import Derived.Test.YtobogbjpdagklaaDoorLive
namespace Go.Proofs.YtobogbjpdagklaaDoor.Uc
open Go Go.RowKit Go.Proofs.YtobogbjpdagklaaDoor.Rw Go.Proofs.YtobogbjpdagklaaDoor.Dec Go.Proofs.YtobogbjpdagklaaDoor.Kinds

/-- The three cells of a place. -/
theorem place_cells {w w' : World} {B : Option Addr} {d : Nat} {cs : List CellV} (h : Row w 26 3 (.slice B cs.length d) cs.length (cvs cs)) (hk : Keeps [] w w') (k : Nat) (c : CellV) (hc : cs[k]? = some c) :
    ∃ g off, B = some ⟨g, off, none⟩ ∧ w'.cell? ⟨g, off + k * 3, none⟩ = some (.string c.text) ∧ w'.cell? ⟨g, off + k * 3 + 1, none⟩ = some (.int .i64 c.width) ∧ w'.cell? ⟨g, off + k * 3 + 2, none⟩ = some (.int .i64 0) := by
  obtain ⟨hlt, rfl⟩ := List.getElem?_eq_some_iff.1 hc
  have hl := cvs_length cs
  obtain ⟨g, off, c', he, _, _, _, c0, _⟩ := h.cell (i := k * 3) (by omega)
  cases he
  obtain ⟨_, _, _, he, _, _, _, c1, _⟩ := h.cell (i := k * 3 + 1) (by omega)
  cases he
  obtain ⟨_, _, _, he, _, _, _, c2, _⟩ := h.cell (i := k * 3 + 2) (by omega)
  cases he
  rw [List.getElem_eq_iff (by omega) |>.2 (cvs_at cs k hlt)] at c0
  rw [List.getElem_eq_iff (by omega) |>.2 (cvs_at1 cs k hlt)] at c1
  rw [List.getElem_eq_iff (by omega) |>.2 (cvs_at2 cs k hlt)] at c2
  exact ⟨g, off, rfl, hk.cell c0 (by simp), hk.cell c1 (by simp), hk.cell c2 (by simp)⟩
/-- What the place ahead of k is, told for a walk. -/
theorem ahead_cases {cs : List CellV} (k : Nat) (hk : k ≤ cs.length) : (k = 0 ∧ Dec.ahead false cs k = false) ∨ ∃ j c, k = j + 1 ∧ cs[j]? = some c ∧ ((c.width = 2 ∧ Dec.ahead false cs k = true) ∨ (c.width ≠ 2 ∧ Dec.ahead false cs k = false)) := by
  cases k with
  | zero => exact .inl ⟨rfl, rfl⟩
  | succ j =>
    have hj : j < cs.length := by omega
    refine .inr ⟨j, cs[j], rfl, List.getElem?_eq_getElem hj, ?_⟩
    have e : Dec.ahead false cs (j + 1) = decide (cs[j].width = 2) := by
      show decide (Option.map (fun x => x.width) cs[j]? = some 2) = _
      rw [List.getElem?_eq_getElem hj]; simp
    rw [e]
    by_cases h : cs[j].width = 2
    · exact .inl ⟨h, by simpa using h⟩
    · exact .inr ⟨h, by simpa using h⟩
set_option maxRecDepth 100000 in
set_option maxHeartbeats 4000000 in
theorem wide_all (w : World) (hU : UTabs w) (hT : Tabs w) (A : Option Addr) (c : Nat) (l : List Int) (hl : Src w A (ns .i32 l)) (hn : l.length ≤ 1048576) (hr : ∀ r ∈ l, -2147483648 ≤ r ∧ r ≤ 2147483647) (col : Int) (hcol : col ≤ 9223372036854775807) :
    Calls Tryd.prog 3 #[.slice A l.length c, .int .i64 col] w fun e w' => e = .returned (.bool true) ∧ Keeps [] w w' := by
  have HL := Lib.hid (fun w' (k : Keeps [] w w') => live01_calls w' (UTabs_keeps hU k) (hT.keeps k))
  have hC := Cells_calls w hT A c l hl (by omega) hr col hcol
  have hle := cellsC_le (max col 0 % 8).toNat l
  have hW := cellsC_wide (max col 0 % 8).toNat l
  generalize cellsC (max col 0 % 8).toNat l = cs at *
  clear hU hT hl hr
  have HW := Lib.hid hW; clear hW
  go_enter Tryd.func3, Tryd.ntmps3
  go_wp2_with fail
  refine hC.mono ?_
  rintro e w1 ⟨B, d, rfl, hrow, hk1, _⟩
  clear hC
  have Hrow := Lib.hid hrow; clear hrow
  go_wp2_with fail
  go_loopw [14] (fun i wr => ∃ k : Nat, k ≤ cs.length ∧ i = .int .i64 k ∧ Keeps [] w1 wr) (fun i _ => cs.length - (intOf i).toNat)
  case atStart => exact ⟨0, by omega, rfl, Keeps.refl _ _⟩
  case round =>
    obtain ⟨k, hk, rfl, hkr⟩ := hrel
    by_cases hlt : k < cs.length
    · obtain ⟨x, hx⟩ : ∃ x, cs[k]? = some x := ⟨_, List.getElem?_eq_getElem hlt⟩
      obtain ⟨g, off, rfl, c0, c1, c2⟩ := place_cells Hrow.out hkr k x hx
      obtain ⟨a1, a2, a3, a4, a5⟩ := HW.out.at k x hx
      obtain ⟨t, W⟩ := x
      simp only at c0 c1 a1 a2 a3 a4 a5
      have k0 : (0 : Int) ≤ k := by omega
      have hne : t.size ≠ 0 → t.toList.isEmpty = false := fun h => by
        cases he : t.toList.isEmpty with
        | false => rfl
        | true => exact absurd ((empty_iff t).1 he) h
      have hac := ahead_cases k hk
      have Hhk := Lib.hid hlt
      have hk1' : k + 1 ≤ cs.length := hlt
      have Hk1 := Lib.hid hk1'
      clear hk hk1'
      rcases hac with ⟨hk0, hp⟩ | ⟨j, y, hkj, hy, ⟨hyw, hp⟩ | ⟨hyw, hp⟩⟩
      · rw [hp] at a1 a2
        have hs0 : t.size ≠ 0 := fun h => by cases a1.2 h
        have hw0 : W ≠ 0 := fun h => by cases a2.2 h
        have he := hne hs0
        have hkn : ¬ (0 : Int) < k := by omega
        have hW12 : W = 1 ∨ W = 2 := by omega
        clear a1 a2 hp hne hx hs0 hk0 hw0
        rcases hW12 with rfl | rfl
        · go_wp2
          refine ⟨⟨k + 1, Hk1.out, by go_num, hkr.alloc _⟩, ?_⟩
          have := Hhk.out
          simp [intOf]; omega
        · go_wp2
          refine ⟨⟨k + 1, Hk1.out, by go_num, hkr.alloc _⟩, ?_⟩
          have := Hhk.out
          simp [intOf]; omega
      · rw [hp] at a1 a2
        have hs0 : t.size = 0 := a1.1 rfl
        have hw0 : W = 0 := a2.1 rfl
        obtain rfl := size_zero hs0
        subst hw0
        obtain ⟨_, _, he', _, d1, _⟩ := place_cells Hrow.out hkr j y hy
        cases he'
        obtain rfl : j = k - 1 := by omega
        rw [hyw] at d1
        have hkn : (0 : Int) < k := by omega
        have h1 : (0 : Int) ≤ (k : Int) - 1 := by omega
        have h2 : (k : Int) - 1 < cs.length := by omega
        have h3 : ((k : Int) - 1).toNat = k - 1 := by omega
        have d2 := ((Keeps.refl [] wr).alloc (.cells #[.string ⟨#[]⟩, .int .i64 0, .int .i64 0] 26)).cell d1 (by simp)
        clear a1 a2 hp hne hx hs0 hkj hy hyw
        go_wp2
        refine ⟨⟨k + 1, Hk1.out, by go_num, hkr.alloc _⟩, ?_⟩
        have := Hhk.out
        simp [intOf]; omega
      · rw [hp] at a1 a2
        have hs0 : t.size ≠ 0 := fun h => by cases a1.2 h
        have hw0 : W ≠ 0 := fun h => by cases a2.2 h
        have he := hne hs0
        obtain ⟨_, _, he', _, d1, _⟩ := place_cells Hrow.out hkr j y hy
        cases he'
        obtain rfl : j = k - 1 := by omega
        have hkn : (0 : Int) < k := by omega
        have h1 : (0 : Int) ≤ (k : Int) - 1 := by omega
        have h2 : (k : Int) - 1 < cs.length := by omega
        have h3 : ((k : Int) - 1).toNat = k - 1 := by omega
        have h4 : (y.width == 2) = false := by simpa using hyw
        have d2 := ((Keeps.refl [] wr).alloc (.cells #[.string t, .int .i64 W, .int .i64 0] 26)).cell d1 (by simp)
        have hW12 : W = 1 ∨ W = 2 := by omega
        clear a1 a2 hp hne hx hs0 hkj hy hyw hw0
        rcases hW12 with rfl | rfl
        · go_wp2
          refine ⟨⟨k + 1, Hk1.out, by go_num, hkr.alloc _⟩, ?_⟩
          have := Hhk.out
          simp [intOf]; omega
        · go_wp2
          refine ⟨⟨k + 1, Hk1.out, by go_num, hkr.alloc _⟩, ?_⟩
          have := Hhk.out
          simp [intOf]; omega
    · obtain rfl : k = cs.length := by omega
      have hac := ahead_cases cs.length (Nat.le_refl _)
      have hlast := HW.out.last
      rcases hac with ⟨hk0, _⟩ | ⟨j, y, hkj, hy, ⟨hyw, hp⟩ | ⟨hyw, hp⟩⟩
      · go_wp2_with fail
        refine (HL.out _ (hk1.trans hkr)).mono ?_
        rintro e w3 ⟨rfl, hk3⟩
        go_wp2
        all_goals go_ret
        all_goals exact ⟨rfl, (hk1.trans hkr).trans hk3⟩
      · rw [hp] at hlast; cases hlast
      · have Hkj := Lib.hid hkj
        have Hlast := Lib.hid hlast
        clear hkj hlast hp
        go_wp2_with fail
        refine (HL.out _ (hk1.trans hkr)).mono ?_
        rintro e w3 ⟨rfl, hk3⟩
        obtain ⟨g, off, rfl, _, d1, _⟩ := place_cells Hrow.out (hkr.trans hk3) j y hy
        have hj : cs.length = j + 1 := Hkj.out
        obtain rfl : j = cs.length - 1 := by omega
        have h0 : (0 : Int) < (cs.length : Int) := by omega
        have h00 : ((cs.length : Int) == 0) = false := beq_false_of_ne (by omega)
        have h1 : (0 : Int) ≤ (cs.length : Int) - 1 := by omega
        have h2 : (cs.length : Int) - 1 < cs.length := by omega
        have h3 : ((cs.length : Int) - 1).toNat = cs.length - 1 := by omega
        have h4 : (y.width != 2) = true := by simpa using hyw
        clear hj hyw hy
        go_wp2
        go_ret
        exact ⟨rfl, (hk1.trans hkr).trans hk3⟩
end Go.Proofs.YtobogbjpdagklaaDoor.Uc
