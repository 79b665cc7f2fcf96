/- ucell: which numbers are runes, controls, how wide a rune is, which are letters; over the two tables as they are laid. -/
import Derived.Test.YtobogbjpdagklaaDoorRowOps
import Derived.Test.YtobogbjpdagklaaDoorRows
import Derived.Lib.Hide
import Derived.Lib.LaidU8
import Derived.RegionTactic
import Derived.Deep.QuietTactic
import Derived.BigQuiet
namespace Go.Proofs.YtobogbjpdagklaaDoor.Kinds
open Go Go.RowKit Go.Proofs.YtobogbjpdagklaaDoor.Rw

def valid (r : Int) : Bool := decide ((0 ≤ r ∧ r < 55296) ∨ (57343 < r ∧ r ≤ 1114111))
def ctl (r : Int) : Bool := decide ((0 ≤ r ∧ r < 32) ∨ (127 ≤ r ∧ r ≤ 159))
def inT (T : List (Int × Int)) (r : Int) : Bool := T.any fun p => decide (p.1 ≤ r ∧ r ≤ p.2)
def noneT : List (Int × Int) := [(768, 879), (1155, 1161), (1425, 1469), (1552, 1562), (1611, 1631), (3633, 3633), (3636, 3642), (3655, 3662), (6832, 6911), (7616, 7679), (8203, 8207), (8400, 8447), (12441, 12442), (65024, 65039), (65056, 65071)]
def wideT : List (Int × Int) := [(4352, 4447), (11904, 12350), (12353, 13311), (13312, 19903), (19968, 40959), (40960, 42191), (44032, 55203), (63744, 64255), (65072, 65135), (65280, 65376), (65504, 65510), (127744, 128591), (129280, 129535), (131072, 262141)]
def width (r : Int) : Int := if valid r = false then 0 else if ctl r = true then 0 else if inT noneT r = true then 0 else if inT wideT r = true then 2 else 1

/-- A table of pairs in a variable's block. -/
def TabAt (w : World) (g : Nat) (T : List (Int × Int)) : Prop := ∀ i (hi : i < T.length), w.cell? ⟨g, i * 2, none⟩ = some (.int .i32 T[i].1) ∧ w.cell? ⟨g, i * 2 + 1, none⟩ = some (.int .i32 T[i].2)
def Tabs (w : World) : Prop := TabAt w 0 noneT ∧ TabAt w 1 wideT
theorem TabAt.keeps {w w' : World} {g : Nat} {T : List (Int × Int)} (h : TabAt w g T) (k : Keeps [] w w') : TabAt w' g T := fun i hi => ⟨k.cell (h i hi).1 (by simp), k.cell (h i hi).2 (by simp)⟩
theorem Tabs.keeps {w w' : World} (h : Tabs w) (k : Keeps [] w w') : Tabs w' := ⟨h.1.keeps k, h.2.keeps k⟩
def pairData (T : List (Int × Int)) : DataW Unit := .agg (T.map fun p => .agg ([p.1, p.2].map fun z => .lit (.int .i32 z)))
theorem tabAt_of {W : World} {name : String} {T : List (Int × Int)} {g n : Nat} {t : TypeId} (hg : Tryd.prog.globalNamed name = some g) (hty : (Tryd.prog.globals[g]?).map (·.type) = some t) (ht : Tryd.prog.underlying t = some (.array n 64)) (hn : T.length = n)
    (hc : Tryd.prog.cellsOf 64 = 2) (hcr : Tryd.prog.cellsOf 21 = 1) (h : Lib.VarReads Tryd.prog W name (pairData T)) : TabAt W g T := by
  obtain ⟨g', t', cs, fuel, p, hg', hty', hvar, hd⟩ := h
  obtain rfl := Option.some.inj (hg.symm.trans hg')
  obtain rfl := Option.some.inj (hty.symm.trans hty')
  intro i hi
  obtain ⟨fuel', d, q, hdi, he⟩ := Lib.array_elem ht hd i (by omega)
  simp only [List.getElem?_map, List.getElem?_eq_getElem hi, Option.map_some, Option.some.injEq] at hdi
  subst hdi
  rw [hc] at he
  have hcs := Lib.ints_of_struct Tryd.underlying64 (fun j f hj => by
    match j, hj with
    | 0, hj => simp at hj; subst hj; exact ⟨Tryd.underlying21, rfl, hcr⟩
    | 1, hj => simp at hj; subst hj; exact ⟨Tryd.underlying21, rfl, hcr⟩
    | j + 2, hj => simp at hj) (by rw [hc]; rfl) he
  have e0 := congrArg (·[0]?) hcs
  have e1 := congrArg (·[1]?) hcs
  simp only [List.getElem?_take, List.getElem?_drop] at e0 e1
  constructor
  · rw [World.var?_cell hg hvar (i * 2), ← Array.getElem?_toList]
    simpa using e0
  · rw [World.var?_cell hg hvar (i * 2 + 1), ← Array.getElem?_toList]
    simpa using e1

theorem ValidRune_calls (w : World) (r : Int) (h0 : -2147483648 ≤ r) (h1 : r ≤ 2147483647) : Calls Tryd.prog 54 #[.int .i32 r] w fun e w' => e = .returned (.bool (valid r)) ∧ w = w' := by
  by_cases a1 : 0 ≤ r
  · by_cases a2 : r < 55296
    · rw [show valid r = true by simp [valid]; omega]
      go_enter Tryd.func54, Tryd.ntmps54
      go_wp2
      go_ret
      exact ⟨rfl, rfl⟩
    · by_cases a3 : 57343 < r
      · by_cases a4 : r ≤ 1114111
        · rw [show valid r = true by simp [valid]; omega]
          go_enter Tryd.func54, Tryd.ntmps54
          go_wp2
          go_ret
          exact ⟨rfl, rfl⟩
        · rw [show valid r = false by simp [valid]; omega]
          go_enter Tryd.func54, Tryd.ntmps54
          go_wp2
          go_ret
          exact ⟨rfl, rfl⟩
      · rw [show valid r = false by simp [valid]; omega]
        go_enter Tryd.func54, Tryd.ntmps54
        go_wp2
        go_ret
        exact ⟨rfl, rfl⟩
  · have a3 : ¬ 57343 < r := by omega
    rw [show valid r = false by simp [valid]; omega]
    go_enter Tryd.func54, Tryd.ntmps54
    go_wp2
    go_ret
    exact ⟨rfl, rfl⟩
theorem Is_calls (w : World) (r : Int) (h0 : -2147483648 ≤ r) (h1 : r ≤ 2147483647) : Calls Tryd.prog 41 #[.int .i32 r] w fun e w' => e = .returned (.bool (valid r)) ∧ w = w' := by
  have hV := ValidRune_calls w r h0 h1
  generalize valid r = v at *
  go_enter Tryd.func41, Tryd.ntmps41
  go_wp2_with (go_at_call 54; refine hV.mono ?_; rintro e w' ⟨rfl, rfl⟩)
  go_ret
  exact ⟨rfl, rfl⟩
theorem Control_calls (w : World) (r : Int) (h0 : -2147483648 ≤ r) (h1 : r ≤ 2147483647) : Calls Tryd.prog 17 #[.int .i32 r] w fun e w' => e = .returned (.bool (ctl r)) ∧ w = w' := by
  go_enter Tryd.func17, Tryd.ntmps17
  go_wp2
  all_goals go_ret
  all_goals refine ⟨?_, rfl⟩
  all_goals (refine congrArg (fun b => Ending.returned (.bool b)) ?_; rw [Bool.eq_iff_iff]; simp [ctl]; try omega)

theorem any_snoc (T : List (Int × Int)) (k : Nat) (hk : k < T.length) (r : Int) : inT (T.take (k + 1)) r = (inT (T.take k) r || decide (T[k].1 ≤ r ∧ r ≤ T[k].2)) := by
  unfold inT
  rw [List.take_succ_eq_append_getElem hk, List.any_append]
  simp
theorem any_true (T : List (Int × Int)) (k : Nat) (hk : k < T.length) (r : Int) (h : T[k].1 ≤ r ∧ r ≤ T[k].2) : inT T r = true := by
  unfold inT
  rw [List.any_eq_true]
  exact ⟨T[k], List.getElem_mem hk, by simpa using h⟩
set_option maxRecDepth 100000 in
theorem In_calls (w : World) (g n c : Nat) (T : List (Int × Int)) (hT : TabAt w g T) (hn : T.length = n) (hn2 : n ≤ 100) (r : Int) :
    Calls Tryd.prog 46 #[.int .i32 r, .slice (some ⟨g, 0, none⟩) n c] w fun e w' => e = .returned (.bool (inT T r)) ∧ Keeps [] w w' := by
  have Hn := Lib.hid hn; clear hn
  have HT := Lib.hid hT; clear hT
  go_enter Tryd.func46, Tryd.ntmps46
  go_wp2_with fail
  go_loopw [9] (fun i wr => ∃ k : Nat, k ≤ n ∧ i = .int .i64 k ∧ Keeps [] w wr ∧ Hid (inT (T.take k) r = false)) (fun i _ => n - (intOf i).toNat)
  case atStart => exact ⟨0, Nat.zero_le _, rfl, Keeps.refl _ _, by show _ = _; simp [inT]⟩
  case round =>
    obtain ⟨k, hk, rfl, hkr, hno⟩ := hrel
    by_cases hlt : k < n
    · have hkl : k < T.length := by rw [Hn.out]; exact hlt
      obtain ⟨a, ha⟩ : ∃ a, a = T[k].1 := ⟨_, rfl⟩
      obtain ⟨b, hb⟩ : ∃ b, b = T[k].2 := ⟨_, rfl⟩
      have c0 : wr.cell? ⟨g, k * 2, none⟩ = some (.int .i32 a) := by rw [ha]; exact hkr.cell (HT.out k hkl).1 (by simp)
      have c1 : wr.cell? ⟨g, k * 2 + 1, none⟩ = some (.int .i32 b) := by rw [hb]; exact hkr.cell (HT.out k hkl).2 (by simp)
      have Ha := Lib.hid ha; clear ha
      have Hb := Lib.hid hb; clear hb
      have hka := hkr.alloc (.cells #[.int .i32 a, .int .i32 b] 64)
      by_cases h1 : a ≤ r
      · by_cases h2 : r ≤ b
        · have hyes := Lib.hid (any_true T k hkl r ⟨by rw [← Ha.out]; exact h1, by rw [← Hb.out]; exact h2⟩)
          go_wp2
          go_ret
          exact ⟨by rw [hyes.out]; rfl, hka⟩
        · have hnext := Lib.hid (show inT (T.take (k + 1)) r = false by rw [any_snoc T k hkl, hno.out, ← Ha.out, ← Hb.out]; simp; omega)
          go_wp2
          go_roundw
          case rel => exact ⟨k + 1, by omega, by go_num, hka, hnext⟩
          case measure => simp [intOf]; omega
      · have hnext := Lib.hid (show inT (T.take (k + 1)) r = false by rw [any_snoc T k hkl, hno.out, ← Ha.out, ← Hb.out]; simp; omega)
        go_wp2
        go_roundw
        case rel => exact ⟨k + 1, by omega, by go_num, hka, hnext⟩
        case measure => simp [intOf]; omega
    · obtain rfl : k = n := by omega
      go_wp2
      go_ret
      have := hno.out
      rw [List.take_of_length_le (by rw [Hn.out]; omega)] at this
      exact ⟨by rw [this]; rfl, hkr⟩
set_option maxRecDepth 100000 in
theorem Width_calls (w : World) (hT : Tabs w) (r : Int) (h0 : -2147483648 ≤ r) (h1 : r ≤ 2147483647) : Calls Tryd.prog 19 #[.int .i32 r] w fun e w' => e = .returned (.int .i64 (width r)) ∧ Keeps [] w w' := by
  have hV := Is_calls w r h0 h1
  have hC := Control_calls w r h0 h1
  have hN := In_calls w 0 15 15 noneT hT.1 rfl (by decide) r
  have hk0 := Keeps.refl [] w
  by_cases v : valid r = false
  · rw [show width r = 0 by simp [width, v]]
    rw [v] at hV
    clear hT hN hC v
    go_enter Tryd.func19, Tryd.ntmps19
    go_wp2_with (go_at_call 41; refine hV.mono ?_; rintro e w' ⟨rfl, rfl⟩)
    go_ret
    exact ⟨rfl, hk0⟩
  · have v' : valid r = true := by simpa using v
    rw [v'] at hV
    by_cases c : ctl r = true
    · rw [show width r = 0 by simp [width, v', c]]
      rw [c] at hC
      clear hT hN c v v'
      go_enter Tryd.func19, Tryd.ntmps19
      go_wp2_with (first | (go_at_call 41; refine hV.mono ?_; rintro e w' ⟨rfl, rfl⟩) | (go_at_call 17; refine hC.mono ?_; rintro e w' ⟨rfl, rfl⟩))
      go_ret
      exact ⟨rfl, hk0⟩
    · have c' : ctl r = false := by simpa using c
      rw [c'] at hC
      by_cases n : inT noneT r = true
      · rw [show width r = 0 by simp [width, v', c', n]]
        rw [n] at hN
        clear hT n c c' v v'
        go_enter Tryd.func19, Tryd.ntmps19
        go_wp2_with (first | (go_at_call 41; refine hV.mono ?_; rintro e w' ⟨rfl, rfl⟩) | (go_at_call 17; refine hC.mono ?_; rintro e w' ⟨rfl, rfl⟩) | (go_at_call 46; refine hN.mono ?_; rintro e w1 ⟨rfl, hk1⟩))
        go_ret
        exact ⟨rfl, hk1⟩
      · have n' : inT noneT r = false := by simpa using n
        rw [n'] at hN
        have hwd : ∀ w1, Keeps [] w w1 → Calls Tryd.prog 46 #[.int .i32 r, .slice (some ⟨1, 0, none⟩) 14 14] w1 fun e w' => e = .returned (.bool (inT wideT r)) ∧ Keeps [] w1 w' := fun w1 k => In_calls w1 1 14 14 wideT (hT.2.keeps k) rfl (by decide) r
        have HW := Lib.hid hwd; clear hwd hT
        by_cases d : inT wideT r = true
        · rw [show width r = 2 by simp [width, v', c', n', d]]
          rw [d] at HW
          clear n n' c c' v v' d
          go_enter Tryd.func19, Tryd.ntmps19
          go_wp2_with (first | (go_at_call 41; refine hV.mono ?_; rintro e w' ⟨rfl, rfl⟩) | (go_at_call 17; refine hC.mono ?_; rintro e w' ⟨rfl, rfl⟩))
          refine hN.mono ?_
          rintro e w1 ⟨rfl, hk1⟩
          go_wp2_with fail
          refine (HW.out w1 hk1).mono ?_
          rintro e w2 ⟨rfl, hk2⟩
          go_wp2
          go_ret
          exact ⟨rfl, hk1.trans hk2⟩
        · have d' : inT wideT r = false := by simpa using d
          rw [show width r = 1 by simp [width, v', c', n', d']]
          rw [d'] at HW
          clear n n' c c' v v' d d'
          go_enter Tryd.func19, Tryd.ntmps19
          go_wp2_with (first | (go_at_call 41; refine hV.mono ?_; rintro e w' ⟨rfl, rfl⟩) | (go_at_call 17; refine hC.mono ?_; rintro e w' ⟨rfl, rfl⟩))
          refine hN.mono ?_
          rintro e w1 ⟨rfl, hk1⟩
          go_wp2_with fail
          refine (HW.out w1 hk1).mono ?_
          rintro e w2 ⟨rfl, hk2⟩
          go_wp2
          go_ret
          exact ⟨rfl, hk1.trans hk2⟩
end Go.Proofs.YtobogbjpdagklaaDoor.Kinds
