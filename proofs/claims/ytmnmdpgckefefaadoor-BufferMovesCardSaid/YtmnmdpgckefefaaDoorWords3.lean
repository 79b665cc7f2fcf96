/- buffer: Next, Previous, Find. -/
import Derived.Test.YtmnmdpgckefefaaDoorWords2
namespace Go.Proofs.YtmnmdpgckefefaaDoor.Words
open Go Go.RowKit Go.Proofs.YtmnmdpgckefefaaDoor.Rw Go.Proofs.YtmnmdpgckefefaaDoor.SlR Go.Proofs.YtmnmdpgckefefaaDoor.Kinds

def beginsR (r : Int) : Bool := if width r = 0 then ctl r else true
set_option maxRecDepth 100000 in
theorem Begins_calls (w : World) (hT : Tabs w) (r : Int) (hr : R32 r) : Calls Tryd.prog 63 #[.int .i32 r] w fun e w' => e = .returned (.bool (beginsR r)) ∧ Keeps [] w w' := by
  have hW := Width_calls w hT r hr.1 hr.2
  have hC := fun w1 => Control_calls w1 r hr.1 hr.2
  have HC := Lib.hid hC; clear hC hT hr
  by_cases h : width r = 0
  · rw [show beginsR r = ctl r by simp [beginsR, h]]
    rw [h] at hW
    clear h
    go_enter Tryd.func63, Tryd.ntmps63
    go_wp2_with fail
    refine hW.mono ?_
    rintro e w1 ⟨rfl, hk1⟩
    go_wp2_with fail
    refine (HC.out w1).mono ?_
    rintro e w' ⟨rfl, rfl⟩
    go_wp2
    go_ret
    exact ⟨rfl, hk1⟩
  · rw [show beginsR r = true by simp [beginsR, h]]
    have h2 : (width r != 0) = true := by simpa using h
    have h3 : (width r == 0) = false := by simpa using h
    generalize width r = wd at *
    go_enter Tryd.func63, Tryd.ntmps63
    go_wp2_with fail
    refine hW.mono ?_
    rintro e w1 ⟨rfl, hk1⟩
    go_wp2
    go_ret
    exact ⟨rfl, hk1⟩

def nextN (l : List Int) (j : Nat) : Nat := if j < l.length then overN (fun r => !beginsR r) l (j + 1) else j
def prevN (l : List Int) : Nat → Nat
  | 0 => 0
  | j + 1 => if beginsR (l.getD j 0) = true then j else prevN l j
def findF (l : List Int) (r : Int) : Nat → Nat → Int × Bool
  | 0, _ => (0, false)
  | m + 1, j => if l.getD j 0 = r then ((j : Int), true) else findF l r m (j + 1)
def findB (l : List Int) (r : Int) : Nat → Int × Bool
  | 0 => (0, false)
  | j + 1 => if l.getD j 0 = r then ((j : Int), true) else findB l r j
theorem overN_ge (p : Int → Bool) (l : List Int) (a : Nat) : a ≤ overN p l a := by unfold overN; omega
theorem overN_le (p : Int → Bool) (l : List Int) (a : Nat) (h : a ≤ l.length) : overN p l a ≤ l.length := by
  unfold overN
  have := (l.drop a).takeWhile_sublist p |>.length_le
  rw [List.length_drop] at this; omega
theorem prevN_le (l : List Int) (j : Nat) : prevN l j ≤ j := by
  induction j with
  | zero => simp [prevN]
  | succ j ih => simp only [prevN]; split <;> omega
theorem prevN_lt (l : List Int) (j : Nat) (h : 0 < j) : prevN l j < j := by
  cases j with
  | zero => omega
  | succ j => simp only [prevN]; split; omega; have := prevN_le l j; omega

section
variable (w : World) (A : Option Addr) (n c : Nat) (a : Int) (l : List Int)
set_option maxRecDepth 100000 in
theorem Next_any (hT : Tabs w) (hl : Src w A (ns .i32 l)) (hln : l.length = n) (hn : n ≤ maxLen) (hD : ∀ r ∈ l, R32 r) :
    Calls Tryd.prog 29 #[.slice A n c, .int .i64 a] w fun e w' => e = .returned (.int .i64 (nextN l (clampN a n))) ∧ Keeps [] w w' := by
  have hW := within_any w A n c a hn
  unfold maxLen at hn
  have Hn := Lib.hid hln
  clear hln
  have hcl := clamp_le a n
  generalize clampN a n = a0 at *
  have HT := Lib.hid hT; clear hT
  go_enter Tryd.func29, Tryd.ntmps29
  go_wp2_with fail
  refine hW.mono ?_
  rintro e w' ⟨rfl, rfl⟩
  go_wp2_with fail
  go_loopw [1] (fun i wr => ∃ j : Nat, j ≤ n ∧ i = .int .i64 j ∧ Keeps [] w wr ∧ Hid (nextN l a0 = nextN l j)) (fun i _ => n - (intOf i).toNat)
  case atStart => exact ⟨a0, hcl, rfl, Keeps.refl _ _, rfl⟩
  case round =>
    obtain ⟨j, hj, rfl, hkr, hov⟩ := hrel
    by_cases hlt : j < n
    · have hjl : j < l.length := by rw [Hn.out]; exact hlt
      have hnx : Hid (nextN l j = overN (fun r => !beginsR r) l (j + 1)) := by show _ = _; simp [nextN, hjl]
      by_cases hend : j + 1 = n
      · have he : (j : Int) + 1 = (n : Int) := by omega
        have Hst := Lib.hid (show overN (fun r => !beginsR r) l (j + 1) = n by rw [overN_end (by rw [Hn.out]; omega)]; exact hend)
        clear hend
        go_wp2
        go_ret
        exact ⟨by rw [hov.out, hnx.out, Hst.out]; rfl, hkr⟩
      · have hlt2 : j + 1 < n := by omega
        have hne : ((j : Int) + 1 == (n : Int)) = false := by simp; omega
        have hne2 : ¬ ((j : Int) + 1 = (n : Int)) := by omega
        have hx : j + 1 < l.length := by rw [Hn.out]; exact hlt2
        obtain ⟨ad, rfl, hc⟩ := src_num (hl.keeps hkr (by simp)) (j + 1) hx
        obtain ⟨x, hxe⟩ : ∃ x, x = l[j + 1] := ⟨_, rfl⟩
        rw [← hxe, show ad.add (j + 1) = ⟨ad.block, ad.off + (j + 1), none⟩ by simp [Addr.add]] at hc
        have Hxe := Lib.hid hxe; clear hxe
        have hDx : R32 x := by rw [Hxe.out]; exact hD _ (List.getElem_mem hx)
        clear hend
        go_wp2_with fail
        refine (Begins_calls wr (HT.out.keeps hkr) x hDx).mono ?_
        rintro e w1 ⟨rfl, hk1⟩
        have hk2 := hkr.trans hk1
        obtain ⟨q, hq⟩ : ∃ q, q = beginsR x := ⟨_, rfl⟩
        rw [← hq]
        have Hq := Lib.hid hq; clear hq
        cases q with
        | true =>
          have Hst := Lib.hid (overN_stop (p := fun r => !beginsR r) hx (by rw [← Hxe.out, ← Hq.out]; rfl))
          go_wp2
          go_ret
          exact ⟨by rw [hov.out, hnx.out, Hst.out]; rfl, hk2⟩
        | false =>
          have Hst := Lib.hid (overN_step (p := fun r => !beginsR r) hx (by rw [← Hxe.out, ← Hq.out]; rfl))
          go_wp2
          go_roundw
          case rel => exact ⟨j + 1, by omega, by go_num, hk2, by show _ = _; rw [hov.out, hnx.out, Hst.out]; simp [nextN, hx]⟩
          case measure => simp [intOf]; omega
    · obtain rfl : j = n := by omega
      go_wp2
      go_ret
      exact ⟨by rw [hov.out]; simp [nextN, Hn.out], hkr⟩
set_option maxRecDepth 100000 in
theorem Previous_any (hT : Tabs w) (hl : Src w A (ns .i32 l)) (hln : l.length = n) (hn : n ≤ maxLen) (hD : ∀ r ∈ l, R32 r) :
    Calls Tryd.prog 30 #[.slice A n c, .int .i64 a] w fun e w' => e = .returned (.int .i64 (prevN l (clampN a n))) ∧ Keeps [] w w' := by
  have hW := within_any w A n c a hn
  unfold maxLen at hn
  have Hn := Lib.hid hln
  clear hln
  have hcl := clamp_le a n
  generalize clampN a n = a0 at *
  have HT := Lib.hid hT; clear hT
  go_enter Tryd.func30, Tryd.ntmps30
  go_wp2_with fail
  refine hW.mono ?_
  rintro e w' ⟨rfl, rfl⟩
  go_wp2_with fail
  go_loopw [1] (fun i wr => ∃ j : Nat, j ≤ n ∧ i = .int .i64 j ∧ Keeps [] w wr ∧ Hid (prevN l a0 = prevN l j)) (fun i _ => (intOf i).toNat)
  case atStart => exact ⟨a0, hcl, rfl, Keeps.refl _ _, rfl⟩
  case round =>
    obtain ⟨j, hj, rfl, hkr, hov⟩ := hrel
    by_cases h0 : 0 < j
    · obtain ⟨i, hi⟩ : ∃ i : Nat, (j : Int) - 1 = (i : Int) := ⟨j - 1, by omega⟩
      have Hij := Lib.hid (show j = i + 1 by omega)
      have hin : i < n := by omega
      have hij : i < j := by omega
      have hx : i < l.length := by rw [Hn.out]; exact hin
      obtain ⟨ad, rfl, hc⟩ := src_num (hl.keeps hkr (by simp)) i hx
      obtain ⟨x, hxe⟩ : ∃ x, x = l[i] := ⟨_, rfl⟩
      rw [← hxe] at hc
      have Hxe := Lib.hid hxe; clear hxe
      have hDx : R32 x := by rw [Hxe.out]; exact hD _ (List.getElem_mem hx)
      have hgd : Hid (l.getD i 0 = x) := by show _ = _; rw [Hxe.out]; simp [List.getD, hx]
      go_wp2_with fail
      refine (Begins_calls wr (HT.out.keeps hkr) x hDx).mono ?_
      rintro e w1 ⟨rfl, hk1⟩
      have hk2 := hkr.trans hk1
      obtain ⟨q, hq⟩ : ∃ q, q = beginsR x := ⟨_, rfl⟩
      rw [← hq]
      have Hq := Lib.hid hq; clear hq
      clear hi
      cases q with
      | true =>
        have Hst := Lib.hid (show prevN l j = i by rw [Hij.out]; simp only [prevN]; rw [hgd.out, ← Hq.out]; rfl)
        go_wp2
        go_ret
        exact ⟨by rw [hov.out, Hst.out]; rfl, hk2⟩
      | false =>
        have Hst := Lib.hid (show prevN l j = prevN l i by rw [Hij.out]; simp only [prevN]; rw [hgd.out, ← Hq.out]; rfl)
        go_wp2
        go_roundw
        case rel => exact ⟨i, by omega, rfl, hk2, by show _ = _; rw [hov.out, Hst.out]⟩
        case measure => simp [intOf]; omega
    · obtain rfl : j = 0 := by omega
      go_wp2
      go_ret
      exact ⟨by rw [hov.out]; rfl, hkr⟩
end
end Go.Proofs.YtmnmdpgckefefaaDoor.Words
