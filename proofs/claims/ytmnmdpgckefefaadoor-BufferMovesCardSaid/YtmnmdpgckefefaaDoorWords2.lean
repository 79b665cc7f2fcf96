/- buffer: where words, blanks and characters begin and end, from any place. -/
import Derived.Test.YtmnmdpgckefefaaDoorLetter
import Derived.Test.YtmnmdpgckefefaaDoorWords
namespace Go.Proofs.YtmnmdpgckefefaaDoor.Words
open Go Go.RowKit Go.Proofs.YtmnmdpgckefefaaDoor.Rw Go.Proofs.YtmnmdpgckefefaaDoor.SlR Go.Proofs.YtmnmdpgckefefaaDoor.Kinds

def R32 (r : Int) : Prop := -2147483648 ≤ r ∧ r ≤ 2147483647
theorem letterYes : Yes 61 #[] letter Tabs R32 where
  enters := Go.Proofs.enters_of Tryd.func61 (by kernel_rfl) rfl
  stays := fun _ _ h k => h.keeps k
  says := fun w r hG hD => Letter_calls w hG r hD.1 hD.2
def blankR (r : Int) : Bool := decide (r = 32 ∨ r = 9)
theorem Blank_calls (w : World) (r : Int) : Calls Tryd.prog 67 #[.int .i32 r] w fun e w' => e = .returned (.bool (blankR r)) ∧ w = w' := by
  by_cases h1 : r = 32
  · subst h1
    go_enter Tryd.func67, Tryd.ntmps67
    go_wp2
    go_ret
    exact ⟨rfl, rfl⟩
  · by_cases h2 : r = 9
    · subst h2
      go_enter Tryd.func67, Tryd.ntmps67
      go_wp2
      go_ret
      exact ⟨rfl, rfl⟩
    · rw [show blankR r = false by simp [blankR, h1, h2]]
      go_enter Tryd.func67, Tryd.ntmps67
      go_wp2
      all_goals go_ret
      all_goals exact ⟨by simp [h1, h2], rfl⟩
theorem blankYes : Yes 67 #[] blankR (fun _ => True) (fun _ => True) where
  enters := Go.Proofs.enters_of Tryd.func67 (by kernel_rfl) rfl
  stays := fun _ _ h _ => h
  says := fun w r _ _ => (Blank_calls w r).mono fun e w' h => ⟨h.1, h.2 ▸ Keeps.refl _ _⟩

def clampN (a : Int) (n : Nat) : Nat := (min (max a 0) (n : Int)).toNat
theorem clamp_le (a : Int) (n : Nat) : clampN a n ≤ n := by unfold clampN; omega
theorem within_any (w : World) (A : Option Addr) (n c : Nat) (a : Int) (hn : n ≤ maxLen) : Calls Tryd.prog 59 #[.slice A n c, .int .i64 a] w fun e w' => e = .returned (.int .i64 (clampN a n)) ∧ w = w' := by
  unfold maxLen at hn
  by_cases h0 : a < 0
  · rw [show clampN a n = 0 by unfold clampN; omega]
    go_enter Tryd.func59, Tryd.ntmps59
    go_wp2
    go_ret
    refine ⟨?_, rfl⟩
    exact congrArg (fun b => Ending.returned (.int .i64 b)) (by first | rfl | omega)
  · by_cases h1 : (n : Int) < a
    · rw [show clampN a n = n by unfold clampN; omega]
      go_enter Tryd.func59, Tryd.ntmps59
      go_wp2
      go_ret
      refine ⟨?_, rfl⟩
      exact congrArg (fun b => Ending.returned (.int .i64 b)) (by first | rfl | omega)
    · have e : ((clampN a n : Nat) : Int) = a := by unfold clampN; omega
      rw [e]
      go_enter Tryd.func59, Tryd.ntmps59
      go_wp2
      go_ret
      refine ⟨?_, rfl⟩
      exact congrArg (fun b => Ending.returned (.int .i64 b)) (by first | rfl | omega)

def backN (p : Int → Bool) (l : List Int) : Nat → Nat
  | 0 => 0
  | a + 1 => if p (l.getD a 0) = true then backN p l a else a + 1
theorem backN_le (p : Int → Bool) (l : List Int) (a : Nat) : backN p l a ≤ a := by
  induction a with
  | zero => simp [backN]
  | succ a ih => simp only [backN]; split <;> omega
set_option maxRecDepth 100000 in
theorem back_calls (w : World) (A : Option Addr) (n c a k : Nat) (cap : Array Value) (p : Int → Bool) (G : World → Prop) (D : Int → Prop) (l : List Int) (hl : Src w A (ns .i32 l)) (hln : l.length = n) (hn : n ≤ maxLen) (ha : a ≤ n) (hy : Yes k cap p G D) (hG : G w) (hD : ∀ r ∈ l, D r) :
    Calls Tryd.prog 58 #[.slice A n c, .int .i64 a, .func (.func k) #[] cap] w fun e w' => e = .returned (.int .i64 (backN p l a)) ∧ Keeps [] w w' := by
  unfold maxLen at hn
  have Hn := Lib.hid hln
  clear hln
  have hent := hy.enters
  go_enter Tryd.func58, Tryd.ntmps58
  go_wp2_with fail
  go_loopw [1] (fun i wr => ∃ j : Nat, j ≤ n ∧ i = .int .i64 j ∧ Keeps [] w wr ∧ Hid (backN p l a = backN p l j)) (fun i _ => (intOf i).toNat)
  case atStart => exact ⟨a, ha, rfl, Keeps.refl _ _, rfl⟩
  case round =>
    obtain ⟨j, hj, rfl, hkr, hov⟩ := hrel
    by_cases h0 : 0 < j
    · obtain ⟨i, hi⟩ : ∃ i : Nat, (j : Int) - 1 = (i : Int) := ⟨j - 1, by omega⟩
      have hij : j = i + 1 := by omega
      have hx : i < l.length := by rw [Hn.out]; omega
      have hin : i < n := by omega
      obtain ⟨ad, rfl, hc⟩ := src_num (hl.keeps hkr (by simp)) i hx
      obtain ⟨x, hxe⟩ : ∃ x, x = l[i] := ⟨_, rfl⟩
      rw [← hxe] at hc
      have Hxe := Lib.hid hxe; clear hxe
      have hDx : D x := by rw [Hxe.out]; exact hD _ (List.getElem_mem hx)
      have hgd : Hid (l.getD i 0 = x) := by show _ = _; rw [Hxe.out]; simp [List.getD, hx]
      have Hij := Lib.hid hij; clear hij
      have Hi := Lib.hid hi
      go_wp2_with fail
      refine (hy.says wr x (hy.stays _ _ hG hkr) hDx).mono ?_
      rintro e w1 ⟨rfl, hk1⟩
      have hk2 := hkr.trans hk1
      obtain ⟨q, hq⟩ : ∃ q, q = p x := ⟨_, rfl⟩
      rw [← hq]
      have Hq := Lib.hid hq; clear hq
      cases q with
      | true =>
        have Hst := Lib.hid (show backN p l j = backN p l i by rw [Hij.out]; simp only [backN]; rw [hgd.out, ← Hq.out]; rfl)
        go_wp2
        go_roundw
        case rel => exact ⟨i, by omega, rfl, hk2, by show _ = _; rw [hov.out, Hst.out]⟩
        case measure => simp [intOf]; omega
      | false =>
        have Hst := Lib.hid (show backN p l j = j by rw [Hij.out]; simp only [backN]; rw [hgd.out, ← Hq.out]; rfl)
        clear hi
        go_wp2
        go_ret
        exact ⟨by rw [hov.out, Hst.out]; rfl, hk2⟩
    · obtain rfl : j = 0 := by omega
      go_wp2
      go_ret
      exact ⟨by rw [hov.out]; rfl, hkr⟩

section
variable (w : World) (A : Option Addr) (n c : Nat) (a : Int) (l : List Int)
theorem WordEnd_any (hT : Tabs w) (hl : Src w A (ns .i32 l)) (hln : l.length = n) (hn : n ≤ maxLen) (hD : ∀ r ∈ l, R32 r) :
    Calls Tryd.prog 28 #[.slice A n c, .int .i64 a] w fun e w' => e = .returned (.int .i64 (overN letter l (overN (fun r => !letter r) l (clampN a n)))) ∧ Keeps [] w w' := by
  have hle : overN (fun r => !letter r) l (clampN a n) ≤ n := by
    unfold overN
    have := (l.drop (clampN a n)).takeWhile_sublist (fun r => !letter r) |>.length_le
    have := clamp_le a n
    rw [List.length_drop] at *; omega
  have hcl := clamp_le a n
  obtain ⟨m, hm⟩ : ∃ m, m = overN (fun r => !letter r) l (clampN a n) := ⟨_, rfl⟩
  rw [← hm] at hle ⊢
  have Hm := Lib.hid hm; clear hm
  go_enter Tryd.func28, Tryd.ntmps28
  go_wp2_with fail
  refine (within_any w A n c a hn).mono ?_
  rintro e w' ⟨rfl, rfl⟩
  go_wp2_with fail
  refine (not_calls w 61).mono ?_
  rintro e w1 ⟨q, rfl, hold, hk1⟩
  go_wp2_with fail
  refine (over_calls w1 A n c (clampN a n) 73 _ _ _ R32 l (hl.keeps hk1 (by simp)) hln hn hcl letterYes.not ⟨hT.keeps hk1, hold⟩ hD).mono ?_
  rintro e w2 ⟨rfl, hk2⟩
  rw [← Hm.out]
  have hk12 := hk1.trans hk2
  go_wp2_with fail
  refine (over_calls w2 A n c m 61 _ _ _ R32 l (hl.keeps hk12 (by simp)) hln hn hle letterYes (hT.keeps hk12) hD).mono ?_
  rintro e w3 ⟨rfl, hk3⟩
  go_wp2
  go_ret
  exact ⟨rfl, hk12.trans hk3⟩
theorem WordStart_any (hT : Tabs w) (hl : Src w A (ns .i32 l)) (hln : l.length = n) (hn : n ≤ maxLen) (hD : ∀ r ∈ l, R32 r) :
    Calls Tryd.prog 27 #[.slice A n c, .int .i64 a] w fun e w' => e = .returned (.int .i64 (backN letter l (backN (fun r => !letter r) l (clampN a n)))) ∧ Keeps [] w w' := by
  have hcl := clamp_le a n
  have hle := Nat.le_trans (backN_le (fun r => !letter r) l (clampN a n)) hcl
  obtain ⟨m, hm⟩ : ∃ m, m = backN (fun r => !letter r) l (clampN a n) := ⟨_, rfl⟩
  rw [← hm] at hle ⊢
  have Hm := Lib.hid hm; clear hm
  go_enter Tryd.func27, Tryd.ntmps27
  go_wp2_with fail
  refine (within_any w A n c a hn).mono ?_
  rintro e w' ⟨rfl, rfl⟩
  go_wp2_with fail
  refine (not_calls w 61).mono ?_
  rintro e w1 ⟨q, rfl, hold, hk1⟩
  go_wp2_with fail
  refine (back_calls w1 A n c (clampN a n) 73 _ _ _ R32 l (hl.keeps hk1 (by simp)) hln hn hcl letterYes.not ⟨hT.keeps hk1, hold⟩ hD).mono ?_
  rintro e w2 ⟨rfl, hk2⟩
  rw [← Hm.out]
  have hk12 := hk1.trans hk2
  go_wp2_with fail
  refine (back_calls w2 A n c m 61 _ _ _ R32 l (hl.keeps hk12 (by simp)) hln hn hle letterYes (hT.keeps hk12) hD).mono ?_
  rintro e w3 ⟨rfl, hk3⟩
  go_wp2
  go_ret
  exact ⟨rfl, hk12.trans hk3⟩
theorem BlankEnd_any (hl : Src w A (ns .i32 l)) (hln : l.length = n) (hn : n ≤ maxLen) :
    Calls Tryd.prog 39 #[.slice A n c, .int .i64 a] w fun e w' => e = .returned (.int .i64 (overN (fun r => !blankR r) l (overN blankR l (clampN a n)))) ∧ Keeps [] w w' := by
  have hle : overN blankR l (clampN a n) ≤ n := by
    unfold overN
    have := (l.drop (clampN a n)).takeWhile_sublist blankR |>.length_le
    have := clamp_le a n
    rw [List.length_drop] at *; omega
  have hcl := clamp_le a n
  obtain ⟨m, hm⟩ : ∃ m, m = overN blankR l (clampN a n) := ⟨_, rfl⟩
  rw [← hm] at hle ⊢
  have Hm := Lib.hid hm; clear hm
  go_enter Tryd.func39, Tryd.ntmps39
  go_wp2_with fail
  refine (within_any w A n c a hn).mono ?_
  rintro e w' ⟨rfl, rfl⟩
  go_wp2_with fail
  refine (over_calls w A n c (clampN a n) 67 #[] blankR _ _ l hl hln hn hcl blankYes trivial (fun _ _ => trivial)).mono ?_
  rintro e w1 ⟨rfl, hk1⟩
  rw [← Hm.out]
  go_wp2_with fail
  refine (not_calls w1 67).mono ?_
  rintro e w2 ⟨q, rfl, hold, hk2⟩
  have hk12 := hk1.trans hk2
  go_wp2_with fail
  refine (over_calls w2 A n c m 73 _ _ _ _ l (hl.keeps hk12 (by simp)) hln hn hle blankYes.not ⟨trivial, hold⟩ (fun _ _ => trivial)).mono ?_
  rintro e w3 ⟨rfl, hk3⟩
  go_wp2
  go_ret
  exact ⟨rfl, hk12.trans hk3⟩
theorem BlankStart_any (hl : Src w A (ns .i32 l)) (hln : l.length = n) (hn : n ≤ maxLen) :
    Calls Tryd.prog 37 #[.slice A n c, .int .i64 a] w fun e w' => e = .returned (.int .i64 (backN (fun r => !blankR r) l (backN blankR l (clampN a n)))) ∧ Keeps [] w w' := by
  have hcl := clamp_le a n
  have hle := Nat.le_trans (backN_le blankR l (clampN a n)) hcl
  obtain ⟨m, hm⟩ : ∃ m, m = backN blankR l (clampN a n) := ⟨_, rfl⟩
  rw [← hm] at hle ⊢
  have Hm := Lib.hid hm; clear hm
  go_enter Tryd.func37, Tryd.ntmps37
  go_wp2_with fail
  refine (within_any w A n c a hn).mono ?_
  rintro e w' ⟨rfl, rfl⟩
  go_wp2_with fail
  refine (back_calls w A n c (clampN a n) 67 #[] blankR _ _ l hl hln hn hcl blankYes trivial (fun _ _ => trivial)).mono ?_
  rintro e w1 ⟨rfl, hk1⟩
  rw [← Hm.out]
  go_wp2_with fail
  refine (not_calls w1 67).mono ?_
  rintro e w2 ⟨q, rfl, hold, hk2⟩
  have hk12 := hk1.trans hk2
  go_wp2_with fail
  refine (back_calls w2 A n c m 73 _ _ _ _ l (hl.keeps hk12 (by simp)) hln hn hle blankYes.not ⟨trivial, hold⟩ (fun _ _ => trivial)).mono ?_
  rintro e w3 ⟨rfl, hk3⟩
  go_wp2
  go_ret
  exact ⟨rfl, hk12.trans hk3⟩
end
end Go.Proofs.YtmnmdpgckefefaaDoor.Words
