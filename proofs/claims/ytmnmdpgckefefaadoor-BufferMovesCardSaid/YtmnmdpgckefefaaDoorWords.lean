/- lanyardref07.Same; ucell.Letter below 0xc0; buffer's passing over runes by a function value. -/
import Derived.Test.YtmnmdpgckefefaaDoorSlR
import Derived.StillTailTactics
import Derived.RegionTactic
import Derived.Deep.RegionLaw
import Derived.Deep.QuietTactic
import Derived.BigQuiet
import Derived.Shelf.Abstract
namespace Go.Proofs.YtmnmdpgckefefaaDoor.Words
open Go Go.RowKit Go.Proofs.YtmnmdpgckefefaaDoor.Rw Go.Proofs.YtmnmdpgckefefaaDoor.SlR

theorem src_num {w : World} {A : Option Addr} {l : List Int} (h : Src w A (ns .i32 l)) (k : Nat) (hk : k < l.length) : ∃ ad, A = some ad ∧ w.cell? (ad.add k) = some (.int .i32 l[k]) :=
  h k (.int .i32 l[k]) (by simp [ns, List.getElem?_map, List.getElem?_eq_getElem hk])

theorem Same_calls (w : World) (A B : Option Addr) (n m c d : Nat) (xs ys : List Int) (hA : Src w A (ns .i32 xs)) (hB : Src w B (ns .i32 ys)) (hn : xs.length = n) (hm : ys.length = m) (hn2 : n ≤ maxLen) (hm2 : m ≤ maxLen) :
    Calls Tryd.prog 14 #[.slice A n c, .slice B m d] w fun e w' => e = .returned (.bool (decide (xs = ys))) ∧ Keeps [] w w' := by
  unfold maxLen at hn2 hm2
  have Hn := Lib.hid hn
  have Hm := Lib.hid hm
  clear hn hm
  by_cases hnm : n = m
  · subst hnm
    go_enter Tryd.func14, Tryd.ntmps14
    go_wp2_with fail
    go_loopw [5] (fun i wr => ∃ k : Nat, k ≤ n ∧ i = .int .i64 k ∧ Keeps [] w wr ∧ xs.take k = ys.take k) (fun i _ => n - (intOf i).toNat)
    case atStart => exact ⟨0, Nat.zero_le _, rfl, Keeps.refl _ _, rfl⟩
    case round =>
      obtain ⟨k, hk, rfl, hkr, hpre⟩ := hrel
      have Hpre := Lib.hid hpre; clear hpre
      by_cases hlt : k < n
      · have hx : k < xs.length := by rw [Hn.out]; exact hlt
        have hy : k < ys.length := by rw [Hm.out]; exact hlt
        obtain ⟨ad, rfl, hc⟩ := src_num (hA.keeps hkr (by simp)) k hx
        obtain ⟨bd, rfl, hd⟩ := src_num (hB.keeps hkr (by simp)) k hy
        obtain ⟨x, hxe⟩ : ∃ x, x = xs[k] := ⟨_, rfl⟩
        obtain ⟨y, hye⟩ : ∃ y, y = ys[k] := ⟨_, rfl⟩
        rw [← hxe] at hc
        rw [← hye] at hd
        have Hxe := Lib.hid hxe; clear hxe
        have Hye := Lib.hid hye; clear hye
        have hkd := hkr.drew
        go_wp2_with fail
        by_cases hxy : x = y
        · have hdone : xs.take (k + 1) = ys.take (k + 1) := by
            rw [List.take_succ_eq_append_getElem hx, List.take_succ_eq_append_getElem hy, Hpre.out, ← Hxe.out, ← Hye.out, hxy]
          have Hdone := Lib.hid hdone; clear hdone
          go_region
          all_goals go_wp2
          all_goals go_roundw
          all_goals first | exact ⟨k + 1, by omega, by go_num, by first | exact hkr | exact hkd, Hdone.out⟩ | (simp [intOf]; omega)
        · have hne : ¬ xs = ys := by
            intro e; subst e; exact hxy (Hxe.out.trans Hye.out.symm)
          have Hne := Lib.hid hne; clear hne
          go_region
          all_goals go_wp2
          all_goals go_ret
          all_goals exact ⟨by simp [Hne.out], by first | exact hkr | exact hkd⟩
      · obtain rfl : k = n := by omega
        go_wp2
        go_ret
        have : xs = ys := by
          have := Hpre.out
          rwa [List.take_of_length_le (by rw [Hn.out]; omega), List.take_of_length_le (by rw [Hm.out]; omega)] at this
        exact ⟨by simp [this], hkr⟩
  · have hne : ¬ xs = ys := fun e => hnm (by rw [← Hn.out, ← Hm.out, e])
    have Hne := Lib.hid hne; clear hne
    go_enter Tryd.func14, Tryd.ntmps14
    go_wp2
    go_ret
    exact ⟨by simp [Hne.out], Keeps.refl _ _⟩

/-- Letters below 0xc0. -/
def small (r : Int) : Bool := decide (48 ≤ r ∧ r ≤ 57 ∨ 65 ≤ r ∧ r ≤ 90 ∨ 97 ≤ r ∧ r ≤ 122)
theorem Letter_small (w : World) (r : Int) (h0 : -2147483648 ≤ r) (h : r < 192) : Calls Tryd.prog 61 #[.int .i32 r] w fun e w' => e = .returned (.bool (small r)) ∧ w = w' := by
  go_enter Tryd.func61, Tryd.ntmps61
  go_wp2
  all_goals go_ret
  all_goals refine ⟨?_, rfl⟩
  all_goals (refine congrArg (fun b => Ending.returned (.bool b)) ?_; rw [Bool.eq_iff_iff]; simp [small]; try omega)

/-- A function value: what it says of runes of a kind, in worlds of a kind. -/
structure Yes (k : Nat) (cap : Array Value) (p : Int → Bool) (G : World → Prop) (D : Int → Prop) : Prop where
  enters : ∀ args w, (callFunc k args).run Tryd.prog w = .ok (.enter k args) w
  says : ∀ w r, G w → D r → Calls Tryd.prog k (#[.int .i32 r] ++ cap) w fun e w' => e = .returned (.bool (p r)) ∧ Keeps [] w w'
  stays : ∀ w w', G w → Keeps [] w w' → G w'

def overN (p : Int → Bool) (l : List Int) (a : Nat) : Nat := a + ((l.drop a).takeWhile p).length
theorem overN_step {p : Int → Bool} {l : List Int} {a : Nat} (h : a < l.length) (hp : p l[a] = true) : overN p l a = overN p l (a + 1) := by
  unfold overN
  rw [List.drop_eq_getElem_cons h, List.takeWhile_cons_of_pos hp, List.length_cons]; omega
theorem overN_stop {p : Int → Bool} {l : List Int} {a : Nat} (h : a < l.length) (hp : p l[a] = false) : overN p l a = a := by
  unfold overN
  rw [List.drop_eq_getElem_cons h, List.takeWhile_cons_of_neg (by simp [hp])]; simp
theorem overN_end {p : Int → Bool} {l : List Int} {a : Nat} (h : l.length ≤ a) : overN p l a = a := by
  unfold overN
  rw [List.drop_of_length_le h]; simp

theorem within_calls (w : World) (A : Option Addr) (n c a : Nat) (ha : a ≤ n) (_hn : n ≤ maxLen) : Calls Tryd.prog 59 #[.slice A n c, .int .i64 a] w fun e w' => e = .returned (.int .i64 a) ∧ w = w' := by
  go_enter Tryd.func59, Tryd.ntmps59
  go_wp2
  go_ret
  exact ⟨rfl, rfl⟩

set_option maxRecDepth 100000 in
theorem over_calls (w : World) (A : Option Addr) (n c a k : Nat) (cap : Array Value) (p : Int → Bool) (G : World → Prop) (D : Int → Prop) (l : List Int) (hl : Src w A (ns .i32 l)) (hln : l.length = n) (hn : n ≤ maxLen) (ha : a ≤ n) (hy : Yes k cap p G D) (hG : G w) (hD : ∀ r ∈ l, D r) :
    Calls Tryd.prog 62 #[.slice A n c, .int .i64 a, .func (.func k) #[] cap] w fun e w' => e = .returned (.int .i64 (overN p l a)) ∧ Keeps [] w w' := by
  unfold maxLen at hn
  have Hn := Lib.hid hln
  clear hln
  have hent := hy.enters
  go_enter Tryd.func62, Tryd.ntmps62
  go_wp2_with fail
  go_loopw [1] (fun i wr => ∃ j : Nat, j ≤ n ∧ i = .int .i64 j ∧ Keeps [] w wr ∧ overN p l a = overN p l j) (fun i _ => n - (intOf i).toNat)
  case atStart => exact ⟨a, ha, rfl, Keeps.refl _ _, rfl⟩
  case round =>
    obtain ⟨j, hj, rfl, hkr, hov⟩ := hrel
    have Hov := Lib.hid hov; clear hov
    by_cases hlt : j < n
    · have hx : j < l.length := by rw [Hn.out]; exact hlt
      obtain ⟨ad, rfl, hc⟩ := src_num (hl.keeps hkr (by simp)) j hx
      obtain ⟨x, hxe⟩ : ∃ x, x = l[j] := ⟨_, rfl⟩
      rw [← hxe] at hc
      have Hxe := Lib.hid hxe; clear hxe
      have hDx : D x := by rw [Hxe.out]; exact hD _ (List.getElem_mem hx)
      go_wp2_with fail
      refine (hy.says wr x (hy.stays _ _ hG hkr) hDx).mono ?_
      rintro e w1 ⟨rfl, hk1⟩
      have hk2 := hkr.trans hk1
      obtain ⟨q, hq⟩ : ∃ q, q = p x := ⟨_, rfl⟩
      rw [← hq]
      have Hq := Lib.hid hq; clear hq
      cases q with
      | true =>
        have Hst := Lib.hid (overN_step (p := p) hx (by rw [← Hxe.out, ← Hq.out]))
        go_wp2
        go_roundw
        exact ⟨j + 1, by omega, by go_num, hk2, Hov.out.trans Hst.out⟩
        simp [intOf]; omega
      | false =>
        have Hst := Lib.hid (overN_stop (p := p) hx (by rw [← Hxe.out, ← Hq.out]))
        go_wp2
        go_ret
        exact ⟨by rw [Hov.out, Hst.out]; rfl, hk2⟩
    · obtain rfl : j = n := by omega
      go_wp2
      go_ret
      exact ⟨by rw [Hov.out, overN_end (by rw [Hn.out]; omega)]; rfl, hkr⟩

def Old (c : Nat) (v : Value) (w : World) : Prop := w.cell? ⟨c, 0, none⟩ = some v
/-- Its other answer, in a captured variable. -/
theorem Yes.not {k c : Nat} {p : Int → Bool} {G : World → Prop} {D : Int → Prop} (h : Yes k #[] p G D) :
    Yes 73 #[.pointer (some ⟨c, 0, none⟩)] (fun r => !p r) (fun w => G w ∧ Old c (.func (.func k) #[] #[]) w) D where
  enters := Go.Proofs.enters_of Tryd.func73 (by kernel_rfl) rfl
  stays := fun w w' hG hk => ⟨h.stays w w' hG.1 hk, hk.cell hG.2 (by simp)⟩
  says := fun w r hG hD => by
    have hent := h.enters
    obtain ⟨hG, hc⟩ := hG
    unfold Old at hc
    show Calls Tryd.prog 73 #[.int .i32 r, .pointer (some ⟨c, 0, none⟩)] w _
    go_enter Tryd.func73, Tryd.ntmps73
    go_wp2_with fail
    refine (show Calls Tryd.prog k #[.int .i32 r] w _ from h.says w r hG hD).mono ?_
    rintro e w1 ⟨rfl, hk1⟩
    go_wp2
    go_ret
    exact ⟨rfl, hk1⟩
theorem letter_yes : Yes 61 #[] small (fun _ => True) (fun r => 0 ≤ r ∧ r < 192) where
  enters := Go.Proofs.enters_of Tryd.func61 (by kernel_rfl) rfl
  stays := fun _ _ _ _ => trivial
  says := fun w r _ hD => (Letter_small w r (by omega) hD.2).mono fun e w' h => ⟨h.1, h.2 ▸ Keeps.refl _ _⟩

theorem not_calls (w : World) (k : Nat) : Calls Tryd.prog 60 #[.func (.func k) #[] #[]] w fun e w' => ∃ c, e = .returned (.func (.func 73) #[] #[.pointer (some ⟨c, 0, none⟩)]) ∧ Old c (.func (.func k) #[] #[]) w' ∧ Keeps [] w w' := by
  have hk := (Keeps.refl [] w).alloc (.cells #[.func (.func k) #[] #[]] 77)
  have hmf : ∀ (fn : Fn) (first cap : Array Value) (w : World), (Instr.makeFunc fn first cap).run Tryd.prog w = .ok (.func fn first cap) w := fun _ _ _ _ => rfl
  have hc := blk_cell (blk_new w (.cells #[.func (.func k) #[] #[]] 77)) 0
  go_enter Tryd.func60, Tryd.ntmps60
  go_wp2
  go_ret
  exact ⟨_, rfl, hc, hk⟩

theorem WordEnd_calls (w : World) (A : Option Addr) (n c a : Nat) (G : World → Prop) (p : Int → Bool) (D : Int → Prop) (l : List Int) (hy : Yes 61 #[] p G D) (hG : G w) (hl : Src w A (ns .i32 l)) (hln : l.length = n) (hn : n ≤ maxLen) (ha : a ≤ n) (hD : ∀ r ∈ l, D r) :
    Calls Tryd.prog 28 #[.slice A n c, .int .i64 a] w fun e w' => e = .returned (.int .i64 (overN p l (overN (fun r => !p r) l a))) ∧ Keeps [] w w' := by
  have hle : overN (fun r => !p r) l a ≤ n := by
    unfold overN
    have := (l.drop a).takeWhile_sublist (fun r => !p r) |>.length_le
    rw [List.length_drop] at this; omega
  obtain ⟨m, hm⟩ : ∃ m, m = overN (fun r => !p r) l a := ⟨_, rfl⟩
  rw [← hm] at hle ⊢
  have Hm := Lib.hid hm; clear hm
  go_enter Tryd.func28, Tryd.ntmps28
  go_wp2_with fail
  refine (within_calls w A n c a ha hn).mono ?_
  rintro e w' ⟨rfl, rfl⟩
  go_wp2_with fail
  refine (not_calls w 61).mono ?_
  rintro e w1 ⟨q, rfl, hold, hk1⟩
  go_wp2_with fail
  refine (over_calls w1 A n c a 73 _ _ _ D l (hl.keeps hk1 (by simp)) hln hn ha hy.not ⟨hy.stays _ _ hG hk1, hold⟩ hD).mono ?_
  rintro e w2 ⟨rfl, hk2⟩
  rw [← Hm.out]
  have hk12 := hk1.trans hk2
  go_wp2_with fail
  refine (over_calls w2 A n c m 61 _ _ _ D l (hl.keeps hk12 (by simp)) hln hn hle hy (hy.stays _ _ hG hk12) hD).mono ?_
  rintro e w3 ⟨rfl, hk3⟩
  go_wp2
  go_ret
  exact ⟨rfl, hk12.trans hk3⟩
end Go.Proofs.YtmnmdpgckefefaaDoor.Words
