/- slices.Equal at runes. -/
import Derived.Test.YtobogbjpdagklaaDoorRunes
namespace Go.Proofs.YtobogbjpdagklaaDoor.Dec
open Go Go.RowKit Go.Proofs.YtobogbjpdagklaaDoor.Rw

theorem src_num {w : World} {A : Option Addr} {l : List Int} (h : Src w A (ns .i32 l)) (k : Nat) (hk : k < l.length) : ∃ ad, A = some ad ∧ w.cell? (ad.add k) = some (.int .i32 l[k]) :=
  h k (.int .i32 l[k]) (by simp [ns, List.getElem?_map, List.getElem?_eq_getElem hk])

/-- slices.Equal. -/
theorem Equal_calls (w : World) (A B : Option Addr) (n m c d : Nat) (xs ys : List Int) (hA : Src w A (ns .i32 xs)) (hB : Src w B (ns .i32 ys)) (hn : xs.length = n) (hm : ys.length = m) (hn2 : n ≤ maxLen) (hm2 : m ≤ maxLen) :
    Calls Tryd.prog 21 #[.slice A n c, .slice B m d] w fun e w' => e = .returned (.bool (decide (xs = ys))) ∧ Keeps [] w w' := by
  unfold maxLen at hn2 hm2
  have Hn := Lib.hid hn
  have Hm := Lib.hid hm
  clear hn hm
  by_cases hnm : n = m
  · subst hnm
    go_enter Tryd.func21, Tryd.ntmps21
    go_wp2_with fail
    go_loopw [13] (fun i wr => ∃ k : Nat, k ≤ n ∧ i = .int .i64 k ∧ Keeps [] w wr ∧ xs.take k = ys.take k) (fun i _ => n - (intOf i).toNat)
    case atStart => exact ⟨0, Nat.zero_le _, rfl, Keeps.refl _ _, rfl⟩
    case round =>
      obtain ⟨k, hk, rfl, hkr, hpre⟩ := hrel
      have Hpre := Lib.hid hpre; clear hpre
      by_cases hlt : k < n
      · have hx : k < xs.length := by rw [Hn.out]; exact hlt
        have hy : k < ys.length := by rw [Hm.out]; exact hlt
        obtain ⟨ad, rfl, hc⟩ := src_num (hA.keeps hkr (by simp)) k hx
        obtain ⟨bd, rfl, hd⟩ := src_num (hB.keeps hkr (by simp)) k hy
        obtain ⟨x, hxe⟩ : ∃ x, x = xs[k] := ⟨_, rfl⟩
        obtain ⟨y, hye⟩ : ∃ y, y = ys[k] := ⟨_, rfl⟩
        rw [← hxe] at hc
        rw [← hye] at hd
        have Hxe := Lib.hid hxe; clear hxe
        have Hye := Lib.hid hye; clear hye
        have hkd := hkr.drew
        go_wp2_with fail
        by_cases hxy : x = y
        · have hdone : xs.take (k + 1) = ys.take (k + 1) := by
            rw [List.take_succ_eq_append_getElem hx, List.take_succ_eq_append_getElem hy, Hpre.out, ← Hxe.out, ← Hye.out, hxy]
          have Hdone := Lib.hid hdone; clear hdone
          go_region
          all_goals go_wp2
          all_goals go_roundw
          all_goals first | exact ⟨k + 1, by omega, by go_num, by first | exact hkr | exact hkd, Hdone.out⟩ | (simp [intOf]; omega)
        · have hne : ¬ xs = ys := by
            intro e; subst e; exact hxy (Hxe.out.trans Hye.out.symm)
          have Hne := Lib.hid hne; clear hne
          go_region
          all_goals go_wp2
          all_goals go_ret
          all_goals exact ⟨by simp [Hne.out], by first | exact hkr | exact hkd⟩
      · obtain rfl : k = n := by omega
        go_wp2
        go_ret
        have : xs = ys := by
          have := Hpre.out
          rwa [List.take_of_length_le (by rw [Hn.out]; omega), List.take_of_length_le (by rw [Hm.out]; omega)] at this
        exact ⟨by simp [this], hkr⟩
  · have hne : ¬ xs = ys := fun e => hnm (by rw [← Hn.out, ← Hm.out, e])
    have Hne := Lib.hid hne; clear hne
    go_enter Tryd.func21, Tryd.ntmps21
    go_wp2
    go_ret
    exact ⟨by simp [Hne.out], Keeps.refl _ _⟩

end Go.Proofs.YtobogbjpdagklaaDoor.Dec
