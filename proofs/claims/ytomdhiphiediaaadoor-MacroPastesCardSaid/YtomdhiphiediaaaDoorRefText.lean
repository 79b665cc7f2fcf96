/- lanyardref22.Paste: Text. -/
import Derived.Test.YtomdhiphiediaaaDoorRefPaste
import Derived.Test.YtomdhiphiediaaaDoorRefRunesM
import Derived.Test.YtomdhiphiediaaaDoorPasteP
namespace Go.Proofs.YtomdhiphiediaaaDoor.Dec
open Go Go.RowKit Go.Proofs.YtomdhiphiediaaaDoor.Rw

theorem runes_range (l : List UInt8) : ∀ r ∈ runesOf l, 0 ≤ r ∧ r ≤ 1114111 := by
  have : ∀ n (l : List UInt8), ∀ r ∈ runesF n l, 0 ≤ r ∧ r ≤ 1114111 := by
    intro n
    induction n with
    | zero => intro l r h; simp [runesF] at h
    | succ n ih =>
      intro l r h
      cases l with
      | nil => simp [runesF] at h
      | cons x l =>
        simp only [runesF, List.mem_cons] at h
        rcases h with rfl | h
        · have := dec_rune (x :: l); omega
        · exact ih _ r h
  exact this _ l
theorem crR_drop2 (xs : List Int) (i : Nat) (h : i + 1 < xs.length) (h1 : xs[i] = 13) (h2 : xs[i + 1] = 10) : crR (xs.drop i) = 10 :: crR (xs.drop (i + 2)) := by
  rw [List.drop_eq_getElem_cons (by omega), List.drop_eq_getElem_cons h, h1, h2]
  exact crR_crlf _
theorem crR_drop1 (xs : List Int) (i : Nat) (h : i < xs.length) (h1 : xs[i] = 13) (h2 : xs[i + 1]? ≠ some 10) : crR (xs.drop i) = 10 :: crR (xs.drop (i + 1)) := by
  rw [List.drop_eq_getElem_cons h, h1]
  refine crR_cr _ ?_
  rw [List.head?_drop]; exact h2
theorem crR_drop0 (xs : List Int) (i : Nat) (h : i < xs.length) (h1 : xs[i] ≠ 13) : crR (xs.drop i) = xs[i] :: crR (xs.drop (i + 1)) := by
  rw [List.drop_eq_getElem_cons h]
  exact crR_other _ _ h1
theorem crR_le : ∀ (n : Nat) (l : List Int), l.length ≤ n → (crR l).length ≤ l.length
  | 0, l, h => by
    obtain rfl : l = [] := List.eq_nil_of_length_eq_zero (by omega)
    exact Nat.le_refl _
  | n + 1, [], _ => Nat.le_refl _
  | n + 1, [x], _ => by simp [crR]
  | n + 1, x :: y :: r, h => by
    have h1 := crR_le n r (by simp at h; omega)
    have h2 := crR_le n (y :: r) (by simp at h ⊢; omega)
    unfold crR
    split
    · split
      · simp only [List.length_cons]; omega
      · simp only [List.length_cons] at h2 ⊢; omega
    · simp only [List.length_cons] at h2 ⊢; omega
theorem src_num {w : World} {A : Option Addr} {l : List Int} (h : Src w A (ns .i32 l)) (k : Nat) (hk : k < l.length) : ∃ ad, A = some ad ∧ w.cell? (ad.add k) = some (.int .i32 l[k]) :=
  h k (.int .i32 l[k]) (by simp [ns, List.getElem?_map, List.getElem?_eq_getElem hk])
set_option maxRecDepth 100000 in
set_option maxHeartbeats 4000000 in
theorem RText_calls (w : World) (b : Nat) (F : List Nat) (l : List UInt8) (done : Bool) (cut : Nat) (h : RAt w b F l done cut) (hcut : cut ≤ l.length) (hl : l.length ≤ 1048576) :
    Calls Tryd.prog 26 #[.pointer (some ⟨b, 0, none⟩)] w fun e w' => MadeR w w' e (crR (runesOf (l.take cut))) := by
  obtain ⟨bv, h, rfl⟩ := h
  obtain ⟨A, c, rfl, h1, h2, hs, _⟩ := h.row.src
  have c0 := blk_cell h.blk 0
  have c2 := blk_cell h.blk 2
  unfold maxLen at h2
  have hst : Src w A (bs (l.take cut)) := by
    have := hs.take cut
    rwa [show (bs l).take cut = bs (l.take cut) by simp [bs]] at this
  have hcl : (l.take cut).length = cut := by rw [List.length_take]; omega
  have hR := fun wx (k : Keeps [] w wx) => RfRunes_calls wx A c (l.take cut) (hst.keeps k (fun _ _ _ => by simp)) (by omega) h2 (by omega)
  rw [hcl] at hR
  have hrl := runesOf_length (l.take cut)
  have hrr := runes_range (l.take cut)
  rw [hcl] at hrl
  generalize runesOf (l.take cut) = xs at *
  have HR := Lib.hid hR
  have Hrr := Lib.hid hrr
  have hcc : cut ≤ c := by omega
  clear hR hst hs h hcl hrr
  go_enter Tryd.func26, Tryd.ntmps26
  go_wp2_with fail
  go_still_tail 9, (by kernel_rfl)
  go_wp2_with fail
  refine (HR.out _ ((Keeps.refl _ _).drew)).mono ?_
  rintro e w1 ⟨B, d, rfl, hrow, hk, hf⟩
  obtain ⟨_, _, he, hB1, hB2, hsB, _⟩ := hrow.src
  cases he
  unfold maxLen at hB2
  have hk0 : Keeps [] w w1 := ((Keeps.refl [] w).drew).trans hk
  have hcr := crR_le _ xs (Nat.le_refl _)
  have HsB := Lib.hid hsB
  have Hcr := Lib.hid hcr
  clear hsB hrow hf HR hcr
  go_wp2_with fail
  go_loopw [4, 5] (fun v i wr => ∃ (k : Nat) (acc : List Int), i = .int .i64 k ∧ k ≤ xs.length ∧ Keeps [] w1 wr ∧ Row wr 21 1 v acc.length (ns .i32 acc) ∧ (∀ k, k ∈ fp v → w1.heap.size ≤ k) ∧ Hid (acc ++ crR (xs.drop k) = crR xs) ∧ acc.length ≤ k) (fun _ i _ => xs.length - (intOf i).toNat)
  case atStart => exact ⟨0, [], rfl, Nat.zero_le _, Keeps.refl _ _, Row.nil _ _ _ _, fun k hk => by simp [fp] at hk, rfl, Nat.le_refl _⟩
  case round =>
    obtain ⟨k, acc, rfl, hkl, hkr, hrow, hfp, he, hle⟩ := hrel
    have hsr := HsB.out.keeps hkr (fun _ _ _ => by simp)
    by_cases hlt : k < xs.length
    · obtain ⟨ad, rfl, hc⟩ := src_num hsr k hlt
      have hx := Hrr.out xs[k] (List.getElem_mem _)
      have hd0 := crR_drop0 xs k hlt
      have hd1 := crR_drop1 xs k hlt
      have hd2 := fun h => crR_drop2 xs k h
      obtain ⟨x, hxe⟩ : ∃ x, x = xs[k] := ⟨_, rfl⟩
      rw [← hxe] at hc hx hd0 hd1
      have hd2 : ∀ (h : k + 1 < xs.length), x = 13 → xs[k + 1] = 10 → crR (xs.drop k) = 10 :: crR (xs.drop (k + 2)) := fun h h1 => hd2 h (hxe ▸ h1)
      have Hd0 := Lib.hid hd0
      have Hd1 := Lib.hid hd1
      have Hd2 := Lib.hid hd2
      have Hfp := Lib.hid hfp
      clear hd0 hd1 hd2 hfp hxe
      obtain ⟨A2, c2, rfl, h1, h2⟩ := hrow.slice
      have hz4 := hkr.size
      have hkeep : ∀ (y : Int) (A1 : Option Addr) (c1 : Nat) (w3 : World), Keeps (fp (.slice A2 acc.length c2)) (wr.alloc (.cells #[.int .i32 y] 21)) w3 → (∀ k, k ∈ fp (.slice A1 (acc.length + 1) c1) → k ∈ fp (.slice A2 acc.length c2) ∨ (wr.alloc (.cells #[.int .i32 y] 21)).heap.size ≤ k) → Keeps [] w1 w3 ∧ ∀ k, k ∈ fp (.slice A1 (acc.length + 1) c1) → w1.heap.size ≤ k := by
        intro y A1 c1 w3 hk3 hf3
        refine ⟨(hkr.alloc _).then hk3 (fun i hi => .inr (Hfp.out i hi)), fun k hk' => ?_⟩
        rcases hf3 k hk' with h | h
        · exact Hfp.out k h
        · simp at h; omega
      have Hkeep := Lib.hid hkeep
      clear hkeep
      by_cases h13 : x = 13
      · subst h13
        cases hnx : xs[k + 1]? with
        | none =>
          have hlen : ¬ ((k : Int) + 1 < (xs.length : Int)) := by rw [List.getElem?_eq_none_iff] at hnx; omega
          have e2 := Hd1.out rfl (by rw [hnx]; simp)
          have E2 := Lib.hid e2
          clear e2 hnx
          go_wp2_with (at_builtin; refine wpList_append_row rfl _ _ 29 rfl elR _ _ _ rfl (hrow.keeps ((Keeps.refl [] _).alloc _) (fun _ _ => by simp)) _ 1 1 [.int .i32 10] rfl rfl (Src.new _ _ _) (by intro u hu; simp at hu; subst hu; rfl) (by unfold maxLen; omega) (by omega) ?_; intro A3 c3 w3 hrow3 hk3 hf3)
          obtain ⟨hn2, hfin⟩ := Hkeep.out 10 A3 c3 w3 hk3 hf3
          refine ⟨⟨k + 1, acc ++ [10], by go_num, by omega, hn2, ?_, hfin, ?_, ?_⟩, ?_⟩
          · rw [ns_append, List.length_append]; exact hrow3
          · have h1 := he.out
            rw [E2.out] at h1
            exact (List.append_assoc _ _ _).trans h1
          · rw [List.length_append]; simp only [List.length_singleton]; omega
          · simp only [intOf]; omega
        | some y =>
          obtain ⟨hlt2, hye⟩ := List.getElem?_eq_some_iff.1 hnx
          have hlen : (k : Int) + 1 < (xs.length : Int) := by omega
          have hcy : ∀ w3, Keeps [] w1 w3 → w3.cell? ⟨ad.block, ad.off + (k + 1), none⟩ = some (.int .i32 y) := fun w3 hn2 => by
            obtain ⟨ad', he', hc'⟩ := src_num (HsB.out.keeps hn2 (fun _ _ _ => by simp)) (k + 1) hlt2
            cases he'
            rw [hye] at hc'
            exact hc'
          have Hcy := Lib.hid hcy
          clear hcy
          have Hnx := Lib.hid hnx
          have Hye := Lib.hid hye
          clear hnx hye
          by_cases h10 : y = 10
          · subst h10
            have e2 := Hd2.out hlt2 rfl Hye.out
            have E2 := Lib.hid e2
            clear e2
            go_wp2_with (at_builtin; refine wpList_append_row rfl _ _ 29 rfl elR _ _ _ rfl (hrow.keeps ((Keeps.refl [] _).alloc _) (fun _ _ => by simp)) _ 1 1 [.int .i32 10] rfl rfl (Src.new _ _ _) (by intro u hu; simp at hu; subst hu; rfl) (by unfold maxLen; omega) (by omega) ?_; intro A3 c3 w3 hrow3 hk3 hf3; obtain ⟨hn2, hfin⟩ := Hkeep.out 10 A3 c3 w3 hk3 hf3; have hcz := Hcy.out w3 hn2)
            refine ⟨⟨k + 2, acc ++ [10], by go_num, by omega, hn2, ?_, hfin, ?_, ?_⟩, ?_⟩
            · rw [ns_append, List.length_append]; exact hrow3
            · have h1 := he.out
              rw [E2.out] at h1
              exact (List.append_assoc _ _ _).trans h1
            · rw [List.length_append]; simp only [List.length_singleton]; omega
            · simp only [intOf]; omega
          · have hq2 : (y == 10) = false := by simpa using h10
            have e2 := Hd1.out rfl (by rw [Hnx.out]; simpa using h10)
            have E2 := Lib.hid e2
            clear e2
            go_wp2_with (at_builtin; refine wpList_append_row rfl _ _ 29 rfl elR _ _ _ rfl (hrow.keeps ((Keeps.refl [] _).alloc _) (fun _ _ => by simp)) _ 1 1 [.int .i32 10] rfl rfl (Src.new _ _ _) (by intro u hu; simp at hu; subst hu; rfl) (by unfold maxLen; omega) (by omega) ?_; intro A3 c3 w3 hrow3 hk3 hf3; obtain ⟨hn2, hfin⟩ := Hkeep.out 10 A3 c3 w3 hk3 hf3; have hcz := Hcy.out w3 hn2)
            refine ⟨⟨k + 1, acc ++ [10], by go_num, by omega, hn2, ?_, hfin, ?_, ?_⟩, ?_⟩
            · rw [ns_append, List.length_append]; exact hrow3
            · have h1 := he.out
              rw [E2.out] at h1
              exact (List.append_assoc _ _ _).trans h1
            · rw [List.length_append]; simp only [List.length_singleton]; omega
            · simp only [intOf]; omega
      · have hq : (x == 13) = false := by simpa using h13
        have e2 := Hd0.out h13
        have E2 := Lib.hid e2
        clear e2
        go_wp2_with (at_builtin; refine wpList_append_row rfl _ _ 29 rfl elR _ _ _ rfl (hrow.keeps ((Keeps.refl [] _).alloc _) (fun _ _ => by simp)) _ 1 1 [.int .i32 x] rfl rfl (Src.new _ _ _) (by intro u hu; simp at hu; subst hu; rfl) (by unfold maxLen; omega) (by omega) ?_; intro A3 c3 w3 hrow3 hk3 hf3)
        obtain ⟨hn2, hfin⟩ := Hkeep.out x A3 c3 w3 hk3 hf3
        refine ⟨⟨k + 1, acc ++ [x], by go_num, by omega, hn2, ?_, hfin, ?_, ?_⟩, ?_⟩
        · rw [ns_append, List.length_append]; exact hrow3
        · have h1 := he.out
          rw [E2.out] at h1
          exact (List.append_assoc _ _ _).trans h1
        · rw [List.length_append]; simp only [List.length_singleton]; omega
        · simp only [intOf]; omega
    · obtain rfl : k = xs.length := by omega
      obtain ⟨A2, c2, rfl, h1, h2⟩ := hrow.slice
      go_wp2_with fail
      go_ret
      have e1 : acc = crR xs := by have := he.out; rw [List.drop_length, show crR [] = [] by simp [crR], List.append_nil] at this; exact this
      subst e1
      exact ⟨_, _, rfl, hrow, hk0.trans hkr, fun k hk => by have := hfp k hk; have := hk0.size; omega⟩
end Go.Proofs.YtomdhiphiediaaaDoor.Dec
