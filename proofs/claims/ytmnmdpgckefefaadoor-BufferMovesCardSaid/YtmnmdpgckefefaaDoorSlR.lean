/- slices.Grow (of nil), slices.Concat and slices.Clone at runes, over lists of cells, in whatever memory. -/
import Derived.Test.YtmnmdpgckefefaaDoorRowOps
import Derived.Test.YtmnmdpgckefefaaDoorProg
import Derived.KernelRfl
import Derived.Lib.Hide
import Derived.Lib.AppendZeros
import Derived.Lib.SliceRun
namespace Go.Proofs.YtmnmdpgckefefaaDoor.SlR
open Go Go.RowKit Go.Proofs.YtmnmdpgckefefaaDoor.Rw

theorem el : El Tryd.prog 22 21 (.int .i32 0) 1 4 := ⟨by kernel_rfl, by kernel_rfl, rfl, by decide⟩

/-- What is made: a row of its own in new memory. -/
def Made (w w' : World) (v : Value) (n : Nat) (xs : List Value) : Prop := Row w' 21 1 v n xs ∧ Keeps [] w w' ∧ ∀ k, k ∈ fp v → w.heap.size ≤ k

set_option maxRecDepth 100000 in
theorem Grow_calls (w : World) (n : Nat) (hn : n * 4 ≤ 140737488355328) :
    Calls Tryd.prog 72 #[.slice none 0 0, .int .i64 n] w fun e w' => ∃ A c, e = .returned (.slice A 0 c) ∧ Made w w' (.slice A 0 c) 0 [] := by
  by_cases h0 : n = 0
  · subst h0
    have hfin : Made w w (.slice none 0 0) 0 [] := ⟨Row.nil _ _ _ _, Keeps.refl _ _, fun k hk => by simp [fp] at hk⟩
    go_enter Tryd.func72, Tryd.ntmps72
    go_wp2
    go_ret
    exact ⟨_, _, rfl, hfin⟩
  · obtain ⟨i, hi, hz, hsize, hby⟩ := info_parts el.info
    have hpos : 0 < n := by omega
    have hrun := Lib.run_append_nil_zeros (P := Tryd.prog) w 22 3 22 21 i (.int .i32 0) .i64 .i64 el.under Tryd.underlying3 hi hz n hpos (by omega) (by omega) (by rw [hby]; omega)
    have hge := grownCap_ge w n 0 21
    have hcm := grownCap_le_maxLen w n 0 21 (by unfold maxLen; omega)
    generalize hC : grownCap w n 0 21 = C at hrun hge hcm
    have hmade : ∀ cur : Array Value, cur.size = C → Made w (w.drew.alloc (.cells cur 21)) (.slice (some ⟨w.heap.size, 0, none⟩) 0 C) 0 [] := fun cur hcur =>
      ⟨Row.mk (w := w.drew.alloc _) (blk_new w.drew _) (by simp) (by omega) (by omega) hcm (by omega) (by simp), ((Keeps.refl _ _).drew).alloc _, fun k hk => by
        rw [fp_some (by omega)] at hk; simp at hk; omega⟩
    have hcur : (Builtin.zeroCells (Value.int .i32 0).cells n ++ Builtin.zeroCells (Value.int .i32 0).cells (C - n)).size = C := by
      simp [size_zeroCells, Value.cells]; omega
    have Hfin := Lib.hid (hmade _ hcur)
    generalize hCur : (Builtin.zeroCells (Value.int .i32 0).cells n ++ Builtin.zeroCells (Value.int .i32 0).cells (C - n)) = Cur at *
    unfold maxLen at hcm
    clear hmade hC hCur hcur h0
    go_enter Tryd.func72, Tryd.ntmps72
    go_wp2_with (at_builtin; refine Lib.wpList_append_run _ rfl _ _ _ _ rfl _ _ rfl rfl _ _ hrun ?_)
    go_ret
    exact ⟨_, _, rfl, Hfin.out⟩

/-- Slices that are read, each as a list of cells. -/
def Pieces (w : World) (vs : List Value) (xss : List (List Value)) : Prop :=
  vs.length = xss.length ∧ ∀ (i : Nat) (v : Value) (xs : List Value), vs[i]? = some v → xss[i]? = some xs → ∃ p c, v = .slice p xs.length c ∧ Src w p xs ∧ (∀ u ∈ xs, u.oneCell' = true)
theorem Pieces.keeps {w w' : World} {vs : List Value} {xss : List (List Value)} (h : Pieces w vs xss) (k : Keeps [] w w') : Pieces w' vs xss :=
  ⟨h.1, fun i v xs h1 h2 => by
    obtain ⟨p, c, hv, hs, ho⟩ := h.2 i v xs h1 h2
    exact ⟨p, c, hv, hs.keeps k (fun _ _ _ => by simp), ho⟩⟩
theorem Pieces.two {w : World} {p p' : Option Addr} {c c' n m : Nat} {xs ys : List Value} (h1 : Src w p xs) (h2 : Src w p' ys) (o1 : ∀ u ∈ xs, u.oneCell' = true) (o2 : ∀ u ∈ ys, u.oneCell' = true)
    (n1 : xs.length = n) (n2 : ys.length = m) : Pieces w [.slice p n c, .slice p' m c'] [xs, ys] := by
  subst n1; subst n2
  refine ⟨rfl, fun i v zs h h' => ?_⟩
  match i, h, h' with
  | 0, h, h' => simp at h h'; subst h; subst h'; exact ⟨p, c, rfl, h1, o1⟩
  | 1, h, h' => simp at h h'; subst h; subst h'; exact ⟨p', c', rfl, h2, o2⟩
theorem flat_take (ls : List (List Value)) (k : Nat) (h : k < ls.length) : (ls.take (k + 1)).flatten = (ls.take k).flatten ++ ls[k] := by
  rw [List.take_succ_eq_append_getElem h, List.flatten_append]; simp
theorem flat_take_le (ls : List (List Value)) (k : Nat) : (ls.take k).flatten.length ≤ ls.flatten.length := by
  have : ls.flatten = (ls.take k).flatten ++ (ls.drop k).flatten := by rw [← List.flatten_append, List.take_append_drop]
  rw [this, List.length_append]; omega

theorem Concat_calls (w : World) (A : Option Addr) (n c : Nat) (vs : List Value) (xss : List (List Value)) (hs : Src w A vs) (hp : Pieces w vs xss) (hn : xss.length = n) (hsum : xss.flatten.length * 4 ≤ 140737488355328) (hlen : n ≤ 140737488355328) :
    Calls Tryd.prog 53 #[.slice A n c] w fun e w' => ∃ A' c', e = .returned (.slice A' xss.flatten.length c') ∧ Made w w' (.slice A' xss.flatten.length c') xss.flatten.length xss.flatten := by
  obtain ⟨all, hall⟩ : ∃ all, all = xss.flatten := ⟨_, rfl⟩
  rw [← hall] at hsum ⊢
  have Hall := Lib.hid hall; clear hall
  have part : ∀ k, k < n → ∃ ad p cp, ∃ xs : List Value, A = some ad ∧ w.cell? (ad.add k) = some (.slice p xs.length cp) ∧ Src w p xs ∧ (∀ u ∈ xs, u.oneCell' = true) ∧ (xss.take (k + 1)).flatten = (xss.take k).flatten ++ xs ∧ (xss.take k).flatten.length + xs.length ≤ all.length := by
    intro k hk
    have hvk : k < vs.length := by rw [hp.1]; omega
    have hxk : k < xss.length := by omega
    obtain ⟨ad, hA, hcell⟩ := hs k vs[k] (List.getElem?_eq_getElem hvk)
    obtain ⟨p, cp, hv, hsp, ho⟩ := hp.2 k vs[k] xss[k] (List.getElem?_eq_getElem hvk) (List.getElem?_eq_getElem hxk)
    rw [hv] at hcell
    have hft := flat_take xss k hxk
    have hfl := flat_take_le xss (k + 1)
    rw [hft, List.length_append, ← Hall.out] at hfl
    exact ⟨ad, p, cp, xss[k], hA, hcell, hsp, ho, hft, hfl⟩
  have Part := Lib.hid part; clear part
  go_enter Tryd.func53, Tryd.ntmps53
  go_wp2_with fail
  go_loop [3, 11] (fun s i => ∃ k : Nat, k ≤ n ∧ i = .int .i64 k ∧ s = .int .i64 ((xss.take k).flatten.length : Nat)) (fun _ i => n - (intOf i).toNat)
  case atStart => exact ⟨0, Nat.zero_le _, rfl, by simp⟩
  case round =>
    obtain ⟨k, hk, rfl, rfl⟩ := hrel
    by_cases hlt : k < n
    · obtain ⟨ad, p, cp, xs, rfl, hcell, _, _, hft, hfl⟩ := Part.out k hlt
      obtain ⟨m, hm⟩ : ∃ m, m = (xss.take k).flatten.length := ⟨_, rfl⟩
      obtain ⟨m', hm'⟩ : ∃ m', m' = (xss.take (k + 1)).flatten.length := ⟨_, rfl⟩
      rw [← hm] at hfl ⊢
      have hmm : m' = m + xs.length := by rw [hm', hft, List.length_append, hm]
      have Hm' : Hid (((xss.take (k + 1)).flatten.length : Int) = (m : Int) + (xs.length : Int)) := by show _ = _; rw [← hm', hmm]; omega
      clear hm hm' hft hmm
      go_wp2_with fail
      go_round
      case rel => exact ⟨k + 1, by omega, by go_num, by rw [Hm'.out]⟩
      case measure => simp [intOf]; omega
    · obtain rfl : k = n := by omega
      have htk : (xss.take k).flatten.length = all.length := by rw [List.take_of_length_le (by omega), Hall.out]
      rw [htk]
      clear htk hlt
      go_wp2_with fail
      refine (Grow_calls w all.length hsum).mono ?_
      rintro e w1 ⟨A1, c1, rfl, hrow1, hk1, hf1⟩
      go_wp2_with fail
      go_loopw [6, 27] (fun s i wr => ∃ j : Nat, j ≤ k ∧ i = .int .i64 j ∧ ∃ A2 c2, s = .slice A2 ((xss.take j).flatten.length) c2 ∧ Made w wr (.slice A2 ((xss.take j).flatten.length) c2) ((xss.take j).flatten.length) (xss.take j).flatten) (fun _ i _ => k - (intOf i).toNat)
      case atStart => exact ⟨0, Nat.zero_le _, rfl, A1, c1, by simp, by simpa using ⟨hrow1, hk1, hf1⟩⟩
      case round =>
        obtain ⟨j, hj, rfl, A2, c2, rfl, hrow, hkr, hfr⟩ := hrel
        by_cases hlt2 : j < k
        · obtain ⟨ad, p, cp, xs, rfl, hcell, hsp, ho, hft, hfl⟩ := Part.out j hlt2
          have hcr := hkr.cell hcell (by simp)
          have hspr := hsp.keeps hkr (by simp)
          have Hft := Lib.hid hft
          clear hft hcell hsp
          generalize (xss.take j).flatten = ys at *
          go_wp2_with (at_builtin; refine wpList_append_row rfl _ _ 22 rfl el (.slice A2 ys.length c2) _ _ rfl hrow p xs.length cp xs rfl (by rw [Nat.mul_one]) hspr ho (by unfold maxLen; omega) (by omega) ?_; intro A3 c3 w3 hrow3 hk3 hf3)
          go_roundw
          case rel =>
            refine ⟨j + 1, by omega, by go_num, A3, c3, ?_, ?_⟩
            · rw [Hft.out, List.length_append]
            · rw [Hft.out, List.length_append]
              refine ⟨hrow3, hkr.then hk3 (fun i hi => .inr (hfr i hi)), fun i hi => ?_⟩
              rcases hf3 i hi with h | h
              · exact hfr i h
              · have := hkr.size; omega
          case measure => simp [intOf]; omega
        · obtain rfl : j = k := by omega
          have htk : (xss.take j).flatten = all := by rw [List.take_of_length_le (by omega), Hall.out]
          rw [htk] at hrow hfr ⊢
          clear htk hlt2
          go_wp2_with fail
          go_ret
          exact ⟨A2, c2, rfl, hrow, hkr, hfr⟩

theorem Clone_calls (w : World) (A : Option Addr) (n c : Nat) (xs : List Value) (hs : Src w A xs) (hl : xs.length = n) (h1 : ∀ u ∈ xs, u.oneCell' = true) (hn : n * 4 ≤ 140737488355328) :
    Calls Tryd.prog 49 #[.slice A n c] w fun e w' => ∃ A' c', e = .returned (.slice A' n c') ∧ Made w w' (.slice A' n c') n xs := by
  have hE := fun wx => Lib.run_eql_slice_nil (P := Tryd.prog) wx 22 21 A n c 0 0 el.under
  cases A with
  | none =>
    have hx : xs = [] := by
      cases xs with
      | nil => rfl
      | cons u r => obtain ⟨ad, h, _⟩ := hs 0 u rfl; cases h
    subst hx
    obtain rfl : n = 0 := by simpa using hl.symm
    have hfin : Made w w (.slice none 0 0) 0 [] := ⟨Row.nil _ _ _ _, Keeps.refl _ _, fun k hk => by simp [fp] at hk⟩
    go_enter Tryd.func49, Tryd.ntmps49
    go_wp2_with fail
    go_ret
    exact ⟨_, _, rfl, hfin⟩
  | some a =>
    have Hl := Lib.hid hl; clear hl
    go_enter Tryd.func49, Tryd.ntmps49
    go_wp2_with (at_builtin; refine wpList_append_row rfl _ _ 22 rfl el (.slice (some ⟨w.heap.size, 0, none⟩) 0 0) 0 [] rfl (Row.nil _ _ _ _) (some a) n c xs rfl (by rw [Nat.mul_one]; exact Hl.out) (hs.keeps ((Keeps.refl [] w).alloc _) (by simp)) h1 (by unfold maxLen; omega) (by omega) ?_; intro A3 c3 w3 hrow3 hk3 hf3; simp only [Nat.zero_add, List.nil_append] at hrow3 hf3)
    go_ret
    refine ⟨A3, c3, by simp, ?_⟩
    refine ⟨hrow3, ((Keeps.refl [] w).alloc _).then hk3 (fun i hi => by simp [fp] at hi), fun i hi => ?_⟩
    rcases hf3 i hi with h | h
    · simp [fp] at h
    · simp at h; omega
end Go.Proofs.YtmnmdpgckefefaaDoor.SlR
