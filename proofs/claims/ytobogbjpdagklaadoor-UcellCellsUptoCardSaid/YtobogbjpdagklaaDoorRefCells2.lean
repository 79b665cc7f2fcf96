/- lanyardref01.Cells: the places are those of the plain function. -/
import Derived.Test.YtobogbjpdagklaaDoorRefCells
namespace Go.Proofs.YtobogbjpdagklaaDoor.Dec
open Go Go.RowKit Go.Proofs.YtobogbjpdagklaaDoor.Rw Go.Proofs.YtobogbjpdagklaaDoor.Kinds

theorem xor64_low : ∀ n : Fin 32, bits .xor .i32 ((n.val : Nat) : Int) 64 = n.val + 64 := by decide
theorem xor64 (r : Int) (h : (0 ≤ r ∧ r < 32) ∨ r = 127) : -2147483648 ≤ bits .xor .i32 r 64 ∧ bits .xor .i32 r 64 ≤ 2147483647 := by
  rcases h with ⟨h0, h1⟩ | rfl
  · obtain ⟨n, rfl⟩ := Int.eq_ofNat_of_zero_le h0
    have := xor64_low ⟨n, by omega⟩
    simp only at this
    rw [this]; omega
  · decide
/-- What the list holds, at the loop's round. -/
def OutR (w : World) (cs : List CellV) (v : Value) (wr : World) : Prop := Row wr 26 3 v cs.length (cvs cs) ∧ Keeps [] w wr ∧ ∀ j, j ∈ fp v → w.heap.size ≤ j
theorem OutR.app {w w1 w2 : World} {cs new : List CellV} {v : Value} {A : Option Addr} {c m : Nat} (h : OutR w cs v w1) (hm : new.length = m) {wm : World} (k1 : Keeps [] w1 wm) (hrow : Row w2 26 3 (.slice A (cs.length + m) c) (cs.length + m) (cvs cs ++ cvs new)) (hk : Keeps (fp v) wm w2)
    (hf : ∀ k, k ∈ fp (.slice A (cs.length + m) c) → k ∈ fp v ∨ wm.heap.size ≤ k) : OutR w (cs ++ new) (.slice A (cs.length + m) c) w2 := by
  obtain ⟨h1, h2, h3⟩ := h
  have z1 := h2.size
  have z2 := k1.size
  refine ⟨by rw [List.length_append, hm, cvs_append]; exact hrow, (h2.trans k1).then hk (fun i hi => .inr (h3 i hi)), fun j hj => ?_⟩
  rcases hf j hj with h | h
  · exact h3 j h
  · omega
set_option maxRecDepth 100000 in
set_option maxHeartbeats 40000000 in
theorem RfCells_calls (w : World) (A : Option Addr) (c : Nat) (l : List Int) (hl : Src w A (ns .i32 l)) (hn : l.length ≤ 2097152) (hr : ∀ r ∈ l, -2147483648 ≤ r ∧ r ≤ 2147483647) (col : Int) (hc1 : col ≤ 9223372036854775807) :
    Calls Tryd.prog 14 #[.slice A l.length c, .int .i64 col] w fun e w' => CellsR w w' [] e (cellsC (max col 0 % 8).toNat l) := by
  have Hl := Lib.hid hl; clear hl
  have Hr := Lib.hid hr; clear hr
  obtain ⟨c8, hc8⟩ : ∃ c8 : Nat, max col 0 % 8 = c8 := ⟨(max col 0 % 8).toNat, by omega⟩
  rw [show (max col 0 % 8).toNat = c8 by omega]
  have hc0 : 0 ≤ max col 0 := by omega
  have hc1' : max col 0 ≤ 9223372036854775807 := by omega
  have hc8l : c8 < 8 := by omega
  have Hc1 := Lib.hid hc1
  clear hc1
  generalize hcc : max col 0 = cc at *
  have Hcc := Lib.hid hcc
  clear hcc
  have hrem : Int.tmod cc 8 = c8 := by rw [Int.tmod_eq_emod_of_nonneg hc0, hc8]
  have Hrem := Lib.hid hrem
  clear hrem hc8
  go_enter Tryd.func14, Tryd.ntmps14
  have hcc := Hcc.out
  have hrem := Hrem.out
  go_wp2_with fail
  clear hcc hrem
  go_loopw [5, 6] (fun v i wr => ∃ k : Nat, k ≤ l.length ∧ i = .int .i64 k ∧ OutR w (cellsC c8 (l.take k)) v wr ∧ (cellsC c8 (l.take k)).length ≤ 8 * k) (fun _ i _ => l.length - (intOf i).toNat)
  case atStart => exact ⟨0, by omega, rfl, ⟨Row.nil _ _ _ _, Keeps.refl _ _, fun j hj => by simp [fp] at hj⟩, by simp [cellsC]⟩
  case round =>
    obtain ⟨k, hk, rfl, hO, hle⟩ := hrel
    have HO := Lib.hid hO
    obtain ⟨hrow, hkw, hfp⟩ := hO
    obtain ⟨B, d, rfl, hd1, hd2⟩ := hrow.slice
    have Hfp := Lib.hid hfp; clear hfp
    by_cases hlt : k < l.length
    · obtain ⟨ad, rfl, hc⟩ := (Hl.out.keeps hkw (by simp)) k (.int .i32 l[k]) (by simp [ns, hlt])
      obtain ⟨r0, r1⟩ := Hr.out _ (List.getElem_mem hlt)
      have hst := cellsC_take c8 l k hlt
      have hsl := cstepC_le c8 (cellsC c8 (l.take k)) l[k]
      have k0 : (0 : Int) ≤ k := by omega
      generalize l[k] = r at *
      generalize cellsC c8 (l.take k) = cs at *
      obtain ⟨w0, rfl⟩ : ∃ w0, w0 = wr := ⟨_, rfl⟩
      have Hst := Lib.hid hst; clear hst
      have hend : ∀ v wz, OutR w (cstepC c8 cs r) v wz → (∃ k' : Nat, k' ≤ l.length ∧ Value.int .i64 ((k : Int) + 1) = .int .i64 k' ∧ OutR w (cellsC c8 (l.take k')) v wz ∧ (cellsC c8 (l.take k')).length ≤ 8 * k') := fun v wz h => ⟨k + 1, by omega, by go_num, by rw [Hst.out]; exact h, by rw [Hst.out]; omega⟩
      have Hend := Lib.hid hend; clear hend
      have kacc := Keeps.refl [] w0
      by_cases h9 : r = 9
      · subst h9
        have hcs : cstepC c8 cs 9 = cs ++ List.replicate (8 - (c8 + cs.length) % 8) ⟨⟨#[32]⟩, 1⟩ := rfl
        have Hcs := Lib.hid hcs; clear hcs
        have hr1 : IntKind.i64.wrap ((c8 : Int) + cs.length) = ((c8 + cs.length : Nat) : Int) := by rw [IntWalk.i64_in _ (by omega)]; omega
        have hr2 : Int.tmod ((c8 + cs.length : Nat) : Int) 8 = ((c8 + cs.length) % 8 : Nat) := by rw [Int.tmod_eq_emod_of_nonneg (by omega)]; omega
        obtain ⟨m, hm⟩ : ∃ m, m = (c8 + cs.length) % 8 := ⟨_, rfl⟩
        have hm8 : m < 8 := by omega
        rw [← hm] at hr2
        have Hm := Lib.hid hm; clear hm
        have hsp : (8 : Int) - (m : Int) = ((8 - m : Nat) : Int) := by omega
        have Hsp := Lib.hid hsp; clear hsp
        go_wp2_with fail
        go_loopw [5, 8] (fun v i wz => ∃ j n : Nat, n + j = 8 - m ∧ i = .int .i64 n ∧ OutR w (cs ++ List.replicate j ⟨⟨#[32]⟩, 1⟩) v wz) (fun _ i _ => (intOf i).toNat)
        case atStart => exact ⟨0, 8 - m, by omega, by have := Hm.out; congr 1; omega, by rw [List.replicate_zero, List.append_nil]; exact HO.out⟩
        case round =>
          obtain ⟨j, n, hjn, rfl, hOz⟩ := hrel
          have HOz := Lib.hid hOz
          obtain ⟨hrowz, hkz, hfz⟩ := hOz
          have hll : (cs ++ List.replicate j (⟨⟨#[32]⟩, 1⟩ : CellV)).length = cs.length + j := by simp
          have Hll := Lib.hid hll
          rw [hll] at hrowz
          obtain ⟨Bz, dz, rfl, _, _⟩ := hrowz.slice
          have kacc := Keeps.refl [] wr
          clear hll hfz hrow
          by_cases hn0 : n = 0
          · subst hn0
            have hj : 8 - (c8 + cs.length) % 8 = j := by have := Hm.out; omega
            have Hj := Lib.hid hj; clear hj hjn
            rw [show ((0 : Nat) : Int) = 0 from rfl]
            go_wp2_with fail
            refine ⟨Hend.out _ _ (by rw [Hcs.out, Hj.out]; exact HOz.out), ?_⟩
            simp [intOf]; omega
          · have hnp : (0 : Int) < (n : Int) := by omega
            have hn8 : (n : Int) ≤ 8 := by omega
            have Hn := Lib.hid hn0; clear hn0
            have Hjn := Lib.hid hjn; clear hjn
            have hj8 : j ≤ 8 := by have := Hjn.out; omega
            go_wp2_with (first
              | (go_at_call 43; refine (ROne_calls _ _).mono ?_; rintro e w5 ⟨rfl, hk5⟩; have kacc := kacc.trans hk5)
              | (at_builtin; refine wpList_append_row rfl _ _ 23 rfl elC _ _ _ rfl ((hrowz.keeps kacc (by simp)).keeps ((Keeps.refl [] _).alloc _) (fun _ _ => by simp)) _ 1 1 [.string ⟨#[32]⟩, .int .i64 1, .int .i64 0] rfl rfl (Src.new _ _ _) (by intro u hu; simp at hu; rcases hu with rfl | rfl | rfl <;> rfl) (by unfold maxLen; omega) (by omega) ?_; intro A3 c3 w3 hrow3 hk3 hf3; have kacc := kacc.alloc (.cells #[.string ⟨#[32]⟩, .int .i64 1, .int .i64 0] 26)))
            go_roundw
            case rel =>
              refine ⟨j + 1, n - 1, by have := Hjn.out; have := Hn.out; omega, by congr 1; have := Hn.out; omega, ?_⟩
              have := (HOz.out.app (new := [⟨⟨#[32]⟩, 1⟩]) (m := 1) (A := A3) (c := c3) rfl kacc (by rw [Hll.out]; exact hrow3) hk3 (by rw [Hll.out]; exact hf3))
              rw [List.append_assoc, Hll.out] at this
              rw [List.replicate_succ']
              exact this
            case measure => have := Hn.out; simp [intOf]; omega
      by_cases hlo : (0 ≤ r ∧ r < 32) ∨ r = 127
      · have hcs : cstepC c8 cs r = cs ++ [⟨⟨#[94]⟩, 1⟩, ⟨Utf8.encode (bits BinOp.xor IntKind.i32 r 64), 1⟩] := by unfold cstepC; rw [if_neg h9, if_pos hlo]
        have Hcs := Lib.hid hcs; clear hcs
        obtain ⟨x0, x1⟩ := xor64 r hlo
        have X := Lib.hid (And.intro x0 x1); clear x0 x1
        rcases hlo with ⟨a1, a2⟩ | a1
        · go_wp2_with (first
            | (go_at_call 43; refine (ROne_calls _ _).mono ?_; rintro e w5 ⟨rfl, hk5⟩; have kacc := kacc.trans hk5)
            | (go_at_call 44; refine (FormS_calls _ _ X.out.1 X.out.2).mono ?_; rintro e w6 ⟨A6, n6, c6, rfl, hk6, hcv6⟩; have hcv := hcv6 _ (Keeps.refl _ _); have kacc := kacc.trans hk6)
            | (at_builtin; refine wpList_append_row rfl _ _ 23 rfl elC _ _ _ rfl ((hrow.keeps kacc (by simp)).keeps ((Keeps.refl [] _).alloc _) (fun _ _ => by simp)) _ 2 2 [.string ⟨#[94]⟩, .int .i64 1, .int .i64 0, .string (Utf8.encode (bits BinOp.xor IntKind.i32 r 64)), .int .i64 1, .int .i64 0] rfl rfl (Src.new _ _ _) (by intro u hu; simp at hu; rcases hu with rfl | rfl | rfl | rfl | rfl | rfl <;> rfl) (by unfold maxLen; omega) (by omega) ?_; intro A3 c3 w3 hrow3 hk3 hf3; have kacc := kacc.alloc (.cells #[.string ⟨#[94]⟩, .int .i64 1, .int .i64 0, .string (Utf8.encode (bits BinOp.xor IntKind.i32 r 64)), .int .i64 1, .int .i64 0] 26)))
          go_roundw
          case rel => exact Hend.out _ _ (by rw [Hcs.out]; exact HO.out.app rfl kacc hrow3 hk3 hf3)
          case measure => simp [intOf]; omega
        · subst a1
          go_wp2_with (first
            | (go_at_call 43; refine (ROne_calls _ _).mono ?_; rintro e w5 ⟨rfl, hk5⟩; have kacc := kacc.trans hk5)
            | (go_at_call 44; refine (FormS_calls _ _ X.out.1 X.out.2).mono ?_; rintro e w6 ⟨A6, n6, c6, rfl, hk6, hcv6⟩; have hcv := hcv6 _ (Keeps.refl _ _); have kacc := kacc.trans hk6)
            | (at_builtin; refine wpList_append_row rfl _ _ 23 rfl elC _ _ _ rfl ((hrow.keeps kacc (by simp)).keeps ((Keeps.refl [] _).alloc _) (fun _ _ => by simp)) _ 2 2 [.string ⟨#[94]⟩, .int .i64 1, .int .i64 0, .string (Utf8.encode (bits BinOp.xor IntKind.i32 127 64)), .int .i64 1, .int .i64 0] rfl rfl (Src.new _ _ _) (by intro u hu; simp at hu; rcases hu with rfl | rfl | rfl | rfl | rfl | rfl <;> rfl) (by unfold maxLen; omega) (by omega) ?_; intro A3 c3 w3 hrow3 hk3 hf3; have kacc := kacc.alloc (.cells #[.string ⟨#[94]⟩, .int .i64 1, .int .i64 0, .string (Utf8.encode (bits BinOp.xor IntKind.i32 127 64)), .int .i64 1, .int .i64 0] 26)))
          go_roundw
          case rel => exact Hend.out _ _ (by rw [Hcs.out]; exact HO.out.app rfl kacc hrow3 hk3 hf3)
          case measure => simp [intOf]; omega
      have hV := RfRune_calls w0 r r0 r1
      have hC := RfControl_calls w0 r r0 r1
      by_cases hbad : valid r = false ∨ ctl r = true
      · have hcs : cstepC c8 cs r = cs ++ [⟨⟨#[239, 191, 189]⟩, 1⟩] := by unfold cstepC; rw [if_neg h9, if_neg hlo, if_pos hbad]
        have Hcs := Lib.hid hcs; clear hcs
        have b2 : ¬ r = 127 := fun h => hlo (.inr h)
        have henc : Utf8.encode 65533 = ⟨#[239, 191, 189]⟩ := by decide
        have Henc := Lib.hid henc; clear henc
        cases hct : ctl r with
        | true =>
          have b0 : 0 ≤ r := by have h2 : (0 ≤ r ∧ r < 32) ∨ (127 ≤ r ∧ r ≤ 159) := by simpa [ctl] using hct
                                omega
          have b1 : ¬ r < 32 := fun h => hlo (.inl ⟨b0, h⟩)
          rw [hct] at hC
          clear hbad hlo hct
          go_wp2_with (first
            | (go_at_call 29; refine hC.mono ?_; rintro e w' ⟨rfl, rfl⟩)
            | (go_at_call 18; refine hV.mono ?_; rintro e w' ⟨rfl, rfl⟩)
            | (go_at_call 43; refine (ROne_calls _ _).mono ?_; rintro e w5 ⟨rfl, hk5⟩; have kacc := kacc.trans hk5)
            | (go_at_call 44; refine (FormS_calls _ _ (by decide) (by decide)).mono ?_; rintro e w6 ⟨A6, n6, c6, rfl, hk6, hcv6⟩; have hcv := hcv6 _ (Keeps.refl _ _); rw [Henc.out] at hcv; have kacc := kacc.trans hk6)
            | (at_builtin; refine wpList_append_row rfl _ _ 23 rfl elC _ _ _ rfl ((hrow.keeps kacc (by simp)).keeps ((Keeps.refl [] _).alloc _) (fun _ _ => by simp)) _ 1 1 [.string ⟨#[239, 191, 189]⟩, .int .i64 1, .int .i64 0] rfl rfl (Src.new _ _ _) (by intro u hu; simp at hu; rcases hu with rfl | rfl | rfl <;> rfl) (by unfold maxLen; omega) (by omega) ?_; intro A3 c3 w3 hrow3 hk3 hf3; have kacc := kacc.alloc (.cells #[.string ⟨#[239, 191, 189]⟩, .int .i64 1, .int .i64 0] 26)))
          go_roundw
          case rel => exact Hend.out _ _ (by rw [Hcs.out]; exact HO.out.app rfl kacc hrow3 hk3 hf3)
          case measure => simp [intOf]; omega
        | false =>
          have hv : valid r = false := hbad.resolve_right (fun h => by rw [hct] at h; cases h)
          rw [hv] at hV
          rw [hct] at hC
          by_cases b0 : 0 ≤ r
          · have b1 : ¬ r < 32 := fun h => hlo (.inl ⟨b0, h⟩)
            clear hbad hlo hv hct
            go_wp2_with (first
              | (go_at_call 29; refine hC.mono ?_; rintro e w' ⟨rfl, rfl⟩)
              | (go_at_call 18; refine hV.mono ?_; rintro e w' ⟨rfl, rfl⟩)
              | (go_at_call 43; refine (ROne_calls _ _).mono ?_; rintro e w5 ⟨rfl, hk5⟩; have kacc := kacc.trans hk5)
              | (go_at_call 44; refine (FormS_calls _ _ (by decide) (by decide)).mono ?_; rintro e w6 ⟨A6, n6, c6, rfl, hk6, hcv6⟩; have hcv := hcv6 _ (Keeps.refl _ _); rw [Henc.out] at hcv; have kacc := kacc.trans hk6)
              | (at_builtin; refine wpList_append_row rfl _ _ 23 rfl elC _ _ _ rfl ((hrow.keeps kacc (by simp)).keeps ((Keeps.refl [] _).alloc _) (fun _ _ => by simp)) _ 1 1 [.string ⟨#[239, 191, 189]⟩, .int .i64 1, .int .i64 0] rfl rfl (Src.new _ _ _) (by intro u hu; simp at hu; rcases hu with rfl | rfl | rfl <;> rfl) (by unfold maxLen; omega) (by omega) ?_; intro A3 c3 w3 hrow3 hk3 hf3; have kacc := kacc.alloc (.cells #[.string ⟨#[239, 191, 189]⟩, .int .i64 1, .int .i64 0] 26)))
            go_roundw
            case rel => exact Hend.out _ _ (by rw [Hcs.out]; exact HO.out.app rfl kacc hrow3 hk3 hf3)
            case measure => simp [intOf]; omega
          · clear hbad hlo hv hct
            go_wp2_with (first
              | (go_at_call 29; refine hC.mono ?_; rintro e w' ⟨rfl, rfl⟩)
              | (go_at_call 18; refine hV.mono ?_; rintro e w' ⟨rfl, rfl⟩)
              | (go_at_call 43; refine (ROne_calls _ _).mono ?_; rintro e w5 ⟨rfl, hk5⟩; have kacc := kacc.trans hk5)
              | (go_at_call 44; refine (FormS_calls _ _ (by decide) (by decide)).mono ?_; rintro e w6 ⟨A6, n6, c6, rfl, hk6, hcv6⟩; have hcv := hcv6 _ (Keeps.refl _ _); rw [Henc.out] at hcv; have kacc := kacc.trans hk6)
              | (at_builtin; refine wpList_append_row rfl _ _ 23 rfl elC _ _ _ rfl ((hrow.keeps kacc (by simp)).keeps ((Keeps.refl [] _).alloc _) (fun _ _ => by simp)) _ 1 1 [.string ⟨#[239, 191, 189]⟩, .int .i64 1, .int .i64 0] rfl rfl (Src.new _ _ _) (by intro u hu; simp at hu; rcases hu with rfl | rfl | rfl <;> rfl) (by unfold maxLen; omega) (by omega) ?_; intro A3 c3 w3 hrow3 hk3 hf3; have kacc := kacc.alloc (.cells #[.string ⟨#[239, 191, 189]⟩, .int .i64 1, .int .i64 0] 26)))
            go_roundw
            case rel => exact Hend.out _ _ (by rw [Hcs.out]; exact HO.out.app rfl kacc hrow3 hk3 hf3)
            case measure => simp [intOf]; omega
      · have hv : valid r = true := Bool.of_not_eq_false (fun h => hbad (.inl h))
        have hct : ctl r = false := Bool.of_not_eq_true (fun h => hbad (.inr h))
        have b0 : 0 ≤ r := by have h2 : (0 ≤ r ∧ r < 55296) ∨ (57343 < r ∧ r ≤ 1114111) := by simpa [valid] using hv
                              omega
        have b1 : ¬ r < 32 := fun h => hlo (.inl ⟨b0, h⟩)
        have b2 : ¬ r = 127 := fun h => hlo (.inr h)
        rw [hv] at hV
        rw [hct] at hC
        have hwr : width r = 0 ∨ width r = 1 ∨ width r = 2 := by unfold width; repeat' (first | split | simp)
        have hW := fun wz => RfWidth_calls wz r r0 r1
        by_cases w9 : width r = 0
        · have hcs : cstepC c8 cs r = joinC cs (Utf8.encode r) := by unfold cstepC; rw [if_neg h9, if_neg hlo, if_neg hbad, if_pos w9]
          have Hcs := Lib.hid hcs; clear hcs
          rw [w9] at hW
          have HW := Lib.hid hW; clear hW hbad hlo hv hct w9 hwr
          go_wp2_with (first
            | (go_at_call 29; refine hC.mono ?_; rintro e w' ⟨rfl, rfl⟩)
            | (go_at_call 18; refine hV.mono ?_; rintro e w' ⟨rfl, rfl⟩)
            | (go_at_call 28; refine (HW.out _).mono ?_; rintro e w5 ⟨rfl, hk5⟩; have kacc := kacc.trans hk5)
            | (go_at_call 45; refine (RJoin_calls _ _ cs (hrow.keeps kacc (by simp)) r r0 r1 (by omega)).mono ?_; rintro e w3 ⟨A3, c3, rfl, hrow3, hk3, hf3⟩))
          have z1 := hkw.size
          have z2 := kacc.size
          go_roundw
          case rel =>
            refine Hend.out _ _ ?_
            rw [Hcs.out]
            refine ⟨hrow3, (hkw.trans kacc).then hk3 (fun i hi => .inr (Hfp.out i hi)), fun j hj => ?_⟩
            rcases hf3 j hj with h | h
            · exact Hfp.out j h
            · omega
          case measure => simp [intOf]; omega
        by_cases w8 : width r = 2
        · have hcs : cstepC c8 cs r = cs ++ [⟨Utf8.encode r, 2⟩, ⟨⟨#[]⟩, 0⟩] := by unfold cstepC; rw [if_neg h9, if_neg hlo, if_neg hbad, if_neg w9, if_pos w8]
          have Hcs := Lib.hid hcs; clear hcs
          rw [w8] at hW
          have HW := Lib.hid hW; clear hW hbad hlo hv hct w9 w8 hwr
          go_wp2_with (first
            | (go_at_call 29; refine hC.mono ?_; rintro e w' ⟨rfl, rfl⟩)
            | (go_at_call 18; refine hV.mono ?_; rintro e w' ⟨rfl, rfl⟩)
            | (go_at_call 28; refine (HW.out _).mono ?_; rintro e w5 ⟨rfl, hk5⟩; have kacc := kacc.trans hk5)
            | (go_at_call 44; refine (FormS_calls _ _ r0 r1).mono ?_; rintro e w6 ⟨A6, n6, c6, rfl, hk6, hcv6⟩; have hcv := hcv6 _ (Keeps.refl _ _); have kacc := kacc.trans hk6)
            | (at_builtin; refine wpList_append_row rfl _ _ 23 rfl elC _ _ _ rfl ((hrow.keeps kacc (by simp)).keeps ((Keeps.refl [] _).alloc _) (fun _ _ => by simp)) _ 2 2 [.string (Utf8.encode r), .int .i64 2, .int .i64 0, .string ⟨#[]⟩, .int .i64 0, .int .i64 0] rfl rfl (Src.new _ _ _) (by intro u hu; simp at hu; rcases hu with rfl | rfl | rfl | rfl | rfl | rfl <;> rfl) (by unfold maxLen; omega) (by omega) ?_; intro A3 c3 w3 hrow3 hk3 hf3; have kacc := kacc.alloc (.cells #[.string (Utf8.encode r), .int .i64 2, .int .i64 0, .string ⟨#[]⟩, .int .i64 0, .int .i64 0] 26)))
          go_roundw
          case rel => exact Hend.out _ _ (by rw [Hcs.out]; exact HO.out.app rfl kacc hrow3 hk3 hf3)
          case measure => simp [intOf]; omega
        · have hcs : cstepC c8 cs r = cs ++ [⟨Utf8.encode r, 1⟩] := by unfold cstepC; rw [if_neg h9, if_neg hlo, if_neg hbad, if_neg w9, if_neg w8]
          have Hcs := Lib.hid hcs; clear hcs
          have w7 : width r = 1 := by rcases hwr with h | h | h <;> first | exact absurd h w9 | exact absurd h w8 | exact h
          rw [w7] at hW
          have HW := Lib.hid hW; clear hW hbad hlo hv hct w9 w8 w7 hwr
          go_wp2_with (first
            | (go_at_call 29; refine hC.mono ?_; rintro e w' ⟨rfl, rfl⟩)
            | (go_at_call 18; refine hV.mono ?_; rintro e w' ⟨rfl, rfl⟩)
            | (go_at_call 28; refine (HW.out _).mono ?_; rintro e w5 ⟨rfl, hk5⟩; have kacc := kacc.trans hk5)
            | (go_at_call 43; refine (ROne_calls _ _).mono ?_; rintro e w5 ⟨rfl, hk5⟩; have kacc := kacc.trans hk5)
            | (go_at_call 44; refine (FormS_calls _ _ r0 r1).mono ?_; rintro e w6 ⟨A6, n6, c6, rfl, hk6, hcv6⟩; have hcv := hcv6 _ (Keeps.refl _ _); have kacc := kacc.trans hk6)
            | (at_builtin; refine wpList_append_row rfl _ _ 23 rfl elC _ _ _ rfl ((hrow.keeps kacc (by simp)).keeps ((Keeps.refl [] _).alloc _) (fun _ _ => by simp)) _ 1 1 [.string (Utf8.encode r), .int .i64 1, .int .i64 0] rfl rfl (Src.new _ _ _) (by intro u hu; simp at hu; rcases hu with rfl | rfl | rfl <;> rfl) (by unfold maxLen; omega) (by omega) ?_; intro A3 c3 w3 hrow3 hk3 hf3; have kacc := kacc.alloc (.cells #[.string (Utf8.encode r), .int .i64 1, .int .i64 0] 26)))
          go_roundw
          case rel => exact Hend.out _ _ (by rw [Hcs.out]; exact HO.out.app rfl kacc hrow3 hk3 hf3)
          case measure => simp [intOf]; omega
    · obtain rfl : k = l.length := by omega
      rw [List.take_of_length_le (Nat.le_refl _)] at hrow Hfp ⊢
      go_wp2
      go_ret
      exact ⟨B, d, rfl, hrow, hkw, fun i hi => .inr (Hfp.out i hi)⟩
end Go.Proofs.YtobogbjpdagklaaDoor.Dec
