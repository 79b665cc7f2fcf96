/- ucell.Cells at every list and column: the places are those of the plain function. -/
import Derived.Test.YtobogbjpdagklaaDoorJoinX
import Derived.Test.YtobogbjpdagklaaDoorKinds
namespace Go.Proofs.YtobogbjpdagklaaDoor.Dec
open Go Go.RowKit Go.Proofs.YtobogbjpdagklaaDoor.Rw Go.Proofs.YtobogbjpdagklaaDoor.Kinds

def outLen (w : World) (ob : Nat) : Nat := match w.cell? ⟨ob, 0, none⟩ with
  | some v => slen v
  | none => 0
theorem OutAt.len {w : World} {ob : Nat} {cs : List CellV} {F : List Nat} (h : OutAt w ob cs F) : outLen w ob = cs.length := by
  obtain ⟨v, hv, hrow, _⟩ := h
  obtain ⟨A, c, rfl, _, _⟩ := hrow.slice
  have := blk_cell hv 0
  unfold outLen
  rw [this]
  rfl
theorem OutAt.keeps0 {w w' : World} {ob : Nat} {cs : List CellV} {F : List Nat} (h : OutAt w ob cs F) (k : Keeps [] w w') : OutAt w' ob cs F := by
  obtain ⟨v, hv, hrow, rfl⟩ := h
  exact ⟨v, k.blk hv (by simp), hrow.keeps k (by simp), rfl⟩
/-- What stands in the list, at the loop's round. -/
def Told (w : World) (ob : Nat) (cs : List CellV) (wr : World) : Prop := ∃ F, OutAt wr ob cs F ∧ (∀ j, j ∈ F → w.heap.size ≤ j) ∧ Keeps [] w wr
theorem Told.keeps0 {w w1 w2 : World} {ob : Nat} {cs : List CellV} (h : Told w ob cs w1) (k : Keeps [] w1 w2) : Told w ob cs w2 := by
  obtain ⟨F, h1, h2, h3⟩ := h
  exact ⟨F, h1.keeps0 k, h2, h3.trans k⟩
/-- The closure, at a told list: the texts lie in a new block. -/
theorem One_told (w : World) (ob : Nat) (cs : List CellV) (w0 : World) (h : Told w ob cs w0) (ts : List ByteArray) (hb : (cs.length + ts.length) * 32 ≤ 140737488355328) (cur : Array Value) (hcur : cur.toList = ts.map .string) (m c : Nat) (hm : m = ts.length) :
    Calls Tryd.prog 40 #[.slice (some ⟨w0.heap.size, 0, none⟩) m c, .pointer (some ⟨ob, 0, none⟩)] (w0.alloc (.cells cur 9)) fun e w' => e = .returned (.tuple #[]) ∧ Told w ob (cs ++ ts.map fun t => ⟨t, 1⟩) w' := by
  obtain ⟨F, ho, hF, hk⟩ := h
  subst hm
  have hlt : ∀ j, j ∈ F → j < w0.heap.size := by
    obtain ⟨v, hv, hrow, rfl⟩ := ho
    intro j hj
    rcases List.mem_cons.1 hj with rfl | hj
    · exact blk_lt hv
    · exact hrow.fp_lt j hj
  have k1 := (Keeps.refl [] w0).alloc (.cells cur 9)
  refine (One_calls _ ob cs F (ho.keeps0 k1) (some ⟨w0.heap.size, 0, none⟩) c ts (by have := Src.new w0 cur 9; rwa [hcur] at this) (fun a ha _ => by cases ha; intro hm; exact absurd (hlt _ hm) (Nat.lt_irrefl _)) hb).mono ?_
  rintro e w' ⟨rfl, hk2, F', ho2, hF'⟩
  refine ⟨rfl, F', ho2, fun j hj => ?_, (hk.trans k1).then hk2 (fun i hi => .inr (hF i hi))⟩
  rcases hF' j hj with h | h
  · exact hF j h
  · have := hk.size; have := k1.size; omega
set_option maxRecDepth 100000 in
set_option maxHeartbeats 40000000 in
theorem Cells_calls (w : World) (hT : Tabs w) (A : Option Addr) (c : Nat) (l : List Int) (hl : Src w A (ns .i32 l)) (hn : l.length ≤ 2097152) (hr : ∀ r ∈ l, -2147483648 ≤ r ∧ r ≤ 2147483647) (col : Int) (hc1 : col ≤ 9223372036854775807) :
    Calls Tryd.prog 12 #[.slice A l.length c, .int .i64 col] w fun e w' => CellsR w w' [] e (cellsC (max col 0 % 8).toNat l) := by
  have k0 := (Keeps.refl [] w).alloc (.cells #[.slice none 0 0] 23)
  have h0 := blk_new w (.cells #[.slice none 0 0] 23)
  have hent := Go.Proofs.enters_of Tryd.func40 (by kernel_rfl) rfl
  have HT := Lib.hid hT; clear hT
  have Hl := Lib.hid hl; clear hl
  have Hr := Lib.hid hr; clear hr
  obtain ⟨ob, hob⟩ : ∃ ob, ob = w.heap.size := ⟨_, rfl⟩
  have hS : Told w ob [] (w.alloc (.cells #[.slice none 0 0] 23)) := by
    subst hob
    exact ⟨[w.heap.size], ⟨.slice none 0 0, h0, Row.nil _ _ _ _, rfl⟩, fun j hj => by simp at hj; omega, k0⟩
  obtain ⟨c8, hc8⟩ : ∃ c8 : Nat, max col 0 % 8 = c8 := ⟨(max col 0 % 8).toNat, by omega⟩
  rw [show (max col 0 % 8).toNat = c8 by omega]
  have Hc8 := Lib.hid hc8; clear hc8
  go_enter Tryd.func12, Tryd.ntmps12
  go_wp2_with fail
  rw [← hob]
  have hc0 : 0 ≤ max col 0 := by omega
  have hc1' : max col 0 ≤ 9223372036854775807 := by omega
  clear hc1
  have hc8 := Hc8.out
  clear Hc8
  generalize max col 0 = cc at *
  have hc8l : c8 < 8 := by omega
  have hrem : Int.tmod cc 8 = c8 := by rw [Int.tmod_eq_emod_of_nonneg hc0, hc8]
  clear hc8
  have Hob := Lib.hid hob; clear hob
  generalize w.alloc (.cells #[.slice none 0 0] 23) = w1 at *
  clear k0 h0
  go_loopw [14] (fun i wr => ∃ k : Nat, k ≤ l.length ∧ i = .int .i64 k ∧ Told w ob (cellsC c8 (l.take k)) wr ∧ (cellsC c8 (l.take k)).length ≤ 8 * k) (fun i _ => l.length - (intOf i).toNat)
  case atStart => exact ⟨0, by omega, rfl, hS, by simp [cellsC]⟩
  case round =>
    clear hS
    obtain ⟨k, hk, rfl, hTo, hle⟩ := hrel
    by_cases hlt : k < l.length
    · have hkw : Keeps [] w wr := by obtain ⟨_, _, _, h⟩ := hTo; exact h
      obtain ⟨ad, rfl, hc⟩ := (Hl.out.keeps hkw (by simp)) k (.int .i32 l[k]) (by simp [ns, hlt])
      obtain ⟨r0, r1⟩ := Hr.out _ (List.getElem_mem hlt)
      have hst := cellsC_take c8 l k hlt
      have hsl := cstepC_le c8 (cellsC c8 (l.take k)) l[k]
      generalize l[k] = r at *
      generalize cellsC c8 (l.take k) = cs at *
      have HTo := Lib.hid hTo; clear hTo
      obtain ⟨w0, rfl⟩ : ∃ w0, w0 = wr := ⟨_, rfl⟩
      have Hst := Lib.hid hst; clear hst
      have hend : ∀ wz, Told w ob (cstepC c8 cs r) wz → (∃ k' : Nat, k' ≤ l.length ∧ Value.int .i64 ((k : Int) + 1) = .int .i64 k' ∧ Told w ob (cellsC c8 (l.take k')) wz ∧ (cellsC c8 (l.take k')).length ≤ 8 * k') := fun wz h => ⟨k + 1, by omega, by go_num, by rw [Hst.out]; exact h, by rw [Hst.out]; omega⟩
      have Hend := Lib.hid hend; clear hend
      by_cases h9 : r = 9
      · subst h9
        go_wp2_with fail
        refine (One_told w ob cs w0 HTo.out [⟨#[32]⟩] (by simp; omega) _ rfl 1 1 rfl).mono ?_
        rintro e w2 ⟨rfl, hT2⟩
        have HT2 := Lib.hid hT2; clear hT2
        have hcs : cstepC c8 cs 9 = cs ++ List.replicate (8 - (c8 + cs.length) % 8) ⟨⟨#[32]⟩, 1⟩ := rfl
        have Hcs := Lib.hid hcs; clear hcs
        go_wp2_with fail
        go_loopw [29] (fun _ wz => ∃ j : Nat, Told w ob (cs ++ List.replicate j ⟨⟨#[32]⟩, 1⟩) wz ∧ 1 ≤ j ∧ j ≤ 8 - (c8 + cs.length) % 8) (fun _ wz => cs.length + 9 - outLen wz ob)
        case atStart => exact ⟨1, HT2.out, by omega, by omega⟩
        case round =>
          obtain ⟨j, hTm, hm1, hm2⟩ := hrel
          have HTm := Lib.hid hTm
          obtain ⟨F, hO, hF, hkz⟩ := hTm
          have hol := hO.len
          obtain ⟨v, hv, hrow, _⟩ := hO
          obtain ⟨B, d, rfl, _, _⟩ := hrow.slice
          have o0 := blk_cell hv 0
          have hll : (cs ++ List.replicate j (⟨⟨#[32]⟩, 1⟩ : CellV)).length = cs.length + j := by simp
          rw [hll] at o0 hol
          obtain ⟨m, hm⟩ : ∃ m, m = cs.length + j := ⟨_, rfl⟩
          rw [← hm] at o0 hol
          clear hrow hF hkz hv hll
          have hr1 : IntKind.i64.wrap ((c8 : Int) + m) = ((c8 + m : Nat) : Int) := by rw [IntWalk.i64_in _ (by omega)]; omega
          have hr2 : Int.tmod ((c8 + m : Nat) : Int) 8 = ((c8 + m) % 8 : Nat) := by rw [Int.tmod_eq_emod_of_nonneg (by omega)]; omega
          by_cases hz : (c8 + m) % 8 = 0
          · have hz' : ¬ (((c8 + m) % 8 : Nat) : Int) ≠ 0 := by omega
            have hmm : j = 8 - (c8 + cs.length) % 8 := by omega
            have Hmm := Lib.hid hmm; clear hmm
            have Hm := Lib.hid hm; clear hm
            go_wp2_with fail
            refine ⟨Hend.out _ (by rw [Hcs.out, ← Hmm.out]; exact HTm.out), ?_⟩
            simp [intOf]; omega
          · have hz' : (((c8 + m) % 8 : Nat) : Int) ≠ 0 := by omega
            have hmt : j + 1 ≤ 8 - (c8 + cs.length) % 8 := by omega
            have hb9 : (cs.length + j + 1) * 32 ≤ 140737488355328 := by omega
            have Hm := Lib.hid hm; clear hm
            go_wp2_with fail
            refine (One_told w ob _ wr HTm.out [⟨#[32]⟩] (by simp; omega) _ rfl 1 1 rfl).mono ?_
            rintro e w5 ⟨rfl, hT5⟩
            have e5 : (cs ++ List.replicate j (⟨⟨#[32]⟩, 1⟩ : CellV)) ++ ([⟨#[32]⟩] : List ByteArray).map (fun t => (⟨t, 1⟩ : CellV)) = cs ++ List.replicate (j + 1) ⟨⟨#[32]⟩, 1⟩ := by
              rw [List.append_assoc, List.replicate_succ']; rfl
            rw [e5] at hT5
            have hol5 : outLen w5 ob = m + 1 := by
              obtain ⟨_, hO5, _, _⟩ := hT5
              rw [hO5.len, Hm.out]; simp; omega
            have HT5 := Lib.hid hT5; clear hT5 e5
            go_wp2
            go_roundw
            case rel => exact ⟨j + 1, HT5.out, by omega, hmt⟩
            case measure => have := Hm.out; omega
      by_cases hlo : (0 ≤ r ∧ r < 32) ∨ r = 127
      · have hcs : cstepC c8 cs r = cs ++ [⟨⟨#[94]⟩, 1⟩, ⟨Utf8.encode (bits BinOp.xor IntKind.i32 r 64), 1⟩] := by unfold cstepC; rw [if_neg h9, if_pos hlo]
        have Hcs := Lib.hid hcs; clear hcs
        have hcall : ∀ W, W = w0 → True := fun _ _ => trivial
        rcases hlo with ⟨a1, a2⟩ | a1
        · go_wp2_with fail
          refine (One_told w ob cs w0 HTo.out [⟨#[94]⟩, Utf8.encode (bits BinOp.xor IntKind.i32 r 64)] (by simp; omega) _ rfl 2 2 rfl).mono ?_
          rintro e w2 ⟨rfl, hT2⟩
          go_wp2
          go_roundw
          case rel => exact Hend.out _ (by rw [Hcs.out]; exact hT2)
          case measure => simp [intOf]; omega
        · subst a1
          go_wp2_with fail
          refine (One_told w ob cs w0 HTo.out [⟨#[94]⟩, Utf8.encode (bits BinOp.xor IntKind.i32 127 64)] (by simp; omega) _ rfl 2 2 rfl).mono ?_
          rintro e w2 ⟨rfl, hT2⟩
          go_wp2
          go_roundw
          case rel => exact Hend.out _ (by rw [Hcs.out]; exact hT2)
          case measure => simp [intOf]; omega
      have hV := Is_calls w0 r r0 r1
      have hC := Control_calls w0 r r0 r1
      by_cases hbad : valid r = false ∨ ctl r = true
      · have hcs : cstepC c8 cs r = cs ++ [⟨⟨#[239, 191, 189]⟩, 1⟩] := by unfold cstepC; rw [if_neg h9, if_neg hlo, if_pos hbad]
        have Hcs := Lib.hid hcs; clear hcs
        have b2 : ¬ r = 127 := fun h => hlo (.inr h)
        cases hv : valid r with
        | false =>
          rw [hv] at hV
          by_cases b0 : 0 ≤ r
          · have b1 : ¬ r < 32 := fun h => hlo (.inl ⟨b0, h⟩)
            clear hbad hlo hv
            go_wp2_with (go_at_call 41; refine hV.mono ?_; rintro e w' ⟨rfl, rfl⟩)
            refine (One_told w ob cs w0 HTo.out [⟨#[239, 191, 189]⟩] (by simp; omega) _ rfl 1 1 rfl).mono ?_
            rintro e w2 ⟨rfl, hT2⟩
            go_wp2
            go_roundw
            case rel => exact Hend.out _ (by rw [Hcs.out]; exact hT2)
            case measure => simp [intOf]; omega
          · clear hbad hlo hv
            go_wp2_with (go_at_call 41; refine hV.mono ?_; rintro e w' ⟨rfl, rfl⟩)
            refine (One_told w ob cs w0 HTo.out [⟨#[239, 191, 189]⟩] (by simp; omega) _ rfl 1 1 rfl).mono ?_
            rintro e w2 ⟨rfl, hT2⟩
            go_wp2
            go_roundw
            case rel => exact Hend.out _ (by rw [Hcs.out]; exact hT2)
            case measure => simp [intOf]; omega
        | true =>
          have hct : ctl r = true := hbad.resolve_left (fun h => by rw [hv] at h; cases h)
          have b0 : 0 ≤ r := by have h2 : (0 ≤ r ∧ r < 55296) ∨ (57343 < r ∧ r ≤ 1114111) := by simpa [valid] using hv
                                omega
          have b1 : ¬ r < 32 := fun h => hlo (.inl ⟨b0, h⟩)
          rw [hv] at hV
          rw [hct] at hC
          clear hbad hlo hv hct
          go_wp2_with (first | (go_at_call 41; refine hV.mono ?_; rintro e w' ⟨rfl, rfl⟩) | (go_at_call 17; refine hC.mono ?_; rintro e w' ⟨rfl, rfl⟩))
          refine (One_told w ob cs w0 HTo.out [⟨#[239, 191, 189]⟩] (by simp; omega) _ rfl 1 1 rfl).mono ?_
          rintro e w2 ⟨rfl, hT2⟩
          go_wp2
          go_roundw
          case rel => exact Hend.out _ (by rw [Hcs.out]; exact hT2)
          case measure => simp [intOf]; omega
      · have hv : valid r = true := Bool.of_not_eq_false (fun h => hbad (.inl h))
        have hct : ctl r = false := Bool.of_not_eq_true (fun h => hbad (.inr h))
        have b0 : 0 ≤ r := by have h2 : (0 ≤ r ∧ r < 55296) ∨ (57343 < r ∧ r ≤ 1114111) := by simpa [valid] using hv
                              omega
        have b1 : ¬ r < 32 := fun h => hlo (.inl ⟨b0, h⟩)
        have b2 : ¬ r = 127 := fun h => hlo (.inr h)
        rw [hv] at hV
        rw [hct] at hC
        have hwr : width r = 0 ∨ width r = 1 ∨ width r = 2 := by unfold width; repeat' (first | split | simp)
        have hW := fun wz (hz : Keeps [] w wz) => Width_calls wz (HT.out.keeps hz) r r0 r1
        by_cases w9 : width r = 0
        · have hcs : cstepC c8 cs r = joinC cs (Utf8.encode r) := by unfold cstepC; rw [if_neg h9, if_neg hlo, if_neg hbad, if_pos w9]
          have Hcs := Lib.hid hcs; clear hcs
          rw [w9] at hW
          have HW := Lib.hid hW; clear hW hbad hlo hv hct w9 hwr
          go_wp2_with (first | (go_at_call 41; refine hV.mono ?_; rintro e w' ⟨rfl, rfl⟩) | (go_at_call 17; refine hC.mono ?_; rintro e w' ⟨rfl, rfl⟩))
          refine (HW.out _ hkw).mono ?_
          rintro e w2 ⟨rfl, hk2⟩
          obtain ⟨F, hO, hF, hk0⟩ := HTo.out
          have hO2 := hO.keeps0 hk2
          obtain ⟨v, hv, hrow, hFe⟩ := hO2
          obtain ⟨B, d, rfl, _, _⟩ := hrow.slice
          have o0 := blk_cell hv 0
          have hobv : ob ∉ fp (.slice B cs.length d) := fun hm => by
            obtain ⟨cur, hc⟩ := hrow.fp_type ob hm
            exact blk_ne hv hc (by decide) rfl
          clear hO
          go_wp2_with fail
          refine (Join_calls w2 _ cs hrow r (by omega)).mono ?_
          rintro e w3 ⟨A3, c3, rfl, hrow3, hk3, hf3⟩
          rw [← Hcs.out] at hrow3 hf3 ⊢
          generalize cstepC c8 cs r = cs3 at *
          have hv3 := hk3.blk hv hobv
          have f3 := blk_frozen hv3 0
          have e3 := blk_cell hv3 0
          have hz0 := hk0.size
          have hz2 := hk2.size
          have hls : ob < w2.heap.size := blk_lt hv
          have hob3 : ob ∉ fp (.slice A3 cs3.length c3) := fun hm => by
            rcases hf3 ob hm with h | h
            · exact hobv h
            · omega
          have hT3 : Told w ob cs3 (w3.setCell ⟨ob, 0, none⟩ (.slice A3 cs3.length c3)) := by
            refine ⟨_, ⟨_, blk_set hv3 0 _, hrow3.far _ _ hob3, rfl⟩, fun j hj => ?_, (((hk0.trans hk2).then hk3 (fun i hi => .inr (hF i (by rw [hFe]; exact List.mem_cons_of_mem _ hi))))).setCell _ _ (.inr (hF ob (by rw [hFe]; exact List.mem_cons_self)))⟩
            rcases List.mem_cons.1 hj with rfl | hj
            · exact hF j (by rw [hFe]; exact List.mem_cons_self)
            · rcases hf3 j hj with h | h
              · exact hF j (by rw [hFe]; exact List.mem_cons_of_mem _ h)
              · omega
          have HT3 := Lib.hid hT3
          clear hT3 hrow3 hf3 hk3 hv3 hv hrow hobv hob3 hF hFe hk2 hk0 o0
          go_wp2
          go_roundw
          case rel => exact Hend.out _ HT3.out
          case measure => simp [intOf]; omega
        by_cases w8 : width r = 2
        · have hcs : cstepC c8 cs r = cs ++ [⟨Utf8.encode r, 2⟩, ⟨⟨#[]⟩, 0⟩] := by unfold cstepC; rw [if_neg h9, if_neg hlo, if_neg hbad, if_neg w9, if_pos w8]
          have Hcs := Lib.hid hcs; clear hcs
          rw [w8] at hW
          have HW := Lib.hid hW; clear hW hbad hlo hv hct w9 w8 hwr
          go_wp2_with (first | (go_at_call 41; refine hV.mono ?_; rintro e w' ⟨rfl, rfl⟩) | (go_at_call 17; refine hC.mono ?_; rintro e w' ⟨rfl, rfl⟩))
          refine (HW.out _ hkw).mono ?_
          rintro e w2 ⟨rfl, hk2⟩
          go_wp2_with fail
          refine (HW.out _ (hkw.trans hk2)).mono ?_
          rintro e w4 ⟨rfl, hk4⟩
          obtain ⟨F, hO, hF, hk0⟩ := HTo.out
          have hO2 := hO.keeps0 (hk2.trans hk4)
          obtain ⟨v, hv, hrow, hFe⟩ := hO2
          obtain ⟨B, d, rfl, _, _⟩ := hrow.slice
          have o0 := blk_cell hv 0
          have hobv : ob ∉ fp (.slice B cs.length d) := fun hm => by
            obtain ⟨cur, hc⟩ := hrow.fp_type ob hm
            exact blk_ne hv hc (by decide) rfl
          clear hO
          go_wp2_with (at_builtin; refine wpList_append_row rfl _ _ 23 rfl elC _ _ _ rfl (hrow.keeps ((Keeps.refl [] _).alloc _) (fun _ _ => by simp)) _ 2 2 [.string (Utf8.encode r), .int .i64 2, .int .i64 0, .string ⟨#[]⟩, .int .i64 0, .int .i64 0] rfl rfl (Src.new _ _ _) (by intro u hu; simp at hu; rcases hu with rfl | rfl | rfl | rfl | rfl | rfl <;> rfl) (by unfold maxLen; omega) (by omega) ?_; intro A3 c3 w3 hrow3 hk3 hf3; have hv3 := hk3.blk (blk_alloc hv _) hobv; have f3 := blk_frozen hv3 0; have e3 := blk_cell hv3 0)
          have hz0 := hk0.size
          have hz2 := (hk2.trans hk4).size
          have hls : ob < w4.heap.size := blk_lt hv
          have hob3 : ob ∉ fp (.slice A3 (cs.length + 2) c3) := fun hm => by
            rcases hf3 ob hm with h | h
            · exact hobv h
            · simp at h; omega
          have hT3 : Told w ob (cs ++ [⟨Utf8.encode r, 2⟩, ⟨⟨#[]⟩, 0⟩]) (w3.setCell ⟨ob, 0, none⟩ (.slice A3 (cs.length + 2) c3)) := by
            refine ⟨_, ⟨_, blk_set hv3 0 _, ?_, rfl⟩, fun j hj => ?_, ((((hk0.trans (hk2.trans hk4)).alloc (.cells #[.string (Utf8.encode r), .int .i64 2, .int .i64 0, .string ⟨#[]⟩, .int .i64 0, .int .i64 0] 26)).then hk3 (fun i hi => .inr (hF i (by rw [hFe]; exact List.mem_cons_of_mem _ hi))))).setCell _ _ (.inr (hF ob (by rw [hFe]; exact List.mem_cons_self)))⟩
            · rw [cvs_append, List.length_append]; exact hrow3.far _ _ hob3
            rcases List.mem_cons.1 hj with rfl | hj
            · exact hF j (by rw [hFe]; exact List.mem_cons_self)
            · rcases hf3 j hj with h | h
              · exact hF j (by rw [hFe]; exact List.mem_cons_of_mem _ h)
              · simp at h; omega
          go_roundw
          case rel => exact Hend.out _ (by rw [Hcs.out]; exact hT3)
          case measure => simp [intOf]; omega
        · have hcs : cstepC c8 cs r = cs ++ [⟨Utf8.encode r, 1⟩] := by unfold cstepC; rw [if_neg h9, if_neg hlo, if_neg hbad, if_neg w9, if_neg w8]
          have Hcs := Lib.hid hcs; clear hcs
          have w7 : width r = 1 := by rcases hwr with h | h | h <;> first | exact absurd h w9 | exact absurd h w8 | exact h
          rw [w7] at hW
          have HW := Lib.hid hW; clear hW hbad hlo hv hct w9 w8 w7 hwr
          go_wp2_with (first | (go_at_call 41; refine hV.mono ?_; rintro e w' ⟨rfl, rfl⟩) | (go_at_call 17; refine hC.mono ?_; rintro e w' ⟨rfl, rfl⟩))
          refine (HW.out _ hkw).mono ?_
          rintro e w2 ⟨rfl, hk2⟩
          go_wp2_with fail
          refine (HW.out _ (hkw.trans hk2)).mono ?_
          rintro e w4 ⟨rfl, hk4⟩
          go_wp2_with fail
          refine (One_told w ob cs w4 (HTo.out.keeps0 (hk2.trans hk4)) [Utf8.encode r] (by simp; omega) _ rfl 1 1 rfl).mono ?_
          rintro e w5 ⟨rfl, hT2⟩
          go_wp2
          go_roundw
          case rel => exact Hend.out _ (by rw [Hcs.out]; exact hT2)
          case measure => simp [intOf]; omega
    · obtain rfl : k = l.length := by omega
      rw [List.take_of_length_le (Nat.le_refl _)] at hTo
      obtain ⟨F, ⟨v, hv, hrow, hFe⟩, hF, hkw⟩ := hTo
      obtain ⟨B, d, rfl, _, _⟩ := hrow.slice
      have o0 := blk_cell hv 0
      go_wp2
      go_ret
      exact ⟨B, d, rfl, hrow, hkw, fun i hi => .inr (hF i (by rw [hFe]; exact List.mem_cons_of_mem _ hi))⟩
end Go.Proofs.YtobogbjpdagklaaDoor.Dec
