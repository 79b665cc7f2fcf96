/- lanyardlaw01.UcellSpans: what it comes to. -/
import Derived.Test.YtobogbjpdagklaaDoorCellsX
import Derived.Test.YtobogbjpdagklaaDoorLive
import Derived.Test.YtobogbjpdagklaaDoorRefKinds
import Derived.Deep.DeepCutAuto
namespace Go.Proofs.YtobogbjpdagklaaDoor.Uc
open Go Go.RowKit Go.Proofs.YtobogbjpdagklaaDoor.Rw Go.Proofs.YtobogbjpdagklaaDoor.Dec Go.Proofs.YtobogbjpdagklaaDoor.Kinds

def cnt (c8 n : Nat) (r : Int) : Nat :=
  if r = 9 then n + (8 - (c8 + n) % 8)
  else if (0 ≤ r ∧ r < 32) ∨ r = 127 then n + 2
  else if valid r = false ∨ ctl r = true then n + 1
  else if width r = 0 then (if n = 0 then 1 else n)
  else if width r = 2 then n + 2 else n + 1
def cnts (c8 n : Nat) (l : List Int) : Nat := l.foldl (cnt c8) n
theorem joinAt_len (cs : List CellV) (t : ByteArray) (h : ∀ c, cs[0]? = some c → c.text.size ≠ 0) : ∀ k, 0 < k → (joinAt cs t k).length = cs.length
  | 0, h0 => by omega
  | k + 1, _ => by
    unfold joinAt
    split
    · rfl
    · rename_i c hc
      split
      · rename_i he
        refine joinAt_len cs t h k ?_
        cases k with
        | zero => exact absurd ((empty_iff _).1 he) (h c hc)
        | succ k => omega
      · split <;> simp
theorem wideHead {cs : List CellV} (h : WideOk false cs) : ∀ c, cs[0]? = some c → c.text.size ≠ 0 := fun c hc e => by
  have := (h.at 0 c hc).1.2 e
  cases this
theorem cstepC_cnt (c8 : Nat) (cs : List CellV) (r : Int) (h : WideOk false cs) : (cstepC c8 cs r).length = cnt c8 cs.length r := by
  unfold cstepC cnt
  split
  · simp
  split
  · simp
  split
  · simp
  split
  · unfold joinC
    split
    · rename_i h0
      obtain rfl : cs = [] := List.eq_nil_of_length_eq_zero h0
      rfl
    · exact joinAt_len cs _ (wideHead h) _ (by omega)
  split <;> simp
theorem cellsC_cnts (c8 : Nat) (l : List Int) : (cellsC c8 l).length = cnts c8 0 l := by
  have : ∀ (l : List Int) (cs : List CellV), WideOk false cs → (l.foldl (cstepC c8) cs).length = cnts c8 cs.length l := by
    intro l
    induction l with
    | nil => intro cs _; rfl
    | cons r l ih =>
      intro cs h
      show (l.foldl (cstepC c8) (cstepC c8 cs r)).length = cnts c8 (cnt c8 cs.length r) l
      rw [ih _ (h.step c8 r), cstepC_cnt c8 cs r h]
  exact this l [] rfl
theorem cnt_shift (c8 c9 n m : Nat) (h9 : c9 = (c8 + n) % 8) (r : Int) (h : 0 < m ∨ ¬ (valid r = true ∧ ctl r = false ∧ width r = 0)) : cnt c8 (n + m) r = n + cnt c9 m r := by
  have ht : (c8 + (n + m)) % 8 = (c9 + m) % 8 := by omega
  unfold cnt
  by_cases h9 : r = 9
  · rw [if_pos h9, if_pos h9, ht]; omega
  rw [if_neg h9, if_neg h9]
  by_cases hlo : (0 ≤ r ∧ r < 32) ∨ r = 127
  · rw [if_pos hlo, if_pos hlo]; omega
  rw [if_neg hlo, if_neg hlo]
  by_cases hb : valid r = false ∨ ctl r = true
  · rw [if_pos hb, if_pos hb]; omega
  rw [if_neg hb, if_neg hb]
  have hv : valid r = true := Bool.of_not_eq_false (fun h => hb (.inl h))
  have hct : ctl r = false := Bool.of_not_eq_true (fun h => hb (.inr h))
  by_cases hw : width r = 0
  · have hm : 0 < m := by
      rcases h with h | h
      · exact h
      · exact absurd ⟨hv, hct, hw⟩ h
    rw [if_pos hw, if_pos hw, if_neg (by omega), if_neg (by omega)]
  rw [if_neg hw, if_neg hw]
  split <;> omega
theorem cnt_pos (c8 n : Nat) (r : Int) : 0 < cnt c8 n r := by
  unfold cnt
  repeat' split
  all_goals omega
theorem cnts_shift (c8 c9 n : Nat) (h9 : c9 = (c8 + n) % 8) (l : List Int) : ∀ m : Nat, 0 < m → cnts c8 (n + m) l = n + cnts c9 m l := by
  induction l with
  | nil => intro m _; rfl
  | cons r l ih =>
    intro m hm
    show cnts c8 (cnt c8 (n + m) r) l = n + cnts c9 (cnt c9 m r) l
    rw [cnt_shift c8 c9 n m h9 r (.inl hm), ih _ (cnt_pos _ _ _)]
theorem spans_law (col : Int) (hc : 0 ≤ col) (a b : List Int) (hb : ∀ r, b[0]? = some r → ¬ (valid r = true ∧ ctl r = false ∧ width r = 0)) (n : Nat) (hn : (cellsC (max col 0 % 8).toNat a).length = n) :
    (cellsC (max col 0 % 8).toNat (a ++ b)).length = n + (cellsC (max (col + n) 0 % 8).toNat b).length := by
  rw [cellsC_cnts] at hn ⊢
  rw [cellsC_cnts]
  rw [show max col 0 = col by omega] at hn ⊢
  rw [show max (col + (n : Int)) 0 = col + n by omega]
  generalize h8 : (col % 8).toNat = c8 at *
  have h9 : ((col + (n : Int)) % 8).toNat = (c8 + n) % 8 := by omega
  rw [h9]
  have e1 : cnts c8 0 (a ++ b) = cnts c8 n b := by rw [← hn]; unfold cnts; rw [List.foldl_append]
  rw [e1]
  cases b with
  | nil => rfl
  | cons r l =>
    show cnts c8 (cnt c8 n r) l = n + cnts _ (cnt ((c8 + n) % 8) 0 r) l
    have := cnt_shift c8 _ n 0 rfl r (.inr (hb r rfl))
    rw [Nat.add_zero] at this
    rw [this, cnts_shift c8 _ n rfl l _ (cnt_pos _ _ _)]
theorem Span_calls (w : World) (hT : Tabs w) (A : Option Addr) (c : Nat) (l : List Int) (hl : Src w A (ns .i32 l)) (hn : l.length ≤ 2097152) (hr : ∀ r ∈ l, -2147483648 ≤ r ∧ r ≤ 2147483647) (col : Int) (hc1 : col ≤ 9223372036854775807) :
    Calls Tryd.prog 16 #[.slice A l.length c, .int .i64 col] w fun e w' => e = .returned (.int .i64 ((cellsC (max col 0 % 8).toNat l).length : Nat)) ∧ Keeps [] w w' := by
  have hC := Cells_calls w hT A c l hl hn hr col hc1
  generalize cellsC (max col 0 % 8).toNat l = cs at *
  go_enter Tryd.func16, Tryd.ntmps16
  go_wp2_with fail
  refine hC.mono ?_
  rintro e w1 ⟨B, d, rfl, _, hk, _⟩
  go_wp2
  go_ret
  exact ⟨rfl, hk⟩
theorem src_num' {w : World} {A : Option Addr} {l : List Int} (h : Src w A (ns .i32 l)) (hk : 0 < l.length) : ∃ ad, A = some ad ∧ w.cell? ad = some (.int .i32 l[0]) := by
  obtain ⟨ad, ha, hc⟩ := h 0 (.int .i32 l[0]) (by simp [ns, hk])
  refine ⟨ad, ha, ?_⟩
  simpa [Addr.add] using hc
/-- Does the second list begin with a rune that has no place of its own? -/
def skips (b : List Int) : Bool := match b[0]? with
  | none => false
  | some r => valid r && (!ctl r) && decide (width r = 0)
set_option maxRecDepth 100000 in
set_option maxHeartbeats 4000000 in
theorem spans_all (w : World) (hU : UTabs w) (hT : Tabs w) (A : Option Addr) (c : Nat) (a : List Int) (B : Option Addr) (d : Nat) (b : List Int) (col : Int) (ha : Src w A (ns .i32 a)) (hb : Src w B (ns .i32 b)) (hna : a.length ≤ 1048576) (hnb : b.length ≤ 1048576)
    (hra : ∀ r ∈ a, -2147483648 ≤ r ∧ r ≤ 2147483647) (hrb : ∀ r ∈ b, -2147483648 ≤ r ∧ r ≤ 2147483647) :
    Calls Tryd.prog 5 #[.slice A a.length c, .slice B b.length d, .int .i64 col] w fun e w' => e = .returned (.bool true) ∧ Keeps [] w w' := by
  have HL := Lib.hid (fun w' (k : Keeps [] w w') => live01_calls w' (UTabs_keeps hU k) (hT.keeps k))
  have HT := Lib.hid hT
  have Ha := Lib.hid ha
  have Hb := Lib.hid hb
  have Hra := Lib.hid hra
  have Hrb := Lib.hid hrb
  clear hU hT ha hb hra hrb
  by_cases hneg : col < 0
  · go_enter Tryd.func5, Tryd.ntmps5
    go_wp2_with fail
    refine (HL.out _ (Keeps.refl _ _)).mono ?_
    rintro e w1 ⟨rfl, hk1⟩
    go_wp2
    go_ret
    exact ⟨rfl, hk1⟩
  by_cases hbig : 1073741824 < col
  · go_enter Tryd.func5, Tryd.ntmps5
    go_wp2_with fail
    refine (HL.out _ (Keeps.refl _ _)).mono ?_
    rintro e w1 ⟨rfl, hk1⟩
    go_wp2
    go_ret
    exact ⟨rfl, hk1⟩
  have hc0 : 0 ≤ col := by omega
  have hc1 : col ≤ 1073741824 := by omega
  have hl1 : ¬ (1048576 : Int) < (a.length : Int) := by omega
  clear hneg hbig
  have hfirst : ∀ w1, Keeps [] w w1 → ∀ (hbl : 0 < b.length), ∃ ad, B = some ad ∧ w1.cell? ad = some (.int .i32 b[0]) := fun w1 k hbl => src_num' (Hb.out.keeps k (by simp)) hbl
  have Hfirst := Lib.hid hfirst; clear hfirst
  go_enter Tryd.func5, Tryd.ntmps5
  go_wp2_with fail
  refine (HL.out _ (Keeps.refl _ _)).mono ?_
  rintro e w1 ⟨rfl, hk1⟩
  go_upto_region 3 with fail
  go_cut [46] (fun s wx => s = .bool (skips b) ∧ Keeps [] w wx)
  case first =>
    by_cases hbl : 0 < b.length
    · have hn : (0 : Int) < (b.length : Int) := by omega
      obtain ⟨ad, rfl, hc⟩ := Hfirst.out w1 hk1 hbl
      obtain ⟨r0, r1⟩ := Hrb.out _ (List.getElem_mem hbl)
      have hsk : skips b = (valid b[0] && (!ctl b[0]) && decide (width b[0] = 0)) := by
        unfold skips; rw [List.getElem?_eq_getElem hbl]
      generalize b[0] = r at *
      generalize skips b = sk at *
      have hC := Control_calls w1 r r0 r1
      have hV := RfRune_calls w1 r r0 r1
      have hW := Width_calls w1 (HT.out.keeps hk1) r r0 r1
      cases hct : ctl r with
      | true =>
        obtain rfl : sk = false := by rw [hsk, hct]; simp
        rw [hct] at hC
        clear hct hsk hV hW
        go_wp2_with (go_at_call 17; refine hC.mono ?_; rintro e w' ⟨rfl, rfl⟩)
        go_meet
        exact ⟨rfl, hk1⟩
      | false =>
        rw [hct] at hC
        cases hv : valid r with
        | false =>
          obtain rfl : sk = false := by rw [hsk, hv]; simp
          rw [hv] at hV
          clear hct hsk hv hW
          go_wp2_with (first | (go_at_call 17; refine hC.mono ?_; rintro e w' ⟨rfl, rfl⟩) | (go_at_call 18; refine hV.mono ?_; rintro e w' ⟨rfl, rfl⟩))
          go_meet
          exact ⟨rfl, hk1⟩
        | true =>
          rw [hv] at hV
          rw [hct, hv] at hsk
          simp only [Bool.true_and, Bool.not_false] at hsk
          have Hsk := Lib.hid hsk
          clear hct hv hsk
          go_wp2_with (first | (go_at_call 17; refine hC.mono ?_; rintro e w' ⟨rfl, rfl⟩) | (go_at_call 18; refine hV.mono ?_; rintro e w' ⟨rfl, rfl⟩))
          refine hW.mono ?_
          rintro e w2 ⟨rfl, hk2⟩
          by_cases hw0 : width r = 0
          · have hs := Hsk.out
            rw [hw0] at hs ⊢
            obtain rfl : sk = true := hs
            clear hw0
            go_wp2
            go_meet
            exact ⟨rfl, hk1.trans hk2⟩
          · have hs := Hsk.out
            obtain rfl : sk = false := by rw [hs]; simpa using hw0
            clear hs Hsk
            have hw1 : ((width r) == 0) = false := by simpa using hw0
            go_wp2
            go_meet
            exact ⟨rfl, hk1.trans hk2⟩
    · have hbl0 : b.length = 0 := by omega
      obtain rfl : b = [] := List.eq_nil_of_length_eq_zero hbl0
      go_wp2_with fail
      go_meet
      exact ⟨rfl, hk1⟩
  case rest =>
    obtain ⟨rfl, hk2⟩ := hcut
    cases hsk : skips b with
    | true =>
      go_wp2
      go_ret
      exact ⟨rfl, hk2⟩
    | false =>
      have hsp := fun n hn => spans_law col hc0 a b (fun r hr h => by
        unfold skips at hsk
        rw [hr] at hsk
        simp only [h.1, h.2.1, h.2.2] at hsk
        cases hsk) n hn
      have Hsp := Lib.hid hsp
      clear hsp hsk
      have hle := cellsC_le (max col 0 % 8).toNat a
      go_wp2_with fail
      refine (Span_calls wc (HT.out.keeps hk2) A c a (Ha.out.keeps hk2 (by simp)) (by omega) Hra.out col (by omega)).mono ?_
      rintro e w3 ⟨rfl, hk3⟩
      have k3 := hk2.trans hk3
      have hlen : (a ++ b).length = a.length + b.length := List.length_append
      have hmem : ∀ r ∈ a ++ b, -2147483648 ≤ r ∧ r ≤ 2147483647 := fun r h => by
        rcases List.mem_append.1 h with h | h
        · exact Hra.out r h
        · exact Hrb.out r h
      have hS1 := fun w1 (h : Tabs w1) (A : Option Addr) (c : Nat) (hl : Src w1 A (ns .i32 (a ++ b))) => Span_calls w1 h A c (a ++ b) hl (by omega) hmem col (by omega)
      obtain ⟨n, hn⟩ : ∃ n, (cellsC (max col 0 % 8).toNat a).length = n := ⟨_, rfl⟩
      have hs2 := Hsp.out n hn
      rw [hn] at hle ⊢
      have hle2 := cellsC_le (max (col + n) 0 % 8).toNat b
      have hS2 := fun w1 (h : Tabs w1) (hl : Src w1 B (ns .i32 b)) => Span_calls w1 h B d b hl (by omega) Hrb.out (col + n) (by omega)
      rw [hs2, hlen] at hS1
      generalize (cellsC (max (col + n) 0 % 8).toNat b).length = m at *
      have HS1 := Lib.hid hS1; clear hS1
      have HS2 := Lib.hid hS2; clear hS2 hn hs2 hmem hlen Hsp
      have hn0 : ¬ (n : Int) < 0 := by omega
      have hn8 : ¬ 8 * (a.length : Int) < (n : Int) := by omega
      have ha3 := Ha.out.keeps k3 (by simp)
      have Ha3 := Lib.hid ha3; clear ha3
      go_wp2_with (first
        | (at_builtin; refine wpList_append_row rfl _ _ 22 rfl elR _ _ _ rfl (Row.nil _ _ _ _) _ a.length c (ns .i32 a) rfl (by rw [ns_length, Nat.mul_one]) (Ha3.out.keeps ((Keeps.refl [] _).alloc (.cells #[] 21)) (by simp)) (ns_one _ a) (by unfold maxLen; omega) (by omega) ?_; intro A4 c4 w4 hrow4 hk4 hf4; have k4 : Keeps [] w w4 := (k3.alloc (.cells #[] 21)).trans hk4; simp only [Nat.zero_add, List.nil_append] at hrow4 hf4)
        | (at_builtin; refine wpList_append_row rfl _ _ 22 rfl elR _ _ _ rfl hrow4 _ b.length d (ns .i32 b) rfl (by rw [ns_length, Nat.mul_one]) (Hb.out.keeps k4 (by simp)) (ns_one _ b) (by unfold maxLen; omega) (by omega) ?_; intro A5 c5 w5 hrow5 hk5 hf5))
      have hz3 := k3.size
      have k5 : Keeps [] w w5 := k4.then hk5 (fun i hi => .inr (by
        rcases hf4 i hi with h | h
        · exact absurd h (by show i ∉ fp (.slice (some ⟨_, 0, none⟩) 0 0); rw [fp_zero]; simp)
        · simp at h; omega))
      obtain ⟨A6, c6, he6, _, _, hs6, _⟩ := hrow5.src
      cases he6
      rw [← ns_append] at hs6
      refine (HS1.out w5 (HT.out.keeps k5) _ _ hs6).mono ?_
      rintro e w7 ⟨rfl, hk7⟩
      have k7 := k5.trans hk7
      clear hrow4 hrow5 hf4 hf5 hs6
      go_wp2_with fail
      refine (HS2.out w7 (HT.out.keeps k7) (Hb.out.keeps k7 (by simp))).mono ?_
      rintro e w8 ⟨rfl, hk8⟩
      go_wp2
      go_ret
      exact ⟨rfl, k7.trans hk8⟩
end Go.Proofs.YtobogbjpdagklaaDoor.Uc
