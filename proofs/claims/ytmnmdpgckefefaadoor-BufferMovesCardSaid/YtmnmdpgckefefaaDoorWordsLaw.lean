/- lanyardlaw07.BufferWords: what it comes to. -/
import Derived.Test.YtmnmdpgckefefaaDoorWords3
import Derived.Test.YtmnmdpgckefefaaDoorOwn
namespace Go.Proofs.YtmnmdpgckefefaaDoor.Buf
open Go Go.RowKit Go.Proofs.YtmnmdpgckefefaaDoor.Rw Go.Proofs.YtmnmdpgckefefaaDoor.SlR Go.Proofs.YtmnmdpgckefefaaDoor.Words Go.Proofs.YtmnmdpgckefefaaDoor.OpArg Go.Proofs.YtmnmdpgckefefaaDoor.Kinds

theorem r32_of {r : Int} (h : (Lit.int .i32 r).wf = true) : R32 r := by
  have h2 : (decide (-2147483648 ≤ r) && decide (r ≤ 2147483647)) = true := h
  simp at h2
  exact h2
set_option maxRecDepth 100000 in
theorem words_out (w : World) (A : Option Addr) (n c : Nat) (a : Int) (h : a < 0 ∨ (n : Int) < a) (hn : n ≤ maxLen) :
    Calls Tryd.prog 6 #[.slice A n c, .int .i64 a] w (Yea w) := by
  unfold maxLen at hn
  rcases h with h | h
  · go_enter Tryd.func6, Tryd.ntmps6
    go_wp2_with fail
    refine (live07_calls w).mono ?_
    rintro e w1 ⟨rfl, hk1⟩
    go_wp2
    go_ret
    exact ⟨rfl, hk1⟩
  · have h0 : 0 ≤ a := by omega
    go_enter Tryd.func6, Tryd.ntmps6
    go_wp2_with fail
    refine (live07_calls w).mono ?_
    rintro e w1 ⟨rfl, hk1⟩
    go_wp2
    go_ret
    exact ⟨rfl, hk1⟩

set_option maxRecDepth 100000 in
set_option maxHeartbeats 1000000 in
theorem words_in (w : World) (hT : Tabs w) (A : Option Addr) (n c a : Nat) (l : List Int) (hl : Src w A (ns .i32 l)) (hln : l.length = n) (hn : n ≤ maxLen) (hD : ∀ r ∈ l, R32 r) (ha : a ≤ n) :
    Calls Tryd.prog 6 #[.slice A n c, .int .i64 a] w (Yea w) := by
  have cl : ∀ k : Nat, k ≤ n → clampN (k : Int) n = k := fun k hk => by unfold clampN; omega
  have hE := fun (w1 : World) (hk : Keeps [] w w1) (k : Nat) (hkn : k ≤ n) => WordEnd_any w1 A n c k l (hT.keeps hk) (hl.keeps hk (by simp)) hln hn hD
  have hS := fun (w1 : World) (hk : Keeps [] w w1) (k : Nat) (hkn : k ≤ n) => WordStart_any w1 A n c k l (hT.keeps hk) (hl.keeps hk (by simp)) hln hn hD
  have hN := fun (w1 : World) (hk : Keeps [] w w1) => Next_any w1 A n c a l (hT.keeps hk) (hl.keeps hk (by simp)) hln hn hD
  have hP := fun (w1 : World) (hk : Keeps [] w w1) => Previous_any w1 A n c a l (hT.keeps hk) (hl.keeps hk (by simp)) hln hn hD
  rw [cl a ha] at hN hP
  have e1 : ∀ k, k ≤ n → k ≤ overN letter l (overN (fun r => !letter r) l k) ∧ overN letter l (overN (fun r => !letter r) l k) ≤ n := fun k hk => by
    have h1 := overN_ge (fun r => !letter r) l k
    have h2 := overN_le (fun r => !letter r) l k (by omega)
    have h3 := overN_ge letter l (overN (fun r => !letter r) l k)
    have h4 := overN_le letter l (overN (fun r => !letter r) l k) h2
    omega
  have s1 : ∀ k, backN letter l (backN (fun r => !letter r) l k) ≤ k := fun k => Nat.le_trans (backN_le _ _ _) (backN_le _ _ _)
  have hF := hS w (Keeps.refl _ _) a ha
  have hTo := fun w1 hk => hE w1 hk a ha
  rw [cl a ha] at hF
  simp only [cl a ha] at hTo
  have f1 := s1 a
  have t1 := e1 a ha
  have x1 : a ≤ nextN l a ∧ nextN l a ≤ n ∧ (nextN l a = a ↔ a = n) := by
    unfold nextN
    by_cases h : a < l.length
    · rw [if_pos h]
      have h1 := overN_ge (fun r => !beginsR r) l (a + 1)
      have h2 := overN_le (fun r => !beginsR r) l (a + 1) (by omega)
      omega
    · rw [if_neg h]; omega
  have p1 : prevN l a ≤ a ∧ (prevN l a = a ↔ a = 0) := by
    refine ⟨prevN_le l a, fun h => ?_, fun h => by subst h; rfl⟩
    by_cases h0 : 0 < a
    · have := prevN_lt l a h0; omega
    · omega
  generalize hfr : backN letter l (backN (fun r => !letter r) l a) = fr at *
  generalize hto : overN letter l (overN (fun r => !letter r) l a) = tt at *
  generalize nextN l a = nx at *
  generalize prevN l a = pv at *
  clear hfr hto
  have hF2 := fun w1 hk => hS w1 hk fr (by omega)
  have hT2 := fun w1 hk => hE w1 hk tt t1.2
  simp only [cl fr (by omega)] at hF2
  simp only [cl tt t1.2] at hT2
  have f2 := s1 fr
  have t2 := e1 tt t1.2
  generalize backN letter l (backN (fun r => !letter r) l fr) = fr2 at *
  generalize overN letter l (overN (fun r => !letter r) l tt) = tt2 at *
  unfold maxLen at hn
  have HTo := Lib.hid hTo
  have HF2 := Lib.hid hF2
  have HT2 := Lib.hid hT2
  have HN := Lib.hid hN
  have HP := Lib.hid hP
  obtain ⟨x2, x3, hx0⟩ := x1
  obtain ⟨p2, hp0⟩ := p1
  obtain ⟨t3, t4⟩ := t1
  obtain ⟨t5, t6⟩ := t2
  have D1 : (((a : Int) == (n : Int)) == ((nx : Int) == (a : Int))) = true := by
    rw [beq_iff_eq, Bool.eq_iff_iff]
    simp only [beq_iff_eq]
    omega
  have D2 : (((a : Int) == 0) == ((pv : Int) == (a : Int))) = true := by
    rw [beq_iff_eq, Bool.eq_iff_iff]
    simp only [beq_iff_eq]
    omega
  clear hx0 hp0
  clear hTo hF2 hT2 hN hP hE hS e1 s1 cl hT hl hD hln
  go_enter Tryd.func6, Tryd.ntmps6
  go_wp2_with fail
  refine hF.mono ?_
  rintro e w1 ⟨rfl, k1⟩
  go_wp2_with fail
  refine (HTo.out w1 k1).mono ?_
  rintro e w2 ⟨rfl, k2'⟩
  have k2 := k1.trans k2'
  go_wp2_with fail
  refine (HF2.out w2 k2).mono ?_
  rintro e w3 ⟨rfl, k3'⟩
  have k3 := k2.trans k3'
  go_wp2_with fail
  refine (HT2.out w3 k3).mono ?_
  rintro e w4 ⟨rfl, k4'⟩
  have k4 := k3.trans k4'
  go_wp2_with fail
  refine (HN.out w4 k4).mono ?_
  rintro e w5 ⟨rfl, k5'⟩
  have k5 := k4.trans k5'
  go_wp2_with fail
  refine (HP.out w5 k5).mono ?_
  rintro e w6 ⟨rfl, k6'⟩
  have k6 := k5.trans k6'
  go_wp2_with fail
  refine (live07_calls w6).mono ?_
  rintro e w7 ⟨rfl, k7'⟩
  have k7 := k6.trans k7'
  go_wp2
  go_ret
  exact ⟨by first | rfl | (simp [D2]) , k7⟩
theorem words_all (w : World) (hT : Tabs w) (A : Option Addr) (n c : Nat) (a : Int) (l : List Int) (hl : Runes w A n c l) :
    Calls Tryd.prog 6 #[.slice A n c, .int .i64 a] w (Yea w) := by
  obtain ⟨rfl, hs, hc, hm, hwf⟩ := hl
  have hn : l.length ≤ maxLen := by omega
  by_cases h : a < 0 ∨ (l.length : Int) < a
  · exact words_out w A l.length c a h hn
  · obtain ⟨k, rfl⟩ : ∃ k : Nat, a = k := ⟨a.toNat, by omega⟩
    exact words_in w hT A l.length c k l hs rfl hn (fun r hr => r32_of (hwf r hr)) (by omega)
end Go.Proofs.YtmnmdpgckefefaaDoor.Buf
