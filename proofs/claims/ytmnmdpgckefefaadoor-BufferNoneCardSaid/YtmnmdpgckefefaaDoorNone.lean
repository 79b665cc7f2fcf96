/- buffer.Buffer: what its methods come to where no call made it; lanyardlaw07.BufferNone. -/
import Derived.Test.YtmnmdpgckefefaaDoorOwn
namespace Go.Proofs.YtmnmdpgckefefaaDoor.Buf
open Go Go.RowKit Go.Proofs.YtmnmdpgckefefaaDoor.Rw Go.Proofs.YtmnmdpgckefefaaDoor.SlR Go.Proofs.YtmnmdpgckefefaaDoor.Words Go.Proofs.YtmnmdpgckefefaaDoor.OpArg

/-- A buffer that no call made: none, or one whose first field says so. -/
def Unmade (w : World) (p : Option Addr) : Prop := ∀ a, p = some a → ∃ b, a = ⟨b, 0, none⟩ ∧ w.cell? ⟨b, 0, none⟩ = some (.bool false)
theorem Unmade.keeps {w w' : World} {p : Option Addr} (h : Unmade w p) (k : Keeps [] w w') : Unmade w' p := fun a ha => by
  obtain ⟨b, h1, h2⟩ := h a ha
  exact ⟨b, h1, k.cell h2 (by simp)⟩
section
variable (w : World) (p : Option Addr)
theorem NNone (h : Unmade w p) : Calls Tryd.prog 51 #[.pointer p] w fun e w' => e = .returned (.bool true) ∧ w = w' := by
  cases p with
  | none =>
    go_enter Tryd.func51, Tryd.ntmps51
    go_wp2
    go_ret
    exact ⟨rfl, rfl⟩
  | some a =>
    obtain ⟨b, rfl, hc⟩ := h a rfl
    exact (BNone_calls w b false hc).mono fun e w' h => ⟨h.1, h.2⟩
theorem NLen (h : Unmade w p) : Calls Tryd.prog 45 #[.pointer p] w fun e w' => e = .returned (.int .i64 0) ∧ w = w' := by
  have hN := NNone w p h
  go_enter Tryd.func45, Tryd.ntmps45
  go_wp2_with (go_at_call 51; refine hN.mono ?_; rintro e w' ⟨rfl, rfl⟩)
  go_ret
  exact ⟨rfl, rfl⟩
theorem NPoint (h : Unmade w p) : Calls Tryd.prog 23 #[.pointer p] w fun e w' => e = .returned (.int .i64 0) ∧ w = w' := by
  have hN := NNone w p h
  go_enter Tryd.func23, Tryd.ntmps23
  go_wp2_with (go_at_call 51; refine hN.mono ?_; rintro e w' ⟨rfl, rfl⟩)
  go_ret
  exact ⟨rfl, rfl⟩
theorem NMark (h : Unmade w p) : Calls Tryd.prog 46 #[.pointer p] w fun e w' => e = .returned (.int .i64 0) ∧ w = w' := by
  have hN := NNone w p h
  go_enter Tryd.func46, Tryd.ntmps46
  go_wp2_with (go_at_call 51; refine hN.mono ?_; rintro e w' ⟨rfl, rfl⟩)
  go_ret
  exact ⟨rfl, rfl⟩
theorem NText (h : Unmade w p) : Calls Tryd.prog 15 #[.pointer p] w fun e w' => e = .returned (.slice none 0 0) ∧ w = w' := by
  have hN := NNone w p h
  go_enter Tryd.func15, Tryd.ntmps15
  go_wp2_with (go_at_call 51; refine hN.mono ?_; rintro e w' ⟨rfl, rfl⟩)
  go_ret
  exact ⟨rfl, rfl⟩
theorem NClone (h : Unmade w p) : Calls Tryd.prog 47 #[.pointer p] w fun e w' => e = .returned (.pointer none) ∧ w = w' := by
  have hN := NNone w p h
  go_enter Tryd.func47, Tryd.ntmps47
  go_wp2_with (go_at_call 51; refine hN.mono ?_; rintro e w' ⟨rfl, rfl⟩)
  go_ret
  exact ⟨rfl, rfl⟩
theorem NSwap (h : Unmade w p) : Calls Tryd.prog 43 #[.pointer p] w fun e w' => e = .returned (.int .i64 2) ∧ w = w' := by
  have hN := NNone w p h
  go_enter Tryd.func43, Tryd.ntmps43
  go_wp2_with (go_at_call 51; refine hN.mono ?_; rintro e w' ⟨rfl, rfl⟩)
  go_ret
  exact ⟨rfl, rfl⟩
theorem NMove (a : Int) (h : Unmade w p) : Calls Tryd.prog 17 #[.pointer p, .int .i64 a] w fun e w' => e = .returned (.int .i64 2) ∧ w = w' := by
  have hN := NNone w p h
  go_enter Tryd.func17, Tryd.ntmps17
  go_wp2_with (go_at_call 51; refine hN.mono ?_; rintro e w' ⟨rfl, rfl⟩)
  go_ret
  exact ⟨rfl, rfl⟩
theorem NSetMark (a : Int) (h : Unmade w p) : Calls Tryd.prog 42 #[.pointer p, .int .i64 a] w fun e w' => e = .returned (.int .i64 2) ∧ w = w' := by
  have hN := NNone w p h
  go_enter Tryd.func42, Tryd.ntmps42
  go_wp2_with (go_at_call 51; refine hN.mono ?_; rintro e w' ⟨rfl, rfl⟩)
  go_ret
  exact ⟨rfl, rfl⟩
theorem NApply (x0 x1 x2 : Value) (h : Unmade w p) : Calls Tryd.prog 24 #[.pointer p, .agg #[x0, x1, x2]] w fun e w' => e = .returned (.int .i64 2) ∧ Keeps [] w w' := by
  have hk0 := (Keeps.refl [] w).alloc (.cells #[x0, x1, x2] 24)
  have hN := NNone _ p (h.keeps hk0)
  go_enter Tryd.func24, Tryd.ntmps24
  go_wp2_with (go_at_call 51; refine hN.mono ?_; rintro e w' ⟨rfl, rfl⟩)
  go_ret
  exact ⟨rfl, hk0⟩
set_option maxRecDepth 100000 in
theorem NReplace (f t : Int) (A : Option Addr) (n c : Nat) (h : Unmade w p) : Calls Tryd.prog 13 #[.pointer p, .int .i64 f, .int .i64 t, .slice A n c] w (Refused w 2) := by
  have hk0 := (Keeps.refl [] w).alloc (.cells #[.int .i64 0, .slice none 0 0, .slice none 0 0] 24)
  have h0 := h.keeps hk0
  have hrn : w.heap.size ≤ w.heap.size := Nat.le_refl _
  go_enter Tryd.func13, Tryd.ntmps13
  go_wp2_with (first | (go_at_call 51; refine (NNone _ p h0).mono ?_; rintro e w' ⟨rfl, rfl⟩) | (go_at_call 45; refine (NLen _ p h0).mono ?_; rintro e w' ⟨rfl, rfl⟩))
  refine bodyPost_ret (v := .tuple #[.agg #[.int .i64 0, .slice none 0 0, .slice none 0 0], .int .i64 2]) (by simp [results, Tryd.results13, go_sem]) rfl ⟨rfl, ?_⟩
  repeat (first | exact hk0 | refine Keeps.setCell ?_ _ _ (.inr hrn) | refine Keeps.drew ?_)
set_option maxRecDepth 100000 in
theorem NInsert (A : Option Addr) (n c : Nat) (h : Unmade w p) : Calls Tryd.prog 19 #[.pointer p, .slice A n c] w (Refused w 2) := by
  have hk0 := (Keeps.refl [] w).alloc (.cells #[.int .i64 0, .slice none 0 0, .slice none 0 0] 24)
  have hr0 := blk_new w (.cells #[.int .i64 0, .slice none 0 0, .slice none 0 0] 24)
  have h0 := h.keeps hk0
  have hrn : w.heap.size ≤ w.heap.size := Nat.le_refl _
  go_enter Tryd.func19, Tryd.ntmps19
  go_wp2_with (go_at_call 23; refine (NPoint _ p h0).mono ?_; rintro e w' ⟨rfl, rfl⟩)
  refine (NReplace _ p 0 0 A n c h0).mono ?_
  rintro e w1 ⟨rfl, hk1⟩
  have hk := hk0.trans hk1
  obtain ⟨r0, r1, r2, g0, g1, g2⟩ := three (hk1.blk hr0 (by simp))
  go_wp2_with fail
  refine bodyPost_ret (v := .tuple #[.agg #[.int .i64 0, .slice none 0 0, .slice none 0 0], .int .i64 2]) (by simp [results, Tryd.results19, go_sem, r0, r1, r2]) rfl ⟨rfl, ?_⟩
  repeat (first | exact hk | refine Keeps.setCell ?_ _ _ (.inr hrn) | refine Keeps.drew ?_)
set_option maxRecDepth 100000 in
theorem NDelete (f t : Int) (h : Unmade w p) : Calls Tryd.prog 41 #[.pointer p, .int .i64 f, .int .i64 t] w (Refused w 2) := by
  have hk0 := (Keeps.refl [] w).alloc (.cells #[.int .i64 0, .slice none 0 0, .slice none 0 0] 24)
  have hr0 := blk_new w (.cells #[.int .i64 0, .slice none 0 0, .slice none 0 0] 24)
  have h0 := h.keeps hk0
  have hrn : w.heap.size ≤ w.heap.size := Nat.le_refl _
  go_enter Tryd.func41, Tryd.ntmps41
  go_wp2_with fail
  refine (NReplace _ p f t none 0 0 h0).mono ?_
  rintro e w1 ⟨rfl, hk1⟩
  have hk := hk0.trans hk1
  obtain ⟨r0, r1, r2, g0, g1, g2⟩ := three (hk1.blk hr0 (by simp))
  go_wp2_with fail
  refine bodyPost_ret (v := .tuple #[.agg #[.int .i64 0, .slice none 0 0, .slice none 0 0], .int .i64 2]) (by simp [results, Tryd.results41, go_sem, r0, r1, r2]) rfl ⟨rfl, ?_⟩
  repeat (first | exact hk | refine Keeps.setCell ?_ _ _ (.inr hrn) | refine Keeps.drew ?_)
set_option maxRecDepth 100000 in
theorem NLine (h : Unmade w p) : Calls Tryd.prog 21 #[.pointer p] w fun e w' => e = .returned (.agg #[.slice none 0 0, .int .i64 0, .int .i64 0]) ∧ Keeps [] w w' := by
  have hk0 := (Keeps.refl [] w).alloc (.cells #[.slice none 0 0, .int .i64 0, .int .i64 0] 46)
  have h0 := h.keeps hk0
  have hrn : w.heap.size ≤ w.heap.size := Nat.le_refl _
  go_enter Tryd.func21, Tryd.ntmps21
  go_wp2_with (first | (go_at_call 15; refine (NText _ p h0).mono ?_; rintro e w' ⟨rfl, rfl⟩) | (go_at_call 23; refine (NPoint _ p h0).mono ?_; rintro e w' ⟨rfl, rfl⟩) | (go_at_call 46; refine (NMark _ p h0).mono ?_; rintro e w' ⟨rfl, rfl⟩))
  refine bodyPost_ret (v := .agg #[.slice none 0 0, .int .i64 0, .int .i64 0]) (by simp [results, Tryd.results21, go_sem]) rfl ⟨rfl, ?_⟩
  repeat (first | exact hk0 | refine Keeps.setCell ?_ _ _ (.inr hrn) | refine Keeps.drew ?_)
end
end Go.Proofs.YtmnmdpgckefefaaDoor.Buf
