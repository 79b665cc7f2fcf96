/- macro.Queue, Recorder, Paste: what their methods come to where no call made them. -/
import Derived.Test.YtomdhiphiediaaaDoorMacBegun
namespace Go.Proofs.YtomdhiphiediaaaDoor.Mac
open Go Go.RowKit Go.Proofs.YtomdhiphiediaaaDoor.Rw

/-- What no call made: none, or one whose field n says so. -/
def Unmade (w : World) (n : Nat) (p : Option Addr) : Prop := ∀ a, p = some a → ∃ b, a = ⟨b, 0, none⟩ ∧ w.cell? ⟨b, n, none⟩ = some (.bool false)
theorem Unmade.keeps {w w' : World} {n : Nat} {p : Option Addr} (h : Unmade w n p) (k : Keeps [] w w') : Unmade w' n p := fun a ha => by
  obtain ⟨b, h1, h2⟩ := h a ha
  exact ⟨b, h1, k.cell h2 (by simp)⟩
section
variable (w : World) (p : Option Addr)
theorem NQNone (h : Unmade w 3 p) : Calls Tryd.prog 31 #[.pointer p] w fun e w' => e = .returned (.bool true) ∧ w = w' := by
  cases p with
  | none =>
    go_enter Tryd.func31, Tryd.ntmps31
    go_wp2
    go_ret
    exact ⟨rfl, rfl⟩
  | some a =>
    obtain ⟨b, rfl, hc⟩ := h a rfl
    go_enter Tryd.func31, Tryd.ntmps31
    go_wp2
    go_ret
    exact ⟨rfl, rfl⟩
theorem NRNone (h : Unmade w 4 p) : Calls Tryd.prog 35 #[.pointer p] w fun e w' => e = .returned (.bool true) ∧ w = w' := by
  cases p with
  | none =>
    go_enter Tryd.func35, Tryd.ntmps35
    go_wp2
    go_ret
    exact ⟨rfl, rfl⟩
  | some a =>
    obtain ⟨b, rfl, hc⟩ := h a rfl
    go_enter Tryd.func35, Tryd.ntmps35
    go_wp2
    go_ret
    exact ⟨rfl, rfl⟩
theorem NQLen (h : Unmade w 3 p) : Calls Tryd.prog 14 #[.pointer p] w fun e w' => e = .returned (.int .i64 0) ∧ w = w' := by
  have hN := NQNone w p h
  go_enter Tryd.func14, Tryd.ntmps14
  go_wp2_with (go_at_call 31; refine hN.mono ?_; rintro e w' ⟨rfl, rfl⟩)
  go_ret
  exact ⟨rfl, rfl⟩
theorem NQDepth (h : Unmade w 3 p) : Calls Tryd.prog 15 #[.pointer p] w fun e w' => e = .returned (.int .i64 0) ∧ w = w' := by
  have hN := NQNone w p h
  go_enter Tryd.func15, Tryd.ntmps15
  go_wp2_with (go_at_call 31; refine hN.mono ?_; rintro e w' ⟨rfl, rfl⟩)
  go_ret
  exact ⟨rfl, rfl⟩
theorem NQRoom (a : Int) (h : Unmade w 3 p) : Calls Tryd.prog 32 #[.pointer p, .int .i64 a] w fun e w' => e = .returned (.int .i64 2) ∧ w = w' := by
  have hN := NQNone w p h
  go_enter Tryd.func32, Tryd.ntmps32
  go_wp2_with (go_at_call 31; refine hN.mono ?_; rintro e w' ⟨rfl, rfl⟩)
  go_ret
  exact ⟨rfl, rfl⟩
theorem NQPut (A : Option Addr) (n : Nat) (c : Nat) (h : Unmade w 3 p) : Calls Tryd.prog 11 #[.pointer p, .slice A n c] w fun e w' => e = .returned (.int .i64 2) ∧ w = w' := by
  have hN := NQRoom w p n h
  go_enter Tryd.func11, Tryd.ntmps11
  go_wp2_with (go_at_call 32; refine hN.mono ?_; rintro e w' ⟨rfl, rfl⟩)
  go_ret
  exact ⟨rfl, rfl⟩
theorem NQPush (A : Option Addr) (n : Nat) (c : Nat) (h : Unmade w 3 p) : Calls Tryd.prog 12 #[.pointer p, .slice A n c] w fun e w' => e = .returned (.int .i64 2) ∧ w = w' := by
  have hN := NQNone w p h
  go_enter Tryd.func12, Tryd.ntmps12
  go_wp2_with (go_at_call 31; refine hN.mono ?_; rintro e w' ⟨rfl, rfl⟩)
  go_ret
  exact ⟨rfl, rfl⟩
theorem NQBack (A : Option Addr) (n : Nat) (c : Nat) (h : Unmade w 3 p) : Calls Tryd.prog 13 #[.pointer p, .slice A n c] w fun e w' => e = .returned (.int .i64 2) ∧ w = w' := by
  have hN := NQNone w p h
  go_enter Tryd.func13, Tryd.ntmps13
  go_wp2_with (go_at_call 31; refine hN.mono ?_; rintro e w' ⟨rfl, rfl⟩)
  go_ret
  exact ⟨rfl, rfl⟩
theorem NQNext (h : Unmade w 3 p) : Calls Tryd.prog 10 #[.pointer p] w fun e w' => e = .returned (.tuple #[.int .u8 0, .bool false, .bool false]) ∧ w = w' := by
  have hN := NQNone w p h
  go_enter Tryd.func10, Tryd.ntmps10
  go_wp2_with (go_at_call 31; refine hN.mono ?_; rintro e w' ⟨rfl, rfl⟩)
  refine bodyPost_ret (v := .tuple #[.int .u8 0, .bool false, .bool false]) (by simp [results, Tryd.results10, go_sem]) rfl ⟨rfl, rfl⟩
theorem NQDrop (h : Unmade w 3 p) : Calls Tryd.prog 16 #[.pointer p] w fun e w' => e = .returned (.int .i64 0) ∧ w = w' := by
  have hN := NQNone w p h
  go_enter Tryd.func16, Tryd.ntmps16
  go_wp2_with (go_at_call 31; refine hN.mono ?_; rintro e w' ⟨rfl, rfl⟩)
  go_ret
  exact ⟨rfl, rfl⟩
theorem NQClone (h : Unmade w 3 p) : Calls Tryd.prog 17 #[.pointer p] w fun e w' => e = .returned (.pointer none) ∧ w = w' := by
  have hN := NQNone w p h
  go_enter Tryd.func17, Tryd.ntmps17
  go_wp2_with (go_at_call 31; refine hN.mono ?_; rintro e w' ⟨rfl, rfl⟩)
  go_ret
  exact ⟨rfl, rfl⟩
theorem NRLast (h : Unmade w 4 p) : Calls Tryd.prog 18 #[.pointer p] w fun e w' => e = .returned (.tuple #[.string ⟨#[]⟩, .bool false]) ∧ w = w' := by
  have hN := NRNone w p h
  go_enter Tryd.func18, Tryd.ntmps18
  go_wp2_with (go_at_call 35; refine hN.mono ?_; rintro e w' ⟨rfl, rfl⟩)
  refine bodyPost_ret (v := .tuple #[.string ⟨#[]⟩, .bool false]) (by simp [results, Tryd.results18, go_sem]) rfl ⟨rfl, rfl⟩
theorem NRStart (h : Unmade w 4 p) : Calls Tryd.prog 19 #[.pointer p] w fun e w' => e = .returned (.int .i64 2) ∧ w = w' := by
  have hN := NRNone w p h
  go_enter Tryd.func19, Tryd.ntmps19
  go_wp2_with (go_at_call 35; refine hN.mono ?_; rintro e w' ⟨rfl, rfl⟩)
  go_ret
  exact ⟨rfl, rfl⟩
theorem NRWants (h : Unmade w 4 p) : Calls Tryd.prog 36 #[.pointer p] w fun e w' => e = .returned (.int .i64 2) ∧ w = w' := by
  have hN := NRNone w p h
  go_enter Tryd.func36, Tryd.ntmps36
  go_wp2_with (go_at_call 35; refine hN.mono ?_; rintro e w' ⟨rfl, rfl⟩)
  go_ret
  exact ⟨rfl, rfl⟩
theorem NREnd (h : Unmade w 4 p) : Calls Tryd.prog 20 #[.pointer p] w fun e w' => e = .returned (.int .i64 2) ∧ w = w' := by
  have hN := NRWants w p h
  go_enter Tryd.func20, Tryd.ntmps20
  go_wp2_with (go_at_call 36; refine hN.mono ?_; rintro e w' ⟨rfl, rfl⟩)
  go_ret
  exact ⟨rfl, rfl⟩
theorem NRPut (A : Option Addr) (n : Nat) (c : Nat) (h : Unmade w 4 p) : Calls Tryd.prog 21 #[.pointer p, .slice A n c] w fun e w' => e = .returned (.int .i64 2) ∧ w = w' := by
  have hN := NRWants w p h
  go_enter Tryd.func21, Tryd.ntmps21
  go_wp2_with (go_at_call 36; refine hN.mono ?_; rintro e w' ⟨rfl, rfl⟩)
  go_ret
  exact ⟨rfl, rfl⟩
theorem NRCancel (h : Unmade w 4 p) : Calls Tryd.prog 22 #[.pointer p] w fun e w' => e = .returned (.int .i64 2) ∧ w = w' := by
  have hN := NRWants w p h
  go_enter Tryd.func22, Tryd.ntmps22
  go_wp2_with (go_at_call 36; refine hN.mono ?_; rintro e w' ⟨rfl, rfl⟩)
  go_ret
  exact ⟨rfl, rfl⟩
theorem NROn (h : Unmade w 4 p) : Calls Tryd.prog 23 #[.pointer p] w fun e w' => e = .returned (.bool false) ∧ w = w' := by
  have hN := NRNone w p h
  go_enter Tryd.func23, Tryd.ntmps23
  go_wp2_with (go_at_call 35; refine hN.mono ?_; rintro e w' ⟨rfl, rfl⟩)
  go_ret
  exact ⟨rfl, rfl⟩
theorem NRClone (h : Unmade w 4 p) : Calls Tryd.prog 24 #[.pointer p] w fun e w' => e = .returned (.pointer none) ∧ w = w' := by
  have hN := NRNone w p h
  go_enter Tryd.func24, Tryd.ntmps24
  go_wp2_with (go_at_call 35; refine hN.mono ?_; rintro e w' ⟨rfl, rfl⟩)
  go_ret
  exact ⟨rfl, rfl⟩
theorem NPPut (x : Int) (h : Unmade w 2 p) : Calls Tryd.prog 8 #[.pointer p, .int .u8 x] w fun e w' => e = .returned (.tuple #[.bool false, .int .i64 2]) ∧ w = w' := by
  cases p with
  | none =>
    go_enter Tryd.func8, Tryd.ntmps8
    go_wp2_with fail
    refine bodyPost_ret (v := .tuple #[.bool false, .int .i64 2]) (by simp [results, Tryd.results8, go_sem]) rfl ⟨rfl, rfl⟩
  | some a =>
    obtain ⟨b, rfl, hc⟩ := h a rfl
    go_enter Tryd.func8, Tryd.ntmps8
    go_wp2_with fail
    refine bodyPost_ret (v := .tuple #[.bool false, .int .i64 2]) (by simp [results, Tryd.results8, go_sem]) rfl ⟨rfl, rfl⟩
theorem NPText (h : Unmade w 2 p) : Calls Tryd.prog 9 #[.pointer p] w fun e w' => e = .returned (.slice none 0 0) ∧ w = w' := by
  cases p with
  | none =>
    go_enter Tryd.func9, Tryd.ntmps9
    go_wp2_with fail
    go_ret
    exact ⟨rfl, rfl⟩
  | some a =>
    obtain ⟨b, rfl, hc⟩ := h a rfl
    go_enter Tryd.func9, Tryd.ntmps9
    go_wp2_with fail
    go_ret
    exact ⟨rfl, rfl⟩
end
end Go.Proofs.YtomdhiphiediaaaDoor.Mac
