/- lanyardref07.Buffer.Apply. -/
import Derived.Test.YtmnmdpgckefefaaDoorRef3
namespace Go.Proofs.YtmnmdpgckefefaaDoor.Buf
open Go Go.RowKit Go.Proofs.YtmnmdpgckefefaaDoor.Rw Go.Proofs.YtmnmdpgckefefaaDoor.SlR Go.Proofs.YtmnmdpgckefefaaDoor.Words Go.Proofs.YtmnmdpgckefefaaDoor.OpArg
section
variable (w : World) (r : Nat) (F : List Nat) (s : BS) (A B : Option Addr) (c d : Nat) (xs ys : List Int)
set_option maxRecDepth 100000 in
theorem applyR_place (h : RAt w r F s) (a : Int) (h1 : a < 0 ∨ (s.l.length : Int) < a) :
    Calls Tryd.prog 69 #[.pointer (some ⟨r, 0, none⟩), .agg #[.int .i64 a, .slice A xs.length c, .slice B ys.length d]] w (TurnedR w r F s 70) := by
  have hk0 := (Keeps.refl [] w).alloc (.cells #[.int .i64 a, .slice A xs.length c, .slice B ys.length d] 24)
  have h0 := h.keeps hk0 (by simp)
  have H1 := Lib.hid h1; clear h1
  go_enter Tryd.func69, Tryd.ntmps69
  go_wp2_with (go_at_call 54; refine (Place_no _ r F s a h0 H1.out).mono ?_; rintro e w' ⟨rfl, rfl⟩)
  go_ret
  exact TurnedR.same h hk0
set_option maxRecDepth 100000 in
theorem applyR_long (h : RAt w r F s) (a : Nat) (h2 : a ≤ s.l.length) (h3 : (s.l.length : Int) - a < xs.length) (_hx : xs.length ≤ maxLen) :
    Calls Tryd.prog 69 #[.pointer (some ⟨r, 0, none⟩), .agg #[.int .i64 a, .slice A xs.length c, .slice B ys.length d]] w (TurnedR w r F s 71) := by
  have hk0 := (Keeps.refl [] w).alloc (.cells #[.int .i64 a, .slice A xs.length c, .slice B ys.length d] 24)
  have hq0 := blk_new w (.cells #[.int .i64 a, .slice A xs.length c, .slice B ys.length d] 24)
  have h0 := h.keeps hk0 (by simp)
  have hsh := h.bounds.1
  have hg : decide ((s.l.length : Int) - (a : Int) < (xs.length : Int)) = true := by simpa using h3
  go_enter Tryd.func69, Tryd.ntmps69
  go_wp2_with (go_at_call 54; refine (Place_yes _ r F s a h0 (by omega) (by omega)).mono ?_; rintro e w' ⟨rfl, rfl⟩)
  obtain ⟨L, lc, c0, _, _, hLc, hLm, hsL⟩ := h0.cell0
  obtain ⟨q0, q1, q2, _⟩ := three hq0
  generalize (w.alloc (.cells #[.int .i64 a, .slice A xs.length c, .slice B ys.length d] 24)) = w1 at *
  go_quiet (fail)
  go_wp2
  go_ret
  exact TurnedR.same h (hk0.drewN _)
set_option maxRecDepth 100000 in
set_option maxHeartbeats 1000000 in
theorem applyR_differs (h : RAt w r F s) (a : Nat) (h2 : a ≤ s.l.length) (h3 : a + xs.length ≤ s.l.length) (hA : Src w A (ns .i32 xs)) (hsame : decide ((s.l.drop a).take xs.length = xs) = false) :
    Calls Tryd.prog 69 #[.pointer (some ⟨r, 0, none⟩), .agg #[.int .i64 a, .slice A xs.length c, .slice B ys.length d]] w (TurnedR w r F s 71) := by
  have Hsame := Lib.hid hsame; clear hsame
  have hk0 := (Keeps.refl [] w).alloc (.cells #[.int .i64 a, .slice A xs.length c, .slice B ys.length d] 24)
  have hq0 := blk_new w (.cells #[.int .i64 a, .slice A xs.length c, .slice B ys.length d] 24)
  have h0 := h.keeps hk0 (by simp)
  have hsh := h.bounds.1
  have hg : decide ((s.l.length : Int) - (a : Int) < (xs.length : Int)) = false := by simp; omega
  go_enter Tryd.func69, Tryd.ntmps69
  go_wp2_with (go_at_call 54; refine (Place_yes _ r F s a h0 (by omega) (by omega)).mono ?_; rintro e w' ⟨rfl, rfl⟩)
  obtain ⟨L, lc, c0, _, _, hLc, hLm, hsL⟩ := h0.cell0
  obtain ⟨q0, q1, q2, _⟩ := three hq0
  have hA1 := hA.keeps hk0 (by simp)
  generalize (w.alloc (.cells #[.int .i64 a, .slice A xs.length c, .slice B ys.length d] 24)) = w1 at *
  have ha : a ≤ 1024 := by omega
  have hx : xs.length ≤ 1024 := by omega
  have hax : a + xs.length ≤ 1024 := by omega
  have hcl := Lib.hid (show ((s.l.drop a).take xs.length).length = xs.length by simp; omega)
  have hxm : xs.length ≤ maxLen := by unfold maxLen; omega
  have hcut := Lib.hid (show Src w1.drew (if lc = a then L else Option.map (fun x => Addr.add x a) L) (ns .i32 ((s.l.drop a).take xs.length)) by rw [← ns_take_drop]; exact ((hsL.cut lc a (by rw [ns_length]; exact hLc)).take xs.length).drew)
  have hA2 := hA1.drew
  have W1 : IntKind.i64.wrap ((s.l.length : Int) - (a : Int)) = (s.l.length : Int) - (a : Int) := IntWalk.i64_in _ (by omega)
  have W2 : IntKind.i64.wrap ((a : Int) + (xs.length : Int)) = (a : Int) + (xs.length : Int) := IntWalk.i64_in _ (by omega)
  have W3 : (0 : Int) ≤ (a : Int) + (xs.length : Int) := by omega
  have W4 : ((a : Int) + (xs.length : Int)).toNat = a + xs.length := by omega
  have W5 : a ≤ a + xs.length := by omega
  have W7 : (a : Int) + (xs.length : Int) ≤ (lc : Int) := by omega
  have W6 : (if lc = a then L else Option.map (fun x => Addr.add x a) L) = cutA L lc a := rfl
  have hkd := (Keeps.refl [] w1).drew
  have halc : a ≤ lc := by omega
  unfold maxLen at hLm
  go_region_held3 (fun w' => w'.cell? ⟨w.heap.size, 0, none⟩ = some (.int .i64 a) ∧ w'.cell? ⟨w.heap.size, 1, none⟩ = some (.slice A xs.length c) ∧ w'.cell? ⟨r, 0, none⟩ = some (.slice L s.l.length lc)) (first | exact ⟨q0, q1, c0⟩ | exact ⟨hkV.cell q0 (by simp), hkV.cell q1 (by simp), hkV.cell c0 (by simp)⟩) (first
    | (go_at_call 14
       refine (Same_calls w1.drew _ A _ xs.length _ c ((s.l.drop a).take xs.length) xs hcut.out hA2 hcl.out rfl hxm hxm).mono ?_
       rintro e wV ⟨rfl, hkV0⟩
       rw [Hsame.out]
       have hkV := hkd.trans hkV0))
  go_wp2
  go_ret
  exact TurnedR.same h (hk0.trans hkV)
end
end Go.Proofs.YtmnmdpgckefefaaDoor.Buf
