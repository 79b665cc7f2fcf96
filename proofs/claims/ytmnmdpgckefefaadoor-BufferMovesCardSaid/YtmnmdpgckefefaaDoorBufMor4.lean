/- buffer.Buffer.Apply. -/
import Derived.Test.YtmnmdpgckefefaaDoorBufMor3
namespace Go.Proofs.YtmnmdpgckefefaaDoor.Buf
open Go Go.RowKit Go.Proofs.YtmnmdpgckefefaaDoor.Rw Go.Proofs.YtmnmdpgckefefaaDoor.SlR Go.Proofs.YtmnmdpgckefefaaDoor.Words Go.Proofs.YtmnmdpgckefefaaDoor.OpArg

theorem BLen_drew (w : World) (b : Nat) (F : List Nat) (s : BS) (h : BAt w b F s) :
    Calls Tryd.prog 45 #[.pointer (some ⟨b, 0, none⟩)] w fun e w' => e = .returned (.int .i64 s.l.length) ∧ w' = w.drew := by
  obtain ⟨lv, N, fr, ub, xs, h, rfl⟩ := h
  obtain ⟨c0, c1, c2, c3, c4, c5, _⟩ := h.six
  obtain ⟨A, c, rfl, h1, h2⟩ := h.row.slice
  have hl := h.len
  have hft := h.fr_to
  have htN := h.to_N
  have hsm := h.small
  have He : Hid ((N : Int) - ((ub : Int) - (fr : Int)) = (s.l.length : Int)) := by show _ = _; omega
  clear hl
  go_enter Tryd.func45, Tryd.ntmps45
  go_wp2_with (go_at_call 51; refine (BNone_calls _ _ true c0).mono ?_; rintro e w' ⟨rfl, rfl⟩)
  go_region
  all_goals go_wp2
  all_goals go_ret
  all_goals exact ⟨by rw [← He.out]; rfl, rfl⟩
theorem BLen_quiet (w : World) (n : Nat) (b : Nat) (F : List Nat) (s : BS) (h : BAt w b F s) :
    Calls Tryd.prog 45 #[.pointer (some ⟨b, 0, none⟩)] (w.drewN n) fun e w' => e = .returned (.int .i64 s.l.length) ∧ ∃ m, w' = w.drewN m :=
  Calls.quiet_of ((BLen_drew _ b F s (h.keeps ((Keeps.refl [] w).drewN n) (by simp))).mono fun _ _ h => ⟨h.1, 1, h.2⟩)

def BS.applyErr (s : BS) (d : ED) : Int :=
  if d.at_ < 0 then 70 else if (s.l.length : Int) < d.at_ then 70 else if (s.l.length : Int) - d.at_ < d.del.length then 71 else if (s.l.drop d.at_.toNat).take d.del.length ≠ d.del then 71 else s.err d.at_ (d.at_ + d.del.length) d.ins.length
def BS.apply (s : BS) (d : ED) : BS :=
  if d.at_ < 0 then s else if (s.l.length : Int) < d.at_ then s else if (s.l.length : Int) - d.at_ < d.del.length then s else if (s.l.drop d.at_.toNat).take d.del.length ≠ d.del then s else s.after d.at_ (d.at_ + d.del.length) d.ins

section
variable (w : World) (b : Nat) (F : List Nat) (s : BS) (a : Int) (A B : Option Addr) (c d : Nat) (xs ys : List Int)
set_option maxRecDepth 100000 in
theorem apply_below (h : BAt w b F s) (h1 : a < 0) (ha : In64 a) :
    Calls Tryd.prog 24 #[.pointer (some ⟨b, 0, none⟩), .agg #[.int .i64 a, .slice A xs.length c, .slice B ys.length d]] w (Turned w b F s 70) := by
  obtain ⟨ha1, ha2⟩ := ha
  have hlt : decide (a < 0) = true := by simpa using h1
  have hk0 := (Keeps.refl [] w).alloc (.cells #[.int .i64 a, .slice A xs.length c, .slice B ys.length d] 24)
  have c0 : (w.alloc (.cells #[.int .i64 a, .slice A xs.length c, .slice B ys.length d] 24)).cell? ⟨b, 0, none⟩ = some (.bool true) := by
    obtain ⟨lv, N, fr, ub, xs', hb, _⟩ := h
    exact hk0.cell hb.six.1 (by simp)
  go_enter Tryd.func24, Tryd.ntmps24
  go_wp2_with (go_at_call 51; refine (BNone_calls _ _ true c0).mono ?_; rintro e w' ⟨rfl, rfl⟩)
  go_quiet (fail)
  go_wp2
  go_ret
  exact Turned.same h (hk0.drewN _)
set_option maxRecDepth 100000 in
theorem apply_above (h : BAt w b F s) (h1 : ¬ a < 0) (h2 : (s.l.length : Int) < a) (ha : In64 a) :
    Calls Tryd.prog 24 #[.pointer (some ⟨b, 0, none⟩), .agg #[.int .i64 a, .slice A xs.length c, .slice B ys.length d]] w (Turned w b F s 70) := by
  obtain ⟨ha1, ha2⟩ := ha
  have hlt : decide (a < 0) = false := by simpa using h1
  have hk0 := (Keeps.refl [] w).alloc (.cells #[.int .i64 a, .slice A xs.length c, .slice B ys.length d] 24)
  have c0 : (w.alloc (.cells #[.int .i64 a, .slice A xs.length c, .slice B ys.length d] 24)).cell? ⟨b, 0, none⟩ = some (.bool true) := by
    obtain ⟨lv, N, fr, ub, xs', hb, _⟩ := h
    exact hk0.cell hb.six.1 (by simp)
  have h0 := h.keeps hk0 (by simp)
  go_enter Tryd.func24, Tryd.ntmps24
  go_wp2_with (go_at_call 51; refine (BNone_calls _ _ true c0).mono ?_; rintro e w' ⟨rfl, rfl⟩)
  go_quiet ((go_at_call 45; exact BLen_quiet _ _ b F s h0))
  go_wp2
  go_ret
  exact Turned.same h (hk0.drewN _)
set_option maxRecDepth 100000 in
theorem apply_long (h : BAt w b F s) (h1 : ¬ a < 0) (h2 : ¬ (s.l.length : Int) < a) (h3 : (s.l.length : Int) - a < xs.length) (ha : In64 a) (_hx : xs.length ≤ maxLen) :
    Calls Tryd.prog 24 #[.pointer (some ⟨b, 0, none⟩), .agg #[.int .i64 a, .slice A xs.length c, .slice B ys.length d]] w (Turned w b F s 71) := by
  obtain ⟨ha1, ha2⟩ := ha
  have hlt : decide (a < 0) = false := by simpa using h1
  have hk0 := (Keeps.refl [] w).alloc (.cells #[.int .i64 a, .slice A xs.length c, .slice B ys.length d] 24)
  have hq0 := blk_new w (.cells #[.int .i64 a, .slice A xs.length c, .slice B ys.length d] 24)
  have c0 : (w.alloc (.cells #[.int .i64 a, .slice A xs.length c, .slice B ys.length d] 24)).cell? ⟨b, 0, none⟩ = some (.bool true) := by
    obtain ⟨lv, N, fr, ub, xs', hb, _⟩ := h
    exact hk0.cell hb.six.1 (by simp)
  have h0 := h.keeps hk0 (by simp)
  have hsh : s.l.length ≤ 1024 := by obtain ⟨lv, N, fr, ub, xs', hb, _⟩ := h; exact hb.short
  have hg : decide ((s.l.length : Int) - a < (xs.length : Int)) = true := by simpa using h3
  go_enter Tryd.func24, Tryd.ntmps24
  go_wp2_with (go_at_call 51; refine (BNone_calls _ _ true c0).mono ?_; rintro e w' ⟨rfl, rfl⟩)
  go_quiet ((go_at_call 45; exact BLen_quiet _ _ b F s h0))
  have hk1 := hk0.drewN nq
  have h4 := h0.keeps ((Keeps.refl [] _).drewN nq) (by simp)
  obtain ⟨q0, q1, q2, _⟩ := three (((Keeps.refl [] _).drewN nq).blk hq0 (by simp))
  go_wp2_with fail
  generalize (w.alloc (.cells #[.int .i64 a, .slice A xs.length c, .slice B ys.length d] 24)).drewN nq = w1 at *
  go_quiet ((go_at_call 45; exact BLen_quiet _ _ b F s h4))
  go_wp2
  go_ret
  exact Turned.same h (hk1.drewN _)
end
end Go.Proofs.YtmnmdpgckefefaaDoor.Buf
