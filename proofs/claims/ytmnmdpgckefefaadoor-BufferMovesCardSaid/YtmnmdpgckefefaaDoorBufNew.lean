/- buffer.New, Insert, Point, Mark. -/
import Derived.Test.YtmnmdpgckefefaaDoorBufRep
namespace Go.Proofs.YtmnmdpgckefefaaDoor.Buf
open Go Go.RowKit Go.Proofs.YtmnmdpgckefefaaDoor.Rw Go.Proofs.YtmnmdpgckefefaaDoor.SlR

theorem BPoint_calls (w : World) (b : Nat) (F : List Nat) (s : BS) (h : BAt w b F s) :
    Calls Tryd.prog 23 #[.pointer (some ⟨b, 0, none⟩)] w fun e w' => e = .returned (.int .i64 s.point) ∧ w = w' := by
  obtain ⟨lv, N, fr, ub, xs, h, rfl⟩ := h
  obtain ⟨c0, c1, c2, c3, c4, c5, _⟩ := h.six
  go_enter Tryd.func23, Tryd.ntmps23
  go_wp2_with (go_at_call 51; refine (BNone_calls _ _ true c0).mono ?_; rintro e w' ⟨rfl, rfl⟩)
  go_ret
  exact ⟨rfl, rfl⟩
theorem BMark_calls (w : World) (b : Nat) (F : List Nat) (s : BS) (h : BAt w b F s) :
    Calls Tryd.prog 46 #[.pointer (some ⟨b, 0, none⟩)] w fun e w' => e = .returned (.int .i64 s.mark) ∧ w = w' := by
  obtain ⟨lv, N, fr, ub, xs, h, rfl⟩ := h
  obtain ⟨c0, c1, c2, c3, c4, c5, _⟩ := h.six
  go_enter Tryd.func46, Tryd.ntmps46
  go_wp2_with (go_at_call 51; refine (BNone_calls _ _ true c0).mono ?_; rintro e w' ⟨rfl, rfl⟩)
  go_ret
  exact ⟨rfl, rfl⟩

theorem New_long (w : World) (A : Option Addr) (n c : Nat) (h : 1024 < n) (hn : n ≤ maxLen) :
    Calls Tryd.prog 11 #[.slice A n c] w fun e w' => e = .returned (.tuple #[.pointer none, .int .i64 3]) ∧ w = w' := by
  unfold maxLen at hn
  go_enter Tryd.func11, Tryd.ntmps11
  go_wp2
  go_ret2
  exact ⟨rfl, rfl⟩
/-- A new buffer, of new memory alone. -/
def Newed (w : World) (l : List Int) (e : Ending) (w' : World) : Prop :=
  ∃ b F, e = .returned (.tuple #[.pointer (some ⟨b, 0, none⟩), .int .i64 0]) ∧ BAt w' b F ⟨l, l.length, -1⟩ ∧ Keeps [] w w' ∧ ∀ k, k ∈ F → w.heap.size ≤ k
set_option maxRecDepth 100000 in
theorem New_ok (w : World) (A : Option Addr) (c : Nat) (l : List Int) (hs : Src w A (ns .i32 l)) (h : l.length ≤ 1024) :
    Calls Tryd.prog 11 #[.slice A l.length c] w (Newed w l) := by
  go_enter Tryd.func11, Tryd.ntmps11
  go_wp2_with fail
  refine (Clone_calls w A l.length c (ns .i32 l) hs (ns_length _ _) (ns_one _ _) (by omega)).mono ?_
  rintro e w1 ⟨A1, c1, rfl, hrow, hk1, hf1⟩
  have hW := blk_new w1 (.cells #[.bool true, .slice A1 l.length c1, .int .i64 l.length, .int .i64 l.length, .int .i64 l.length, .int .i64 (-1)] 67)
  have hkW := (Keeps.refl [] w1).alloc (.cells #[.bool true, .slice A1 l.length c1, .int .i64 l.length, .int .i64 l.length, .int .i64 l.length, .int .i64 (-1)] 67)
  have hrowW := hrow.keeps hkW (by simp)
  go_wp2
  go_ret2
  refine ⟨w1.heap.size, _, rfl, ⟨_, _, _, _, _, ⟨hW, hrowW, Nat.le_refl _, Nat.le_refl _, List.take_append_drop _ _, by omega, h, by simp, by simp, by simp, by simp, ns_one _ _⟩, rfl⟩, hk1.trans hkW, ?_⟩
  intro k hk
  have := hk1.size
  rcases List.mem_cons.1 hk with h1 | h1
  · omega
  · exact hf1 k h1

set_option maxRecDepth 100000 in
theorem BInsert_ok (w : World) (b : Nat) (F : List Nat) (s : BS) (p : Nat) (hp : s.point = p) (A : Option Addr) (c : Nat) (l : List Int) (h : BAt w b F s) (hfit : s.l.length + l.length ≤ 1024) (hsrc : Src w A (ns .i32 l)) (hsF : ∀ a, A = some a → 0 < (ns .i32 l).length → a.block ∉ F) :
    Calls Tryd.prog 19 #[.pointer (some ⟨b, 0, none⟩), .slice A l.length c] w (Replaced w b F s p p l) := by
  have hk0 := (Keeps.refl [] w).alloc (.cells #[.int .i64 0, .slice none 0 0, .slice none 0 0] 24)
  have hr0 := blk_new w (.cells #[.int .i64 0, .slice none 0 0, .slice none 0 0] 24)
  have hple : p ≤ s.l.length := by
    obtain ⟨lv, N, fr, ub, xs, hb, rfl⟩ := h
    have := hb.pt1; omega
  have hlt := h.lt
  have h0 := h.keeps hk0 (by simp)
  have hsrc0 := hsrc.keeps hk0 (by simp)
  obtain ⟨sl, sp, sm⟩ := s
  simp only at hp
  subst hp
  go_enter Tryd.func19, Tryd.ntmps19
  go_wp2_with (go_at_call 23; refine (BPoint_calls _ b F _ h0).mono ?_; rintro e w' ⟨rfl, rfl⟩)
  refine (BReplace_ok _ b F _ p p A c l h0 (Nat.le_refl _) hple (by simpa using hfit) hsrc0 hsF).mono ?_
  rintro e w2 ⟨Ad, cd, Ai, ci, rfl, hd, hi, hk, F', hF', hb', hfd, hfi⟩
  have hr2 := hk.blk hr0 (fun hh => by have := hlt _ hh; omega)
  obtain ⟨r0, r1, r2, s0, s1, s2⟩ := three hr2
  go_wp2_with fail
  refine bodyPost_ret (v := .tuple #[.agg #[.int .i64 p, .slice Ad (p - p) cd, .slice Ai l.length ci], .int .i64 0]) (by simp [results, Tryd.results19, go_sem, r0, r1, r2]) rfl ?_
  have hz : (w.alloc (.cells #[.int .i64 0, .slice none 0 0, .slice none 0 0] 24)).heap.size = w.heap.size + 1 := by simp
  have hkn : Keeps F w w2 := hk0.mono (fun _ hk => by simp at hk) |>.trans hk
  have hW : ∀ (u v x : Value), Keeps [w.heap.size] w2 (((w2.setCell ⟨w.heap.size, 0, none⟩ u).setCell ⟨w.heap.size, 1, none⟩ v).setCell ⟨w.heap.size, 2, none⟩ x) := fun u v x =>
    (((Keeps.refl _ w2).setCell _ _ (.inl (by simp))).setCell _ _ (.inl (by simp))).setCell _ _ (.inl (by simp))
  refine ⟨Ad, cd, Ai, ci, rfl, hd.keeps (hW _ _ _) (fun k hk => ?_), hi.keeps (hW _ _ _) (fun k hk => ?_), hkn.then (hW _ _ _) (fun k hk => .inr (by simp at hk; omega)), F', fun k hk => ?_, hb'.keeps (hW _ _ _) (fun k hk => ?_), fun k hk => ?_, fun k hk => ?_⟩
  · have := hfd k hk; simp; omega
  · have := hfi k hk; simp; omega
  · rcases hF' k hk with h1 | h1
    · exact .inl h1
    · exact .inr (by omega)
  · rcases hF' k hk with h1 | h1
    · have := hlt k h1; simp; omega
    · simp; omega
  · have := hfd k hk; exact ⟨by omega, this.2⟩
  · have := hfi k hk; exact ⟨by omega, this.2⟩
end Go.Proofs.YtmnmdpgckefefaaDoor.Buf
