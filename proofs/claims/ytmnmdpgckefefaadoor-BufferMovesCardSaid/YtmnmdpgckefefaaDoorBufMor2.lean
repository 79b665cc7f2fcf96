/- buffer.Buffer: Replace, Insert, Delete in one form each; Line, Clone; Reverse. -/
import Derived.Test.YtmnmdpgckefefaaDoorBufMore
namespace Go.Proofs.YtmnmdpgckefefaaDoor.Buf
open Go Go.RowKit Go.Proofs.YtmnmdpgckefefaaDoor.Rw Go.Proofs.YtmnmdpgckefefaaDoor.SlR

/-- An edit's numbers. -/
structure ED where
  at_ : Int
  del : List Int
  ins : List Int
def BS.err (s : BS) (f t : Int) (n : Nat) : Int := if f < 0 ∨ (s.l.length : Int) < f ∨ t < f ∨ (s.l.length : Int) < t then 70 else if 1024 < s.l.length - (t.toNat - f.toNat) + n then 3 else 0
def BS.after (s : BS) (f t : Int) (l : List Int) : BS := if s.err f t l.length = 0 then s.splice f.toNat t.toNat l else s
def BS.edit (s : BS) (f t : Int) (l : List Int) : ED := if s.err f t l.length = 0 then ⟨f, (s.l.drop f.toNat).take (t.toNat - f.toNat), l⟩ else ⟨0, [], []⟩

/-- An edit and a number are answered, a state is left: the edit's two rows are of their own, apart from the state and from each other. -/
def Did (St : World → Nat → List Nat → BS → Prop) (w : World) (b : Nat) (F : List Nat) (s' : BS) (d : ED) (code : Int) (e : Ending) (w' : World) : Prop :=
  ∃ Ad cd Ai ci, e = .returned (.tuple #[.agg #[.int .i64 d.at_, .slice Ad d.del.length cd, .slice Ai d.ins.length ci], .int .i64 code]) ∧ Row w' 21 1 (.slice Ad d.del.length cd) d.del.length (ns .i32 d.del) ∧ Row w' 21 1 (.slice Ai d.ins.length ci) d.ins.length (ns .i32 d.ins) ∧
    Keeps F w w' ∧ ∃ F', (∀ k, k ∈ F' → k ∈ F ∨ w.heap.size ≤ k) ∧ St w' b F' s' ∧ (∀ k, k ∈ fp (.slice Ad d.del.length cd) → w.heap.size ≤ k ∧ k ∉ F') ∧ (∀ k, k ∈ fp (.slice Ai d.ins.length ci) → w.heap.size ≤ k ∧ k ∉ F' ∧ k ∉ fp (.slice Ad d.del.length cd))

theorem did_refused {w w' : World} {b : Nat} {F : List Nat} {s : BS} {code : Int} {e : Ending} (h : BAt w b F s) (hr : Refused w code e w') : Did BAt w b F s ⟨0, [], []⟩ code e w' := by
  obtain ⟨rfl, hk⟩ := hr
  exact ⟨none, 0, none, 0, rfl, Row.nil _ _ _ _, Row.nil _ _ _ _, hk.mono (fun _ h => by simp at h), F, fun k hk => .inl hk, h.keeps hk (by simp), fun k hk => by simp [fp] at hk, fun k hk => by simp [fp] at hk⟩

theorem BReplace_calls (w : World) (b : Nat) (F : List Nat) (s : BS) (f t : Int) (A : Option Addr) (c : Nat) (l : List Int) (h : BAt w b F s) (hf : In64 f) (ht : In64 t) (hl : l.length ≤ 70368744177664) (hsrc : Src w A (ns .i32 l)) (hsF : ∀ a, A = some a → 0 < (ns .i32 l).length → a.block ∉ F) :
    Calls Tryd.prog 13 #[.pointer (some ⟨b, 0, none⟩), .int .i64 f, .int .i64 t, .slice A l.length c] w (Did BAt w b F (s.after f t l) (s.edit f t l) (s.err f t l.length)) := by
  by_cases hbad : f < 0 ∨ (s.l.length : Int) < f ∨ t < f ∨ (s.l.length : Int) < t
  · have he : s.err f t l.length = 70 := by simp only [BS.err, if_pos hbad]
    have e1 : s.after f t l = s := by simp [BS.after, he]
    have e2 : s.edit f t l = ⟨0, [], []⟩ := by simp [BS.edit, he]
    rw [he, e1, e2]
    exact (BReplace_place w b F s f t A l.length c h hf.1 hf.2 ht.1 ht.2 hbad).mono fun e w' hr => did_refused h hr
  · obtain ⟨fn, rfl⟩ : ∃ fn : Nat, f = fn := ⟨f.toNat, by omega⟩
    obtain ⟨tn, rfl⟩ : ∃ tn : Nat, t = tn := ⟨t.toNat, by omega⟩
    by_cases hlong : 1024 < s.l.length - (tn - fn) + l.length
    · have he : s.err fn tn l.length = 3 := by simp only [BS.err, if_neg hbad, Int.toNat_natCast, if_pos hlong]
      have e1 : s.after fn tn l = s := by simp [BS.after, he]
      have e2 : s.edit fn tn l = ⟨0, [], []⟩ := by simp [BS.edit, he]
      rw [he, e1, e2]
      exact (BReplace_long w b F s fn tn A l.length c h (by omega) (by omega) hlong (by omega)).mono fun e w' hr => did_refused h hr
    · have he : s.err fn tn l.length = 0 := by simp only [BS.err, if_neg hbad, Int.toNat_natCast, if_neg hlong]
      have e1 : s.after fn tn l = s.splice fn tn l := by simp [BS.after, he]
      have e2 : s.edit fn tn l = ⟨fn, (s.l.drop fn).take (tn - fn), l⟩ := by simp [BS.edit, he]
      have e3 : ((s.l.drop fn).take (tn - fn)).length = tn - fn := by simp; omega
      rw [he, e1, e2]
      refine (BReplace_ok w b F s fn tn A c l h (by omega) (by omega) (by omega) hsrc hsF).mono fun e w' hr => ?_
      obtain ⟨Ad, cd, Ai, ci, rfl, hd, hi, hk, F', hF', hb, hfd, hfi⟩ := hr
      refine ⟨Ad, cd, Ai, ci, by simp only [e3], by simp only [e3]; exact hd, hi, hk, F', hF', hb, ?_, ?_⟩
      · simp only [e3]; exact hfd
      · simp only [e3]; exact hfi

/-- What lies in the cell of a named result goes out with it. -/
theorem did_out {St : World → Nat → List Nat → BS → Prop} (hst : ∀ {w w' : World} {b : Nat} {F : List Nat} {s : BS} {G : List Nat}, St w b F s → Keeps G w w' → (∀ i, i ∈ F → i ∉ G) → St w' b F s)
    {w w2 : World} {b : Nat} {F : List Nat} {s' : BS} {d : ED} {code : Int} {Ad Ai : Option Addr} {cd ci : Nat} {o : Obj}
    (hlt : ∀ k, k ∈ F → k < w.heap.size)
    (hd : Row w2 21 1 (.slice Ad d.del.length cd) d.del.length (ns .i32 d.del)) (hi : Row w2 21 1 (.slice Ai d.ins.length ci) d.ins.length (ns .i32 d.ins))
    (hk : Keeps F (w.alloc o) w2) (F' : List Nat) (hF' : ∀ k, k ∈ F' → k ∈ F ∨ (w.alloc o).heap.size ≤ k) (hs : St w2 b F' s')
    (hfd : ∀ k, k ∈ fp (.slice Ad d.del.length cd) → (w.alloc o).heap.size ≤ k ∧ k ∉ F') (hfi : ∀ k, k ∈ fp (.slice Ai d.ins.length ci) → (w.alloc o).heap.size ≤ k ∧ k ∉ F' ∧ k ∉ fp (.slice Ad d.del.length cd)) (u v x : Value) :
    Did St w b F s' d code (.returned (.tuple #[.agg #[.int .i64 d.at_, .slice Ad d.del.length cd, .slice Ai d.ins.length ci], .int .i64 code])) (((w2.setCell ⟨w.heap.size, 0, none⟩ u).setCell ⟨w.heap.size, 1, none⟩ v).setCell ⟨w.heap.size, 2, none⟩ x) := by
  have hz : (w.alloc o).heap.size = w.heap.size + 1 := by simp
  have hk0 := (Keeps.refl [] w).alloc o
  have hkn : Keeps F w w2 := (hk0.mono (fun _ hk => by simp at hk)).trans hk
  have hW : Keeps [w.heap.size] w2 (((w2.setCell ⟨w.heap.size, 0, none⟩ u).setCell ⟨w.heap.size, 1, none⟩ v).setCell ⟨w.heap.size, 2, none⟩ x) :=
    (((Keeps.refl _ w2).setCell _ _ (.inl (by simp))).setCell _ _ (.inl (by simp))).setCell _ _ (.inl (by simp))
  refine ⟨Ad, cd, Ai, ci, rfl, hd.keeps hW (fun k hk => ?_), hi.keeps hW (fun k hk => ?_), hkn.then hW (fun k hk => .inr (by simp at hk; omega)), F', fun k hk => ?_, hst hs hW (fun k hk => ?_), fun k hk => ?_, fun k hk => ?_⟩
  · have := hfd k hk; simp; omega
  · have := hfi k hk; simp; omega
  · rcases hF' k hk with h1 | h1
    · exact .inl h1
    · exact .inr (by omega)
  · rcases hF' k hk with h1 | h1
    · have := hlt k h1; simp; omega
    · simp; omega
  · have := hfd k hk; exact ⟨by omega, this.2⟩
  · have := hfi k hk; exact ⟨by omega, this.2⟩

set_option maxRecDepth 100000 in
theorem BInsert_calls (w : World) (b : Nat) (F : List Nat) (s : BS) (A : Option Addr) (c : Nat) (l : List Int) (h : BAt w b F s) (hl : l.length ≤ 70368744177664) (hsrc : Src w A (ns .i32 l)) (hsF : ∀ a, A = some a → 0 < (ns .i32 l).length → a.block ∉ F) :
    Calls Tryd.prog 19 #[.pointer (some ⟨b, 0, none⟩), .slice A l.length c] w (Did BAt w b F (s.after s.point s.point l) (s.edit s.point s.point l) (s.err s.point s.point l.length)) := by
  have hk0 := (Keeps.refl [] w).alloc (.cells #[.int .i64 0, .slice none 0 0, .slice none 0 0] 24)
  have hr0 := blk_new w (.cells #[.int .i64 0, .slice none 0 0, .slice none 0 0] 24)
  have hp : In64 s.point := by
    obtain ⟨lv, N, fr, ub, xs, hb, rfl⟩ := h
    have := hb.pt1; have := hb.pt0; have := hb.short
    exact ⟨by omega, by omega⟩
  have hlt := h.lt
  have h0 := h.keeps hk0 (by simp)
  have hsrc0 := hsrc.keeps hk0 (by simp)
  go_enter Tryd.func19, Tryd.ntmps19
  go_wp2_with (go_at_call 23; refine (BPoint_calls _ b F _ h0).mono ?_; rintro e w' ⟨rfl, rfl⟩)
  refine (BReplace_calls _ b F s s.point s.point A c l h0 hp hp hl hsrc0 hsF).mono ?_
  rintro e w2 ⟨Ad, cd, Ai, ci, rfl, hd, hi, hk, F', hF', hb', hfd, hfi⟩
  have hr2 := hk.blk hr0 (fun hh => by have := hlt _ hh; omega)
  obtain ⟨r0, r1, r2, s0, s1, s2⟩ := three hr2
  go_wp2_with fail
  exact bodyPost_ret (v := .tuple #[.agg #[.int .i64 (s.edit s.point s.point l).at_, .slice Ad _ cd, .slice Ai _ ci], .int .i64 _]) (by simp [results, Tryd.results19, go_sem, r0, r1, r2]) rfl (did_out (St := BAt) (fun h k hd => h.keeps k hd) hlt hd hi hk F' hF' hb' hfd hfi _ _ _)

set_option maxRecDepth 100000 in
theorem BDelete_calls (w : World) (b : Nat) (F : List Nat) (s : BS) (f t : Int) (h : BAt w b F s) (hf : In64 f) (ht : In64 t) :
    Calls Tryd.prog 41 #[.pointer (some ⟨b, 0, none⟩), .int .i64 f, .int .i64 t] w (Did BAt w b F (s.after f t []) (s.edit f t []) (s.err f t 0)) := by
  have hk0 := (Keeps.refl [] w).alloc (.cells #[.int .i64 0, .slice none 0 0, .slice none 0 0] 24)
  have hr0 := blk_new w (.cells #[.int .i64 0, .slice none 0 0, .slice none 0 0] 24)
  have hlt := h.lt
  have h0 := h.keeps hk0 (by simp)
  go_enter Tryd.func41, Tryd.ntmps41
  go_wp2_with fail
  refine (BReplace_calls _ b F s f t none 0 [] h0 hf ht (by simp) (Src.nil _ _) (fun a ha => by cases ha)).mono ?_
  rintro e w2 ⟨Ad, cd, Ai, ci, rfl, hd, hi, hk, F', hF', hb', hfd, hfi⟩
  have hr2 := hk.blk hr0 (fun hh => by have := hlt _ hh; omega)
  obtain ⟨r0, r1, r2, s0, s1, s2⟩ := three hr2
  go_wp2_with fail
  exact bodyPost_ret (v := .tuple #[.agg #[.int .i64 (s.edit f t []).at_, .slice Ad _ cd, .slice Ai _ ci], .int .i64 _]) (by simp [results, Tryd.results41, go_sem, r0, r1, r2]) rfl (did_out (St := BAt) (fun h k hd => h.keeps k hd) hlt hd hi hk F' hF' hb' hfd hfi _ _ _)
end Go.Proofs.YtmnmdpgckefefaaDoor.Buf
