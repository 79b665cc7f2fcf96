/- ucell.Decoder: Flush; what is told in pieces is what is told at once. -/
import Derived.Test.YtobogbjpdagklaaDoorLive
namespace Go.Proofs.YtobogbjpdagklaaDoor.Dec
open Go Go.RowKit Go.Proofs.YtobogbjpdagklaaDoor.Rw

/-- What Flush leaves. -/
def FlushD (w w' : World) (b : Nat) (F : List Nat) (e : Ending) (xs : List Int) : Prop :=
  ∃ A c, e = .returned (.slice A xs.length c) ∧ Row w' 21 1 (.slice A xs.length c) xs.length (ns .i32 xs) ∧ Keeps F w w' ∧ DAt w' b [b] [] ∧ ∀ k, k ∈ fp (.slice A xs.length c) → w.heap.size ≤ k
set_option maxRecDepth 100000 in
theorem DFlush_calls (w : World) (hT : UTabs w) (b : Nat) (F : List Nat) (l : List UInt8) (h : DAt w b F l) (hb : l.length * 4 ≤ 140737488355328) :
    Calls Tryd.prog 25 #[.pointer (some ⟨b, 0, none⟩)] w fun e w' => FlushD w w' b F e (runesOf l) := by
  have hbs : b < w.heap.size := by obtain ⟨bv, h, rfl⟩ := h; exact blk_lt h.blk
  obtain ⟨bv, h, rfl⟩ := h
  obtain ⟨A, c, rfl, h1, h2, hs, _⟩ := h.row.src
  have c0 := blk_cell h.blk 0
  have c1 := blk_cell h.blk 1
  have hblk := h.blk
  unfold maxLen at h2
  have Hs := Lib.hid hs; clear hs h
  go_enter Tryd.func25, Tryd.ntmps25
  go_wp2_with (go_at_call 47; refine (DNone_calls _ b true c0).mono ?_; rintro e w' ⟨rfl, rfl⟩)
  refine (Runes_calls w hT A c l Hs.out h1 h2 hb).mono ?_
  rintro e w1 ⟨A1, cc, rfl, hrow, hk1, hf1⟩
  have hb1 := hk1.blk hblk (by simp)
  have f1 := blk_frozen hb1 1
  have d1 := blk_cell hb1 1
  go_wp2
  go_ret
  refine ⟨A1, cc, rfl, hrow.far _ _ (fun hm => by have := hf1 b hm; omega), (hk1.mono (fun k hk => by simp at hk)).setCell _ _ (.inl (List.mem_cons_self)), ⟨.slice none 0 0, ⟨blk_set hb1 1 _, Row.nil _ _ _ _⟩, rfl⟩, hf1⟩

set_option maxRecDepth 100000 in
set_option maxHeartbeats 4000000 in
theorem app1 (a n b c d : Nat) (h2 : a < 194 ∨ 245 ≤ a) (ha : a < 256) : Lib.decodeN n a b c d = Lib.decodeN 1 a 0 0 0 := by
  unfold Lib.decodeN
  repeat' split
  all_goals first | (exfalso; omega) | rfl
set_option maxRecDepth 100000 in
set_option maxHeartbeats 4000000 in
theorem app2 (a n b c d : Nat) (hn : 2 ≤ n) (ha : a < 256) (hb : b < 256)
    (h2 : a < 224 ∨ 245 ≤ a ∨ (a = 224 ∧ (b < 160 ∨ 191 < b)) ∨ (a = 237 ∧ (b < 128 ∨ 159 < b)) ∨ (a = 240 ∧ (b < 144 ∨ 191 < b)) ∨ (a = 244 ∧ (b < 128 ∨ 143 < b)) ∨ b < 128 ∨ 191 < b) : Lib.decodeN n a b c d = Lib.decodeN 2 a b 0 0 := by
  unfold Lib.decodeN
  repeat' split
  all_goals first | (exfalso; omega) | rfl
set_option maxRecDepth 100000 in
set_option maxHeartbeats 4000000 in
theorem app3 (a n b c d : Nat) (hn : 3 ≤ n) (ha : a < 256) (hb : b < 256) (hc : c < 256)
    (h2 : a < 240 ∨ 245 ≤ a ∨ (a = 240 ∧ (b < 144 ∨ 191 < b)) ∨ (a = 244 ∧ (b < 128 ∨ 143 < b)) ∨ (b < 128 ∨ 191 < b) ∨ (c < 128 ∨ 191 < c)) : Lib.decodeN n a b c d = Lib.decodeN 3 a b c 0 := by
  unfold Lib.decodeN
  repeat' split
  all_goals first | (exfalso; omega) | rfl
set_option maxRecDepth 100000 in
set_option maxHeartbeats 4000000 in
theorem app4 (a n m b c d : Nat) (hn : 4 ≤ n) (hm : 4 ≤ m) : Lib.decodeN n a b c d = Lib.decodeN m a b c d := by
  have e1 : (1 < n) = (1 < m) := propext ⟨fun _ => by omega, fun _ => by omega⟩
  have e2 : (2 < n) = (2 < m) := propext ⟨fun _ => by omega, fun _ => by omega⟩
  have e3 : (3 < n) = (3 < m) := propext ⟨fun _ => by omega, fun _ => by omega⟩
  simp only [Lib.decodeN, e1, e2, e3]
theorem cls1 (a : Nat) (ha : a < 256) (h : Lib.firstT a % 8 ≤ 1) : a < 194 ∨ 245 ≤ a := by
  unfold Lib.firstT at h
  repeat' split at h
  all_goals omega
theorem cls2 (a b : Nat) (ha : a < 256) (h : Lib.firstT a % 8 ≤ 2 ∨ (b < Lib.accLo (Lib.firstT a / 16) ∨ Lib.accHi (Lib.firstT a / 16) < b)) :
    a < 224 ∨ 245 ≤ a ∨ (a = 224 ∧ (b < 160 ∨ 191 < b)) ∨ (a = 237 ∧ (b < 128 ∨ 159 < b)) ∨ (a = 240 ∧ (b < 144 ∨ 191 < b)) ∨ (a = 244 ∧ (b < 128 ∨ 143 < b)) ∨ b < 128 ∨ 191 < b := by
  unfold Lib.firstT at h
  repeat' split at h
  all_goals first | omega | (simp [Lib.accLo, Lib.accHi] at h; omega)
theorem cls3 (a b c : Nat) (ha : a < 256) (h : Lib.firstT a % 8 ≤ 3 ∨ (b < Lib.accLo (Lib.firstT a / 16) ∨ Lib.accHi (Lib.firstT a / 16) < b) ∨ (c < 128 ∨ 191 < c)) :
    a < 240 ∨ 245 ≤ a ∨ (a = 240 ∧ (b < 144 ∨ 191 < b)) ∨ (a = 244 ∧ (b < 128 ∨ 143 < b)) ∨ (b < 128 ∨ 191 < b) ∨ (c < 128 ∨ 191 < c) := by
  unfold Lib.firstT at h
  repeat' split at h
  all_goals first | omega | (simp [Lib.accLo, Lib.accHi] at h; omega)
theorem dec_app (l x : List UInt8) (h : full l = true) : dec (l ++ x) = dec l := by
  match l, h with
  | [], h => simp [full] at h
  | [a], h =>
    have h1 : Lib.firstT a.toNat % 8 ≤ 1 := by simp [full] at h; exact h
    exact app1 _ _ _ _ _ (cls1 _ a.toBitVec.isLt h1) a.toBitVec.isLt
  | [a, b], h =>
    have h1 : Lib.firstT a.toNat % 8 ≤ 2 ∨ (b.toNat < Lib.accLo (Lib.firstT a.toNat / 16) ∨ Lib.accHi (Lib.firstT a.toNat / 16) < b.toNat) := by
      by_cases h0 : Lib.firstT a.toNat % 8 ≤ 2
      · exact .inl h0
      · right
        by_cases h9 : b.toNat < Lib.accLo (Lib.firstT a.toNat / 16) ∨ Lib.accHi (Lib.firstT a.toNat / 16) < b.toNat
        · exact h9
        · simp [full, h0, h9] at h
    exact app2 _ _ _ _ _ (by simp) a.toBitVec.isLt b.toBitVec.isLt (cls2 _ _ a.toBitVec.isLt h1)
  | [a, b, c], h =>
    have h1 : Lib.firstT a.toNat % 8 ≤ 3 ∨ (b.toNat < Lib.accLo (Lib.firstT a.toNat / 16) ∨ Lib.accHi (Lib.firstT a.toNat / 16) < b.toNat) ∨ (c.toNat < 128 ∨ 191 < c.toNat) := by
      by_cases h0 : Lib.firstT a.toNat % 8 ≤ 3
      · exact .inl h0
      · right
        by_cases h9 : b.toNat < Lib.accLo (Lib.firstT a.toNat / 16) ∨ Lib.accHi (Lib.firstT a.toNat / 16) < b.toNat
        · exact .inl h9
        · right
          by_cases h8 : c.toNat < 128 ∨ 191 < c.toNat
          · exact h8
          · simp [full, h0, h9, h8] at h
    exact app3 _ _ _ _ _ (by simp) a.toBitVec.isLt b.toBitVec.isLt c.toBitVec.isLt (cls3 _ _ _ a.toBitVec.isLt h1)
  | a :: b :: c :: d :: r, h => exact app4 _ _ _ _ _ _ (by simp) (by simp)
theorem runesOf_split : ∀ (n : Nat) (l x : List UInt8), l.length ≤ n → runesOf (l ++ x) = (drain l).1 ++ runesOf ((drain l).2 ++ x)
  | 0, l, x, hn => by
    obtain rfl : l = [] := List.eq_nil_of_length_eq_zero (by omega)
    rfl
  | n + 1, l, x, hn => by
    by_cases hf : full l = true
    · have hne := full_ne hf
      have hp := dec_pos l
      have hle := dec_le l hne
      rw [drain_full l hf, runesOf_cons (l ++ x) (by simp [hne]), dec_app l x hf, List.drop_append_of_le_length hle, runesOf_split n (l.drop (dec l).2) x (by rw [List.length_drop]; omega)]
      rfl
    · have hf' : full l = false := by simpa using hf
      rw [drain_not l hf']
      rfl
theorem drain_rest : ∀ (n : Nat) (l : List UInt8), l.length ≤ n → full (drain l).2 = false ∧ (drain l).1.length + (drain l).2.length ≤ l.length
  | 0, l, hn => by
    obtain rfl : l = [] := List.eq_nil_of_length_eq_zero (by omega)
    exact ⟨rfl, by simp [drain, drainF]⟩
  | n + 1, l, hn => by
    by_cases hf : full l = true
    · have hne := full_ne hf
      have hp := dec_pos l
      have hle := dec_le l hne
      have ih := drain_rest n (l.drop (dec l).2) (by rw [List.length_drop]; omega)
      rw [List.length_drop] at ih
      rw [drain_full l hf]
      refine ⟨ih.1, ?_⟩
      simp only [List.length_cons]
      omega
    · have hf' : full l = false := by simpa using hf
      rw [drain_not l hf']
      exact ⟨hf', by simp⟩
theorem drain_held (l : List UInt8) : (drain l).2.length ≤ 3 := by
  have h := (drain_rest _ l (Nat.le_refl _)).1
  by_cases h4 : 4 ≤ (drain l).2.length
  · rw [full_long _ h4] at h; cases h
  · omega
end Go.Proofs.YtobogbjpdagklaaDoor.Dec
