/- macro.Recorder: what its methods come to, over a recorder's state, in whatever memory. -/
import Derived.Test.YtjmkgpagcefbjaaMac
import Derived.Lib.ConvBytes
namespace Go.Proofs.Ytjmkgpagcefbjaa.Rec
open Go Go.RowKit Go.Proofs.Ytjmkgpagcefbjaa.Rw Go.Proofs.Ytjmkgpagcefbjaa.Mac

/-- string(b) of a slice that is read. -/
theorem conv_string {P : Program} {w : World} (src dst e : TypeId) {A : Option Addr} {c : Nat} {l : List UInt8} (hs : P.underlying src = some (.slice e)) (he : P.underlying e = some (.int .u8)) (hd : P.underlying dst = some .string)
    (h : Src w A (bs l)) : (convert src dst (.slice A l.length c)).run P w = .ok (.string ⟨l.toArray⟩) w := by
  cases A with
  | none =>
    have : l = [] := by
      cases l with
      | nil => rfl
      | cons x r => obtain ⟨ad, h, _⟩ := h 0 (.int .u8 x.toNat) rfl; cases h
    subst this
    exact run_convert_bytes_nil w src e hs he 0 c dst hd
  | some a =>
    refine run_convert_bytes_back w src dst e a c l hs he hd fun j hj => ?_
    obtain ⟨ad, h, hc⟩ := h j (.int .u8 l[j].toNat) (by simp [bs, hj])
    cases h; exact hc

/-- []byte(s): in a new block. -/
theorem conv_bytes {P : Program} (src dst e : TypeId) (l : List UInt8) (hs : P.underlying src = some .string) (hd : P.underlying dst = some (.slice e)) (he : P.underlying e = some (.int .u8)) (w : World) :
    (convert src dst (.string ⟨l.toArray⟩)).run P w = .ok (.slice (some ⟨w.heap.size, 0, none⟩) l.length (grownCap w l.length 0 e)) (Lib.bytesWorld w e ⟨l.toArray⟩) := by
  have hz : (ByteArray.mk l.toArray).size = l.length := by simp [ByteArray.size]
  have h := Lib.run_convert_string_bytes (P := P) w src dst e ⟨l.toArray⟩ hs hd he
  rw [hz] at h
  exact h
theorem bytesWorld_keeps (w : World) (e : TypeId) (s : ByteArray) : Keeps [] w (Lib.bytesWorld w e s) :=
  ⟨rfl, rfl, rfl, by rw [Lib.bytesWorld_size]; omega, fun k hk _ => Lib.bytesWorld_at_old w e s k hk⟩
theorem bytesWorld_src (w : World) (e : TypeId) (l : List UInt8) : Src (Lib.bytesWorld w e ⟨l.toArray⟩) (some ⟨w.heap.size, 0, none⟩) (bs l) := by
  intro j u hj
  have hjl : j < l.length := by have := (List.getElem?_eq_some_iff.1 hj).1; simpa [bs] using this
  refine ⟨_, rfl, ?_⟩
  rw [add_at, Nat.zero_add, Lib.bytesWorld_cell w e ⟨l.toArray⟩ j (by simpa [ByteArray.size] using hjl)]
  simp [bs, hjl] at hj
  subst hj
  simp [List.getD, hjl]
structure RS where
  now : List UInt8
  on : Bool
  last : List UInt8
  is : Bool

structure RIn (w : World) (b : Nat) (nv : Value) (r : RS) : Prop where
  blk : w.heap[b]? = some (.cells #[nv, .bool r.on, .string ⟨r.last.toArray⟩, .bool r.is, .bool true] 58 (0, 0))
  now : Row w 5 1 nv r.now.length (bs r.now)
def RAt (w : World) (b : Nat) (F : List Nat) (r : RS) : Prop := ∃ nv, RIn w b nv r ∧ F = b :: fp nv

section
variable {w w' : World} {b : Nat} {nv : Value} {r : RS} {F : List Nat}
theorem RIn.b_n (h : RIn w b nv r) : b ∉ fp nv := fun hk => by
  obtain ⟨cur, hc⟩ := h.now.fp_type b hk
  exact blk_ne h.blk hc (by decide) rfl
theorem RIn.stays (h : RIn w b nv r) (hk : ∀ k, k ∈ b :: fp nv → w'.heap[k]? = w.heap[k]?) : RIn w' b nv r :=
  ⟨(hk b (by simp)).trans h.blk, h.now.stays fun k hm => hk k (by simp [hm])⟩
theorem RAt.lt (h : RAt w b F r) : ∀ k, k ∈ F → k < w.heap.size := by
  obtain ⟨nv, h, rfl⟩ := h
  intro k hk
  rcases List.mem_cons.1 hk with rfl | hk
  · exact blk_lt h.blk
  · exact h.now.fp_lt k hk
theorem RAt.stays (h : RAt w b F r) (hk : ∀ k, k ∈ F → w'.heap[k]? = w.heap[k]?) : RAt w' b F r := by
  obtain ⟨nv, h, rfl⟩ := h
  exact ⟨nv, h.stays hk, rfl⟩
theorem RAt.keeps {G : List Nat} (h : RAt w b F r) (k : Keeps G w w') (hd : ∀ i, i ∈ F → i ∉ G) : RAt w' b F r :=
  h.stays fun i hi => k.block i (h.lt i hi) (hd i hi)
/-- What a method leaves. -/
def RLeft (w w' : World) (b : Nat) (F : List Nat) (r : RS) : Prop := Keeps F w w' ∧ ∃ F', (∀ k, k ∈ F' → k ∈ F ∨ w.heap.size ≤ k) ∧ RAt w' b F' r
theorem RLeft.refl (h : RAt w b F r) : RLeft w w b F r := ⟨Keeps.refl _ _, F, fun _ hk => .inl hk, h⟩
theorem RLeft.trans {w1 w2 : World} {r2 : RS} (h : RLeft w w1 b F r) (h2 : ∀ F', RAt w1 b F' r → RLeft w1 w2 b F' r2) : RLeft w w2 b F r2 := by
  obtain ⟨h0, F', h1, hq⟩ := h
  obtain ⟨k0, F2, k1, kq⟩ := h2 F' hq
  refine ⟨h0.then k0 h1, F2, fun k hk => ?_, kq⟩
  rcases k1 k hk with h | h
  · exact h1 k h
  · exact .inr (by have := h0.size; omega)
theorem RLeft.keeps {w1 w2 : World} {G : List Nat} (h : RLeft w w1 b F r) (k : Keeps G w1 w2) (hg : ∀ i, i ∈ G → w.heap.size ≤ i) (hd : ∀ i, i ∈ G → ∀ F', RAt w1 b F' r → (∀ k, k ∈ F' → k ∈ F ∨ w.heap.size ≤ k) → i ∉ F') : RLeft w w2 b F r := by
  obtain ⟨h0, F', h1, hq⟩ := h
  exact ⟨h0.then k (fun i hi => .inr (hg i hi)), F', h1, hq.keeps k fun i hi hi' => hd i hi' F' hq h1 hi⟩
theorem RIn.five (h : RIn w b nv r) :
    w.cell? ⟨b, 0, none⟩ = some nv ∧ w.cell? ⟨b, 1, none⟩ = some (.bool r.on) ∧ w.cell? ⟨b, 2, none⟩ = some (.string ⟨r.last.toArray⟩) ∧ w.cell? ⟨b, 3, none⟩ = some (.bool r.is) ∧ w.cell? ⟨b, 4, none⟩ = some (.bool true) ∧
    w.frozen? ⟨b, 0, none⟩ = false ∧ w.frozen? ⟨b, 1, none⟩ = false ∧ w.frozen? ⟨b, 2, none⟩ = false ∧ w.frozen? ⟨b, 3, none⟩ = false :=
  ⟨blk_cell h.blk 0, blk_cell h.blk 1, blk_cell h.blk 2, blk_cell h.blk 3, blk_cell h.blk 4, blk_frozen h.blk 0, blk_frozen h.blk 1, blk_frozen h.blk 2, blk_frozen h.blk 3⟩
/-- The recording is let go of: nil, and on or off. -/
theorem RIn.cleared {u : Value} (h : RIn w b nv r) (o : Bool) (ho : u = .bool o) : RLeft w ((w.setCell ⟨b, 1, none⟩ u).setCell ⟨b, 0, none⟩ (.slice none 0 0)) b (b :: fp nv) { r with now := [], on := o } := by
  subst ho
  refine ⟨((Keeps.refl _ _).setCell _ _ (.inl (by simp))).setCell _ _ (.inl (by simp)), [b], fun k hk => .inl (by simp at hk; simp [hk]), .slice none 0 0, ⟨?_, Row.nil _ _ _ _⟩, rfl⟩
  exact blk_set (blk_set h.blk 1 (.bool o)) 0 (.slice none 0 0)
end

theorem RNew_calls (w : World) : Calls Try.prog 13 #[] w (fun e w' => e = .returned (.pointer (some ⟨w.heap.size, 0, none⟩)) ∧ Keeps [] w w' ∧ RAt w' w.heap.size [w.heap.size] ⟨[], false, [], false⟩) := by
  have hk : Keeps [] w (w.alloc (.cells #[.slice none 0 0, .bool false, .string ⟨#[]⟩, .bool false, .bool true] 58)) := (Keeps.refl _ _).alloc _
  have hq : RAt (w.alloc (.cells #[.slice none 0 0, .bool false, .string ⟨#[]⟩, .bool false, .bool true] 58)) w.heap.size [w.heap.size] ⟨[], false, [], false⟩ :=
    ⟨_, ⟨blk_new w _, Row.nil _ _ _ _⟩, rfl⟩
  go_enter Try.func13, Try.ntmps13
  go_wp2
  go_ret
  exact ⟨rfl, hk, hq⟩

def RS.start (r : RS) : Int × RS := if r.on then (6, r) else (0, { r with now := [], on := true })
theorem RStart_calls (w : World) (b : Nat) (F : List Nat) (r : RS) (h : RAt w b F r) :
    Calls Try.prog 14 #[.pointer (some ⟨b, 0, none⟩)] w (Said (.int .i64 r.start.1) fun w' => RLeft w w' b F r.start.2) := by
  have h' := h
  obtain ⟨nv, h, rfl⟩ := h
  obtain ⟨c0, c1, c2, c3, c4, f0, f1, f2, f3⟩ := h.five
  cases hon : r.on with
  | true =>
    have Hq : Hid (r.start = (6, r)) := by simp only [Hid, RS.start, hon, if_true]
    rw [hon] at c1
    clear hon
    go_enter Try.func14, Try.ntmps14
    go_wp2
    go_ret
    rw [Hq.out]
    exact ⟨rfl, RLeft.refl h'⟩
  | false =>
    have Hq : Hid (r.start = (0, { r with now := [], on := true })) := by simp [Hid, RS.start, hon]
    rw [hon] at c1
    clear hon
    go_enter Try.func14, Try.ntmps14
    go_wp2
    go_ret
    rw [Hq.out]
    exact ⟨rfl, h.cleared true rfl⟩

theorem ROn_calls (w : World) (b : Nat) (F : List Nat) (r : RS) (h : RAt w b F r) :
    Calls Try.prog 17 #[.pointer (some ⟨b, 0, none⟩)] w fun e w' => e = .returned (.bool r.on) ∧ w = w' := by
  obtain ⟨nv, h, rfl⟩ := h
  obtain ⟨c0, c1, c2, c3, c4, f0, f1, f2, f3⟩ := h.five
  go_enter Try.func17, Try.ntmps17
  go_wp2
  go_ret
  exact ⟨rfl, rfl⟩

theorem RLast_calls (w : World) (b : Nat) (F : List Nat) (r : RS) (h : RAt w b F r) :
    Calls Try.prog 19 #[.pointer (some ⟨b, 0, none⟩)] w fun e w' => e = .returned (.tuple #[.string ⟨r.last.toArray⟩, .bool r.is]) ∧ Keeps [] w w' := by
  obtain ⟨nv, h, rfl⟩ := h
  obtain ⟨c0, c1, c2, c3, c4, f0, f1, f2, f3⟩ := h.five
  have hk := (Keeps.refl [] w).drew
  go_enter Try.func19, Try.ntmps19
  go_wp2
  go_region
  all_goals go_wp2
  all_goals go_ret2
  all_goals exact ⟨rfl, hk⟩

def RS.put (r : RS) (l : List UInt8) : Int × RS := if r.on then (if 128 < r.now.length + l.length then (3, { r with now := [], on := false }) else (0, { r with now := r.now ++ l })) else (6, r)
theorem RPut_calls (w : World) (b : Nat) (F : List Nat) (r : RS) (A : Option Addr) (c : Nat) (l : List UInt8) (h : RAt w b F r) (hs : Src w A (bs l)) (hl : l.length ≤ 9223372036854775000) (hn : r.now.length ≤ 128) :
    Calls Try.prog 16 #[.pointer (some ⟨b, 0, none⟩), .slice A l.length c] w (Said (.int .i64 (r.put l).1) fun w' => RLeft w w' b F (r.put l).2) := by
  have h' := h
  obtain ⟨nv, h, rfl⟩ := h
  obtain ⟨c0, c1, c2, c3, c4, f0, f1, f2, f3⟩ := h.five
  obtain ⟨nA, nc, rfl, n1, n2⟩ := h.now.slice
  have ht := h.now
  cases hon : r.on with
  | false =>
    have Hq : Hid (r.put l = (6, r)) := by simp [Hid, RS.put, hon]
    rw [hon] at c1
    clear hon
    go_enter Try.func16, Try.ntmps16
    go_wp2
    go_ret
    rw [Hq.out]
    exact ⟨rfl, RLeft.refl h'⟩
  | true =>
    by_cases hlong : 128 < r.now.length + l.length
    · have Hq : Hid (r.put l = (3, { r with now := [], on := false })) := by simp only [Hid, RS.put, hon, if_true, if_pos hlong]
      rw [hon] at c1
      clear hon
      go_enter Try.func16, Try.ntmps16
      go_wp2
      go_ret
      rw [Hq.out]
      exact ⟨rfl, h.cleared false rfl⟩
    · have Hq : Hid (r.put l = (0, { r with now := r.now ++ l })) := by simp only [Hid, RS.put, hon, if_true, if_neg hlong]
      have hcells : ∀ w1, Keeps (fp (.slice nA r.now.length nc)) w w1 → w1.heap[b]? = some (.cells #[.slice nA r.now.length nc, .bool r.on, .string ⟨r.last.toArray⟩, .bool r.is, .bool true] 58 (0, 0)) := fun w1 k => k.blk h.blk h.b_n
      have Hon := Lib.hid hon
      rw [hon] at c1
      clear hon
      go_enter Try.func16, Try.ntmps16
      go_wp2_with (first
        | (at_builtin; refine wpList_append_row rfl _ _ 22 rfl elBytes (.slice nA r.now.length nc) _ _ rfl ht A l.length c (bs l) rfl (by rw [bs_length, Nat.mul_one]) hs (bs_one l) (by unfold maxLen; omega) (by omega) ?_; intro A1 c1' w1 hrow1 hk1 hf1; have hb1 := hcells _ hk1; have d0 := blk_frozen hb1 0; have d1 : w1.cell? ⟨b, 0, none⟩ = some (.slice nA r.now.length nc) := blk_cell hb1 0)
        | go_in)
      go_ret
      rw [Hq.out]
      refine ⟨rfl, (hk1.mono fun k hk => .inl (List.mem_cons_of_mem _ hk)).setCell _ _ (.inl (by simp)), _, fun k hk => ?_, .slice A1 (r.now.length + l.length) c1', ⟨?_, ?_⟩, rfl⟩
      · rcases List.mem_cons.1 hk with rfl | hk
        · exact .inl (by simp)
        · rcases hf1 k hk with h1 | h1
          · exact .inl (List.mem_cons_of_mem _ h1)
          · exact .inr h1
      · exact blk_set hb1 0 (.slice A1 (r.now.length + l.length) c1')
      · rw [List.length_append, bs_append]
        refine Row.far hrow1 _ _ fun hx => ?_
        rcases hf1 b hx with h1 | h1
        · exact h.b_n h1
        · have := blk_lt h.blk; omega

def RS.stop (r : RS) : Int × RS := if r.on then (0, { now := [], on := false, last := r.now, is := true }) else (6, r)
theorem REnd_calls (w : World) (b : Nat) (F : List Nat) (r : RS) (h : RAt w b F r) :
    Calls Try.prog 18 #[.pointer (some ⟨b, 0, none⟩)] w (Said (.int .i64 r.stop.1) fun w' => RLeft w w' b F r.stop.2) := by
  have h' := h
  obtain ⟨nv, h, rfl⟩ := h
  obtain ⟨c0, c1, c2, c3, c4, f0, f1, f2, f3⟩ := h.five
  cases hon : r.on with
  | false =>
    have Hq : Hid (r.stop = (6, r)) := by simp [Hid, RS.stop, hon]
    rw [hon] at c1
    clear hon
    go_enter Try.func18, Try.ntmps18
    go_wp2
    go_ret
    rw [Hq.out]
    exact ⟨rfl, RLeft.refl h'⟩
  | true =>
    have Hq : Hid (r.stop = (0, { now := [], on := false, last := r.now, is := true })) := by simp [Hid, RS.stop, hon]
    rw [hon] at c1
    clear hon
    obtain ⟨nA, nc, rfl, n1, n2, hsrc, _⟩ := h.now.src
    have kc := conv_string (P := Try.prog) (w := w) 22 9 5 (c := nc) Try.underlying22 Try.underlying5 Try.underlying9 hsrc
    go_enter Try.func18, Try.ntmps18
    go_wp2
    go_ret
    rw [Hq.out]
    refine ⟨rfl, ((((Keeps.refl _ _).setCell _ _ (.inl (by simp))).setCell _ _ (.inl (by simp))).setCell _ _ (.inl (by simp))).setCell _ _ (.inl (by simp)), [b], fun k hk => .inl (by simp at hk; simp [hk]), .slice none 0 0, ⟨?_, Row.nil _ _ _ _⟩, rfl⟩
    exact blk_set (blk_set (blk_set (blk_set h.blk 2 (.string ⟨r.now.toArray⟩)) 3 (.bool true)) 1 (.bool false)) 0 (.slice none 0 0)
end Go.Proofs.Ytjmkgpagcefbjaa.Rec
