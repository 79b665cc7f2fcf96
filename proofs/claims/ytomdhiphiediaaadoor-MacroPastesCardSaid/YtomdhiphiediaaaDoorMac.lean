/- macro.Queue: what its methods come to, over a queue's state (typed bytes, macros, run), in whatever memory. -/
import Derived.Test.YtomdhiphiediaaaDoorProg
import Derived.Test.YtomdhiphiediaaaDoorRowOps
import Derived.KernelRfl
import Derived.Lib.Hide
namespace Go.Proofs.YtomdhiphiediaaaDoor.Mac
open Go Go.RowKit Go.Proofs.YtomdhiphiediaaaDoor.Rw

/-- The state of a queue. -/
structure QS where
  typed : List UInt8
  macros : List (List UInt8)
  run : Int

/-- Slice values that own one list of bytes each. -/
def Rows2 (w : World) : List Value → List (List UInt8) → Prop
  | [], [] => True
  | v :: vs, l :: ls => Row w 5 1 v l.length (bs l) ∧ Rows2 w vs ls
  | _, _ => False
theorem Rows2.len {w : World} : ∀ {vs : List Value} {ls : List (List UInt8)}, Rows2 w vs ls → vs.length = ls.length
  | [], [], _ => rfl
  | _ :: _, _ :: _, h => by simp [Rows2.len h.2]
  | [], _ :: _, h => h.elim
  | _ :: _, [], h => h.elim
theorem Rows2.stays {w w' : World} : ∀ {vs : List Value} {ls : List (List UInt8)}, Rows2 w vs ls → (∀ k, k ∈ vs.flatMap fp → w'.heap[k]? = w.heap[k]?) → Rows2 w' vs ls
  | [], [], _, _ => trivial
  | v :: vs, l :: ls, h, hk => ⟨h.1.stays fun k hm => hk k (by simp [List.flatMap_cons, hm]), Rows2.stays h.2 fun k hm => hk k (by rw [List.flatMap_cons]; exact List.mem_append_right _ hm)⟩
  | [], _ :: _, h, _ => h.elim
  | _ :: _, [], h, _ => h.elim
theorem Rows2.lt {w : World} : ∀ {vs : List Value} {ls : List (List UInt8)}, Rows2 w vs ls → ∀ k, k ∈ vs.flatMap fp → k < w.heap.size
  | [], [], _, k, hk => by simp at hk
  | v :: vs, l :: ls, h, k, hk => by
    rw [List.flatMap_cons] at hk
    rcases List.mem_append.1 hk with hk | hk
    · exact h.1.fp_lt k hk
    · exact Rows2.lt h.2 k hk
  | [], _ :: _, h, _, _ => h.elim
  | _ :: _, [], h, _, _ => h.elim
theorem Rows2.append {w : World} : ∀ {vs us : List Value} {ls ms : List (List UInt8)}, Rows2 w vs ls → Rows2 w us ms → Rows2 w (vs ++ us) (ls ++ ms)
  | [], _, [], _, _, h => h
  | _ :: _, _, _ :: _, _, h, h' => ⟨h.1, Rows2.append h.2 h'⟩
  | [], _, _ :: _, _, h, _ => h.elim
  | _ :: _, _, [], _, h, _ => h.elim
theorem Rows2.snoc {w : World} : ∀ {ms : List Value} {ls : List (List UInt8)} {l : List UInt8}, Rows2 w ms (ls ++ [l]) → ∃ vs v, ms = vs ++ [v] ∧ Rows2 w vs ls ∧ Row w 5 1 v l.length (bs l)
  | [], [], _, h => h.elim
  | [], _ :: _, _, h => h.elim
  | v :: vs, [], l, h => by
    obtain ⟨h1, h2⟩ := h
    cases vs with
    | nil => exact ⟨[], v, rfl, trivial, h1⟩
    | cons u us => exact h2.elim
  | v :: vs, x :: ls, l, h => by
    obtain ⟨us, u, rfl, h2, h3⟩ := Rows2.snoc h.2
    exact ⟨v :: us, u, rfl, ⟨h.1, h2⟩, h3⟩
theorem Rows2.get {w : World} : ∀ {ms : List Value} {ls : List (List UInt8)}, Rows2 w ms ls → ∀ (i : Nat) (v : Value) (l : List UInt8), ms[i]? = some v → ls[i]? = some l → Row w 5 1 v l.length (bs l)
  | [], [], _, i, v, l, h, _ => by simp at h
  | v :: vs, x :: ls, h, 0, v', l, h1, h2 => by simp at h1 h2; subst h1; subst h2; exact h.1
  | v :: vs, x :: ls, h, i + 1, v', l, h1, h2 => Rows2.get h.2 i v' l (by simpa using h1) (by simpa using h2)
  | [], _ :: _, h, _, _, _, _, _ => h.elim
  | _ :: _, [], h, _, _, _, _, _ => h.elim

theorem Rows2.fp_type {w : World} : ∀ {vs : List Value} {ls : List (List UInt8)}, Rows2 w vs ls → ∀ k, k ∈ vs.flatMap fp → ∃ cur, w.heap[k]? = some (.cells cur 5 (0, 0))
  | [], [], _, k, hk => by simp at hk
  | v :: vs, l :: ls, h, k, hk => by
    rw [List.flatMap_cons] at hk
    rcases List.mem_append.1 hk with hk | hk
    · exact h.1.fp_type k hk
    · exact Rows2.fp_type h.2 k hk
  | [], _ :: _, h, _, _ => h.elim
  | _ :: _, [], h, _, _ => h.elim

/-- A queue in memory, at block b, with the values of its two slices and of its macros. -/
structure QIn (w : World) (b : Nat) (tv mv : Value) (ms : List Value) (q : QS) : Prop where
  blk : w.heap[b]? = some (.cells #[tv, mv, .int .i64 q.run, .bool true] 35 (0, 0))
  typed : Row w 5 1 tv q.typed.length (bs q.typed)
  macs : Row w 22 1 mv ms.length ms
  rows : Rows2 w ms q.macros
  apart : (fp tv ++ ms.flatMap fp).Nodup
  run : 0 ≤ q.run
  full : ∀ l ∈ q.macros, l ≠ []
/-- The blocks that are a queue's own. -/
def QF (b : Nat) (tv mv : Value) (ms : List Value) : List Nat := b :: (fp tv ++ (fp mv ++ ms.flatMap fp))
theorem mem_QF {b : Nat} {tv mv : Value} {ms : List Value} {k : Nat} : k ∈ QF b tv mv ms ↔ k = b ∨ k ∈ fp tv ∨ k ∈ fp mv ∨ k ∈ ms.flatMap fp := by simp only [QF, List.mem_cons, List.mem_append]
def QAt (w : World) (b : Nat) (F : List Nat) (q : QS) : Prop := ∃ tv mv ms, QIn w b tv mv ms q ∧ F = QF b tv mv ms

section
variable {w w' : World} {b : Nat} {tv mv : Value} {ms : List Value} {q : QS}
theorem QIn.b_t (h : QIn w b tv mv ms q) : b ∉ fp tv := fun hk => by
  obtain ⟨cur, hc⟩ := h.typed.fp_type b hk
  exact blk_ne h.blk hc (by decide) rfl
theorem QIn.b_m (h : QIn w b tv mv ms q) : b ∉ fp mv := fun hk => by
  obtain ⟨cur, hc⟩ := h.macs.fp_type b hk
  exact blk_ne h.blk hc (by decide) rfl
theorem QIn.b_r (h : QIn w b tv mv ms q) : b ∉ ms.flatMap fp := fun hk => by
  obtain ⟨cur, hc⟩ := h.rows.fp_type b hk
  exact blk_ne h.blk hc (by decide) rfl
theorem QIn.t_m (h : QIn w b tv mv ms q) {k : Nat} (ht : k ∈ fp tv) : k ∉ fp mv := fun hk => by
  obtain ⟨cur, hc⟩ := h.macs.fp_type k hk
  obtain ⟨cur', hc'⟩ := h.typed.fp_type k ht
  exact blk_ne hc hc' (by decide) rfl
theorem QIn.r_m (h : QIn w b tv mv ms q) {k : Nat} (ht : k ∈ ms.flatMap fp) : k ∉ fp mv := fun hk => by
  obtain ⟨cur, hc⟩ := h.macs.fp_type k hk
  obtain ⟨cur', hc'⟩ := h.rows.fp_type k ht
  exact blk_ne hc hc' (by decide) rfl
theorem QIn.t_r (h : QIn w b tv mv ms q) {k : Nat} (ht : k ∈ fp tv) : k ∉ ms.flatMap fp := fun hk => by
  have := h.apart
  rw [List.nodup_append] at this
  exact this.2.2 k ht k hk rfl
theorem QIn.lt (h : QIn w b tv mv ms q) : ∀ k, k ∈ QF b tv mv ms → k < w.heap.size := by
  intro k hk
  rcases mem_QF.1 hk with rfl | hk | hk | hk
  · exact blk_lt h.blk
  · exact h.typed.fp_lt k hk
  · exact h.macs.fp_lt k hk
  · exact h.rows.lt k hk
theorem QIn.stays (h : QIn w b tv mv ms q) (hk : ∀ k, k ∈ QF b tv mv ms → w'.heap[k]? = w.heap[k]?) : QIn w' b tv mv ms q :=
  ⟨(hk b (mem_QF.2 (.inl rfl))).trans h.blk, h.typed.stays fun k hm => hk k (mem_QF.2 (.inr (.inl hm))), h.macs.stays fun k hm => hk k (mem_QF.2 (.inr (.inr (.inl hm)))),
   h.rows.stays fun k hm => hk k (mem_QF.2 (.inr (.inr (.inr hm)))), h.apart, h.run, h.full⟩
end
theorem QAt.lt {w : World} {b : Nat} {F : List Nat} {q : QS} (h : QAt w b F q) : ∀ k, k ∈ F → k < w.heap.size := by
  obtain ⟨tv, mv, ms, h, rfl⟩ := h
  exact h.lt
theorem QAt.stays {w w' : World} {b : Nat} {F : List Nat} {q : QS} (h : QAt w b F q) (hk : ∀ k, k ∈ F → w'.heap[k]? = w.heap[k]?) : QAt w' b F q := by
  obtain ⟨tv, mv, ms, h, rfl⟩ := h
  exact ⟨tv, mv, ms, h.stays hk, rfl⟩
theorem QAt.keeps {w w' : World} {b : Nat} {F G : List Nat} {q : QS} (h : QAt w b F q) (k : Keeps G w w') (hd : ∀ i, i ∈ F → i ∉ G) : QAt w' b F q :=
  h.stays fun i hi => k.block i (h.lt i hi) (hd i hi)

/-- What a method leaves: a queue at the same block, its blocks old ones of its own or new ones; nothing else is turned. -/
def Left (w w' : World) (b : Nat) (F : List Nat) (q : QS) : Prop := Keeps F w w' ∧ ∃ F', (∀ k, k ∈ F' → k ∈ F ∨ w.heap.size ≤ k) ∧ QAt w' b F' q
theorem Left.refl {w : World} {b : Nat} {F : List Nat} {q : QS} (h : QAt w b F q) : Left w w b F q := ⟨Keeps.refl _ _, F, fun _ hk => .inl hk, h⟩
theorem Left.of {w w' : World} {b : Nat} {tv mv tv' mv' : Value} {ms ms' : List Value} {q' : QS} (k : Keeps (QF b tv mv ms) w w') (h' : QIn w' b tv' mv' ms' q')
    (h1 : ∀ k, k ∈ fp tv' → k ∈ QF b tv mv ms ∨ w.heap.size ≤ k) (h2 : ∀ k, k ∈ fp mv' → k ∈ QF b tv mv ms ∨ w.heap.size ≤ k) (h3 : ∀ k, k ∈ ms'.flatMap fp → k ∈ QF b tv mv ms ∨ w.heap.size ≤ k) :
    Left w w' b (QF b tv mv ms) q' := by
  refine ⟨k, _, fun i hi => ?_, tv', mv', ms', h', rfl⟩
  rcases mem_QF.1 hi with rfl | hi | hi | hi
  · exact .inl (mem_QF.2 (.inl rfl))
  · exact h1 i hi
  · exact h2 i hi
  · exact h3 i hi

/-- The two slices' shapes. -/
theorem QIn.shape {w : World} {b : Nat} {tv mv : Value} {ms : List Value} {q : QS} (h : QIn w b tv mv ms q) : ∃ tA tc mA mc, tv = .slice tA q.typed.length tc ∧ mv = .slice mA ms.length mc ∧ q.typed.length ≤ tc ∧ tc ≤ 9223372036854775807 ∧ ms.length ≤ mc ∧ mc ≤ 9223372036854775807 := by
  obtain ⟨tA, tc, rfl, h1, h2⟩ := h.typed.slice
  obtain ⟨mA, mc, rfl, h3, h4⟩ := h.macs.slice
  unfold maxLen at h2 h4
  exact ⟨tA, tc, mA, mc, rfl, rfl, h1, by omega, h3, by omega⟩

theorem elBytes : El Tryd.prog 22 5 (.int .u8 0) 1 1 := ⟨by kernel_rfl, by kernel_rfl, rfl, by decide⟩
theorem elBytess : El Tryd.prog 33 22 (.slice none 0 0) 1 24 := ⟨by kernel_rfl, by kernel_rfl, rfl, by decide⟩

theorem QNew_calls (w : World) : Calls Tryd.prog 27 #[] w fun e w' => e = .returned (.pointer (some ⟨w.heap.size, 0, none⟩)) ∧ Keeps [] w w' ∧ QAt w' w.heap.size [w.heap.size] ⟨[], [], 0⟩ := by
  have hk : Keeps [] w (w.alloc (.cells #[.slice none 0 0, .slice none 0 0, .int .i64 0, .bool true] 35)) := (Keeps.refl _ _).alloc _
  have hq : QAt (w.alloc (.cells #[.slice none 0 0, .slice none 0 0, .int .i64 0, .bool true] 35)) w.heap.size [w.heap.size] ⟨[], [], 0⟩ :=
    ⟨_, _, [], ⟨blk_new w _, Row.nil _ _ _ _, Row.nil _ _ _ _, trivial, by simp [fp], by decide, by simp⟩, rfl⟩
  go_enter Tryd.func27, Tryd.ntmps27
  go_wp2
  go_ret
  exact ⟨rfl, hk, hq⟩

theorem QNone_calls (w : World) (b : Nat) (x : Bool) (h : w.cell? ⟨b, 3, none⟩ = some (.bool x)) :
    Calls Tryd.prog 31 #[.pointer (some ⟨b, 0, none⟩)] w fun e w' => e = .returned (.bool !x) ∧ w = w' := by
  go_enter Tryd.func31, Tryd.ntmps31
  go_wp2
  go_ret
  exact ⟨rfl, rfl⟩

/-- The four cells of a queue. -/
theorem QAt.cells {w : World} {b : Nat} {x0 x1 x2 x3 : Value} {t : TypeId} (h : w.heap[b]? = some (.cells #[x0, x1, x2, x3] t (0, 0))) :
    w.cell? ⟨b, 0, none⟩ = some x0 ∧ w.cell? ⟨b, 1, none⟩ = some x1 ∧ w.cell? ⟨b, 2, none⟩ = some x2 ∧ w.cell? ⟨b, 3, none⟩ = some x3 ∧
    w.frozen? ⟨b, 0, none⟩ = false ∧ w.frozen? ⟨b, 1, none⟩ = false ∧ w.frozen? ⟨b, 2, none⟩ = false ∧ w.frozen? ⟨b, 3, none⟩ = false :=
  ⟨blk_cell h 0, blk_cell h 1, blk_cell h 2, blk_cell h 3, blk_frozen h 0, blk_frozen h 1, blk_frozen h 2, blk_frozen h 3⟩

theorem QIn.four {w : World} {b : Nat} {tv mv : Value} {ms : List Value} {q : QS} (h : QIn w b tv mv ms q) :
    w.cell? ⟨b, 0, none⟩ = some tv ∧ w.cell? ⟨b, 1, none⟩ = some mv ∧ w.cell? ⟨b, 2, none⟩ = some (.int .i64 q.run) ∧ w.cell? ⟨b, 3, none⟩ = some (.bool true) ∧
    w.frozen? ⟨b, 0, none⟩ = false ∧ w.frozen? ⟨b, 1, none⟩ = false ∧ w.frozen? ⟨b, 2, none⟩ = false ∧ w.frozen? ⟨b, 3, none⟩ = false := QAt.cells h.blk

theorem QDepth_calls (w : World) (b : Nat) (F : List Nat) (q : QS) (h : QAt w b F q) :
    Calls Tryd.prog 15 #[.pointer (some ⟨b, 0, none⟩)] w fun e w' => e = .returned (.int .i64 q.macros.length) ∧ w = w' := by
  obtain ⟨tv, mv, ms, h, rfl⟩ := h
  obtain ⟨tA, tc, mA, mc, rfl, rfl, t1, t2, m1, m2⟩ := h.shape
  obtain ⟨c0, c1, c2, c3, _⟩ := h.four
  rw [← h.rows.len]
  go_enter Tryd.func15, Tryd.ntmps15
  go_wp2
  go_ret
  exact ⟨rfl, rfl⟩

/-! ### the operations on a state -/
def QS.put (q : QS) (b : List UInt8) : Int × QS := if 65536 < b.length + q.typed.length then (3, q) else (0, { q with typed := q.typed ++ b })

theorem QRoom_ok (w : World) (b : Nat) (F : List Nat) (q : QS) (n : Nat) (h : QAt w b F q) (hn : n + q.typed.length ≤ 65536) :
    Calls Tryd.prog 32 #[.pointer (some ⟨b, 0, none⟩), .int .i64 n] w fun e w' => e = .returned (.int .i64 0) ∧ w = w' := by
  obtain ⟨tv, mv, ms, h, rfl⟩ := h
  obtain ⟨tA, tc, mA, mc, rfl, rfl, t1, t2, m1, m2⟩ := h.shape
  obtain ⟨c0, c1, c2, c3, _⟩ := h.four
  go_enter Tryd.func32, Tryd.ntmps32
  go_wp2
  go_ret
  exact ⟨rfl, rfl⟩
theorem QRoom_long (w : World) (b : Nat) (F : List Nat) (q : QS) (n : Nat) (h : QAt w b F q) (hn : 65536 < n + q.typed.length) (_hm : n ≤ 9223372036854775807) :
    Calls Tryd.prog 32 #[.pointer (some ⟨b, 0, none⟩), .int .i64 n] w fun e w' => e = .returned (.int .i64 3) ∧ w = w' := by
  obtain ⟨tv, mv, ms, h, rfl⟩ := h
  obtain ⟨tA, tc, mA, mc, rfl, rfl, t1, t2, m1, m2⟩ := h.shape
  obtain ⟨c0, c1, c2, c3, _⟩ := h.four
  go_enter Tryd.func32, Tryd.ntmps32
  go_wp2
  go_ret
  exact ⟨rfl, rfl⟩

def Said (v : Value) (P : World → Prop) (e : Ending) (w : World) : Prop := e = .returned v ∧ P w

/-- The typed bytes are others. -/
theorem QIn.typed_left {w w1 : World} {b : Nat} {tv tv' mv : Value} {ms : List Value} {q : QS} (h : QIn w b tv mv ms q) (l : List UInt8) (hrow : Row w1 5 1 tv' l.length (bs l)) (hk : Keeps (fp tv) w w1)
    (hf : ∀ k, k ∈ fp tv' → k ∈ fp tv ∨ w.heap.size ≤ k) : Left w (w1.setCell ⟨b, 0, none⟩ tv') b (QF b tv mv ms) { q with typed := l } := by
  have hb1 : b ∉ fp tv' := fun hx => by
    rcases hf b hx with h1 | h1
    · exact h.b_t h1
    · have := blk_lt h.blk; omega
  refine Left.of (tv' := tv') (mv' := mv) (ms' := ms) ((hk.mono fun k hk => .inl (mem_QF.2 (.inr (.inl hk)))).setCell _ _ (.inl (mem_QF.2 (.inl rfl)))) ⟨?_, ?_, ?_, ?_, ?_, h.run, h.full⟩ ?_ ?_ ?_
  · exact blk_set (hk.blk h.blk h.b_t) 0 tv'
  · exact hrow.stays fun k hk => Below.heap_setCell _ _ _ _ (fun e => by cases e; exact hb1 hk)
  · exact (h.macs.keeps hk fun k hm ht => h.t_m ht hm).stays fun k hk => Below.heap_setCell _ _ _ _ (fun e => by cases e; exact h.b_m hk)
  · exact (h.rows.stays fun k hm => hk.block k (h.rows.lt k hm) (fun ht => h.t_r ht hm)).stays fun k hk => Below.heap_setCell _ _ _ _ (fun e => by cases e; exact h.b_r hk)
  · have ha := h.apart
    rw [List.nodup_append] at ha ⊢
    refine ⟨fp_nodup _, ha.2.1, fun x hx y hy => ?_⟩
    rcases hf x hx with h1 | h1
    · exact ha.2.2 x h1 y hy
    · have := h.rows.lt y hy; omega
  · intro k hk
    rcases hf k hk with h1 | h1
    · exact .inl (mem_QF.2 (.inr (.inl h1)))
    · exact .inr h1
  · exact fun k hk => .inl (mem_QF.2 (.inr (.inr (.inl hk))))
  · exact fun k hk => .inl (mem_QF.2 (.inr (.inr (.inr hk))))

theorem QPut_calls (w : World) (b : Nat) (F : List Nat) (q : QS) (A : Option Addr) (c : Nat) (l : List UInt8) (h : QAt w b F q) (hs : Src w A (bs l)) (hl : l.length ≤ 9223372036854775807) :
    Calls Tryd.prog 11 #[.pointer (some ⟨b, 0, none⟩), .slice A l.length c] w (Said (.int .i64 (q.put l).1) fun w' => Left w w' b F (q.put l).2) := by
  have h' := h
  obtain ⟨tv, mv, ms, h, rfl⟩ := h
  obtain ⟨tA, tc, mA, mc, rfl, rfl, t1, t2, m1, m2⟩ := h.shape
  obtain ⟨c0, c1, c2, c3, f0, f1, f2, f3⟩ := h.four
  have ht := h.typed
  by_cases hr : 65536 < l.length + q.typed.length
  · have Hq : Hid (q.put l = (3, q)) := by simp only [Hid, QS.put, if_pos hr]
    go_enter Tryd.func11, Tryd.ntmps11
    go_wp2_with (go_at_call 32; refine (QRoom_long _ _ _ _ _ h' hr hl).mono ?_; rintro e w' ⟨rfl, rfl⟩)
    go_ret
    rw [Hq.out]
    exact ⟨rfl, Left.refl h'⟩
  · have Hq : Hid (q.put l = (0, { q with typed := q.typed ++ l })) := by simp only [Hid, QS.put, if_neg hr]
    go_enter Tryd.func11, Tryd.ntmps11
    go_wp2_with (first
      | (go_at_call 32; refine (QRoom_ok _ _ _ _ _ h' (by omega)).mono ?_; rintro e w' ⟨rfl, rfl⟩)
      | (at_builtin; refine wpList_append_row rfl _ _ 22 rfl elBytes _ _ _ rfl ht A l.length c (bs l) rfl (by rw [bs_length, Nat.mul_one]) hs (bs_one l) (by unfold maxLen; omega) (by omega) ?_; intro A1 c1' w1 hrow1 hk1 hf1; obtain ⟨d0, d1, d2, d3, g0, g1, g2, g3⟩ := QAt.cells (hk1.blk h.blk h.b_t)))
    go_ret
    rw [Hq.out]
    exact ⟨rfl, h.typed_left _ (by rw [List.length_append, bs_append]; exact hrow1) hk1 hf1⟩

def QS.push (q : QS) (b : List UInt8) : Int × QS :=
  if 128 < b.length then (3, q) else if 16 ≤ q.macros.length then (6, q) else if b = [] then (0, q) else (0, { q with macros := q.macros ++ [b] })

/-- The macros are others. -/
theorem QIn.macros_left {w w' : World} {b : Nat} {tv mv mv' : Value} {ms ms' : List Value} {q : QS} {r : Int} (h : QIn w b tv mv ms q) (ls : List (List UInt8)) (hk : Keeps (b :: fp mv) w w')
    (hb : w'.heap[b]? = some (.cells #[tv, mv', .int .i64 r, .bool true] 35 (0, 0))) (hr0 : 0 ≤ r) (hrow : Row w' 22 1 mv' ms'.length ms') (hrs : Rows2 w' ms' ls) (hls : ∀ l ∈ ls, l ≠ [])
    (hf : ∀ k, k ∈ fp mv' → k ∈ fp mv ∨ w.heap.size ≤ k) (hfs : ∀ k, k ∈ ms'.flatMap fp → k ∈ ms.flatMap fp ∨ w.heap.size ≤ k) (hnd : (ms'.flatMap fp).Nodup) :
    Left w w' b (QF b tv mv ms) { q with macros := ls, run := r } := by
  refine Left.of (tv' := tv) (mv' := mv') (ms' := ms') (hk.mono fun k hk => .inl ?_) ⟨hb, ?_, hrow, hrs, ?_, hr0, hls⟩ ?_ ?_ ?_
  · rcases List.mem_cons.1 hk with rfl | hk
    · exact mem_QF.2 (.inl rfl)
    · exact mem_QF.2 (.inr (.inr (.inl hk)))
  · exact h.typed.keeps hk fun k ht hm => by
      rcases List.mem_cons.1 hm with rfl | hm
      · exact h.b_t ht
      · exact h.t_m ht hm
  · rw [List.nodup_append]
    refine ⟨fp_nodup _, hnd, fun x hx y hy => ?_⟩
    rcases hfs y hy with h1 | h1
    · rintro rfl; exact h.t_r hx h1
    · have := h.typed.fp_lt x hx; omega
  · exact fun k hk => .inl (mem_QF.2 (.inr (.inl hk)))
  · intro k hk
    rcases hf k hk with h1 | h1
    · exact .inl (mem_QF.2 (.inr (.inr (.inl h1))))
    · exact .inr h1
  · intro k hk
    rcases hfs k hk with h1 | h1
    · exact .inl (mem_QF.2 (.inr (.inr (.inr h1))))
    · exact .inr h1

theorem QPush_calls (w : World) (b : Nat) (F : List Nat) (q : QS) (A : Option Addr) (c : Nat) (l : List UInt8) (h : QAt w b F q) (hs : Src w A (bs l)) :
    Calls Tryd.prog 12 #[.pointer (some ⟨b, 0, none⟩), .slice A l.length c] w (Said (.int .i64 (q.push l).1) fun w' => Left w w' b F (q.push l).2) := by
  have h' := h
  obtain ⟨tv, mv, ms, h, rfl⟩ := h
  obtain ⟨tA, tc, mA, mc, rfl, rfl, t1, t2, m1, m2⟩ := h.shape
  obtain ⟨c0, c1, c2, c3, f0, f1, f2, f3⟩ := h.four
  have hb := h.blk
  have hm := h.macs
  have HL := Lib.hid h.rows.len
  by_cases h1 : 128 < l.length
  · have Hq : Hid (q.push l = (3, q)) := by simp only [Hid, QS.push, if_pos h1]
    go_enter Tryd.func12, Tryd.ntmps12
    go_wp2
    go_ret
    rw [Hq.out]
    exact ⟨rfl, Left.refl h'⟩
  by_cases h2 : 16 ≤ ms.length
  · have Hq : Hid (q.push l = (6, q)) := by simp only [Hid, QS.push, if_neg h1, ← HL.out, if_pos h2]
    go_enter Tryd.func12, Tryd.ntmps12
    go_wp2
    go_ret
    rw [Hq.out]
    exact ⟨rfl, Left.refl h'⟩
  by_cases h3 : l.length = 0
  · have h3' : l = [] := List.eq_nil_of_length_eq_zero h3
    have Hq : Hid (q.push l = (0, q)) := by simp only [Hid, QS.push, if_neg h1, ← HL.out, if_neg h2, if_pos h3']
    have hz : ¬ 0 < l.length := by omega
    clear h3 h3'
    go_enter Tryd.func12, Tryd.ntmps12
    go_wp2
    go_ret
    rw [Hq.out]
    exact ⟨rfl, Left.refl h'⟩
  have h3' : l ≠ [] := fun e => h3 (by rw [e]; rfl)
  have Hq : Hid (q.push l = (0, { q with macros := q.macros ++ [l] })) := by simp only [Hid, QS.push, if_neg h1, ← HL.out, if_neg h2, if_neg h3']
  have hz : 0 < l.length := by omega
  have hlt := blk_lt hb
  have hbn : b ∉ fp (.slice (some ⟨w.heap.size, 0, none⟩) l.length l.length) := by
    rw [fp_some hz]; simp; omega
  have hsrc1 : ∀ w1, Keeps [] w w1 → Src w1 A (bs l) := fun w1 k => hs.keeps k (fun a _ _ => by simp)
  have hm1 : ∀ w1, Keeps [] w w1 → Row w1 22 1 (.slice mA ms.length mc) ms.length ms := fun w1 k => hm.keeps k (fun _ _ => by simp)
  have hm2 : ∀ w1, Row w1 22 1 (.slice mA ms.length mc) ms.length ms → ∀ w2, Keeps (fp (.slice (some ⟨w.heap.size, 0, none⟩) l.length l.length)) w1 w2 → Row w2 22 1 (.slice mA ms.length mc) ms.length ms := fun w1 r w2 k => r.keeps k (fun i hi => by
    rw [fp_some hz]; have := hm.fp_lt i hi; simp; omega)
  have hbm := h.b_m
  clear h3 h3'
  go_enter Tryd.func12, Tryd.ntmps12
  go_wp2_with (first
    | (go_at_call 31; refine (QNone_calls _ _ true c3).mono ?_; rintro e w' ⟨rfl, rfl⟩)
    | (at_make; refine wpList_make_row rfl _ _ 22 rfl elBytes rfl _ _ l.length rfl rfl (by omega) (by unfold maxLen; omega) ?_; intro w1 hrow1 hk1 hz1; have hb1 := hk1.blk hb (by simp); obtain ⟨d0, d1, d2, d3, g0, g1, g2, g3⟩ := QAt.cells hb1)
    | (with_reducible refine wpList_copy_row rfl _ _ 22 22 rfl elBytes _ _ _ _ hrow1 _ _ _ 0 rfl (fun _ => ⟨by omega, _, 0, rfl, rfl⟩) _ _ _ (bs l) rfl (bs_length l) (hsrc1 _ hk1) (bs_one l) ?_; intro w2 hrow2 hk2 hz2; have hb2 := hk2.blk hb1 hbn; obtain ⟨d0, d1, d2, d3, g0, g1, g2, g3⟩ := QAt.cells hb2)
    | (at_builtin; refine wpList_append_row rfl _ _ 33 rfl elBytess _ _ _ rfl ((hm2 _ (hm1 _ hk1) _ hk2).keeps ((Keeps.refl [] _).alloc _) (fun _ _ => by simp)) _ 1 1 [.slice (some ⟨w.heap.size, 0, none⟩) l.length l.length] rfl rfl (Src.new _ _ _) (by intro u hu; simp at hu; subst hu; rfl) (by unfold maxLen; omega) (by omega) ?_; intro A3 c3' w3 hrow3 hk3 hf3; have hb3 := hk3.blk (blk_alloc hb2 _) hbm; obtain ⟨d0, d1, d2, d3, g0, g1, g2, g3⟩ := QAt.cells hb3))
  go_ret
  rw [Hq.out]
  refine ⟨rfl, ?_⟩
  have hs1 := hk1.size
  have hs2 := hk2.size
  have hk12 : Keeps (fp (.slice mA ms.length mc)) w w2 := (hk1.mono (fun _ hk => by simp at hk)).then hk2 (fun i hi => by rw [fp_some hz] at hi; simp at hi; exact .inr (by omega))
  have hk13 : Keeps (fp (.slice mA ms.length mc)) w w3 := (hk12.alloc (.cells #[.slice (some ⟨w.heap.size, 0, none⟩) l.length l.length] 22)).trans hk3
  have hnew : Row w3 5 1 (.slice (some ⟨w.heap.size, 0, none⟩) l.length l.length) l.length (bs l) := by
    have e1 : List.take 0 (List.replicate l.length (Value.int .u8 0)) ++ (List.take l.length (bs l) ++ List.drop (0 + (List.take l.length (bs l)).length) (List.replicate l.length (Value.int .u8 0))) = bs l := by
      have : (bs l).take l.length = bs l := List.take_of_length_le (by rw [bs_length]; omega)
      rw [this, bs_length]; simp
    rw [e1] at hrow2
    refine (hrow2.keeps ((Keeps.refl [] _).alloc _) (fun _ _ => by simp)).keeps hk3 fun i hi => ?_
    rw [fp_some hz] at hi
    simp at hi
    intro hm'
    have := hm.fp_lt i hm'
    omega
  refine h.macros_left (mv' := .slice A3 (ms.length + 1) c3') (ms' := ms ++ [.slice (some ⟨w.heap.size, 0, none⟩) l.length l.length]) (q.macros ++ [l]) ((hk13.mono fun k hk => .inl (List.mem_cons_of_mem _ hk)).setCell _ _ (.inl (List.mem_cons_self))) ?_ h.run ?_ ?_ ?_ ?_ ?_ ?_
  · exact blk_set hb3 1 _
  · rw [List.length_append]
    refine Row.stays hrow3 fun k hk => Below.heap_setCell _ _ _ _ (fun e => ?_)
    cases e
    rcases hf3 b hk with h1 | h1
    · exact hbm h1
    · simp at h1; omega
  · refine Rows2.append ?_ ⟨?_, trivial⟩
    · exact (h.rows.stays fun k hk => hk13.block k (h.rows.lt k hk) (h.r_m hk)).stays fun k hk => Below.heap_setCell _ _ _ _ (fun e => by cases e; exact h.b_r hk)
    · exact hnew.stays fun k hk => Below.heap_setCell _ _ _ _ (fun e => by cases e; exact hbn hk)
  · intro x hx
    rcases List.mem_append.1 hx with hx | hx
    · exact h.full x hx
    · simp at hx; subst hx; intro e; rw [e] at hz; simp at hz
  · intro k hk
    rcases hf3 k hk with h1 | h1
    · exact .inl h1
    · simp at h1; exact .inr (by omega)
  · intro k hk
    rw [List.flatMap_append] at hk
    rcases List.mem_append.1 hk with hk | hk
    · exact .inl hk
    · simp only [List.flatMap_cons, List.flatMap_nil, List.append_nil, fp_some hz, List.mem_singleton] at hk
      exact .inr (by omega)
  · rw [List.flatMap_append, List.nodup_append]
    have ha := h.apart
    rw [List.nodup_append] at ha
    refine ⟨ha.2.1, by simp [fp_nodup], fun x hx y hy => ?_⟩
    simp only [List.flatMap_cons, List.flatMap_nil, List.append_nil, fp_some hz, List.mem_singleton] at hy
    have := h.rows.lt x hx
    omega

theorem Left.drew {w w' : World} {b : Nat} {F : List Nat} {q : QS} (h : Left w w' b F q) : Left w w'.drew b F q := by
  obtain ⟨h0, F', h1, h2⟩ := h
  exact ⟨h0.drew, F', h1, h2.stays fun _ _ => rfl⟩

def total (ls : List (List UInt8)) : Nat := (ls.map List.length).foldr (· + ·) 0
theorem total_take (ls : List (List UInt8)) (k : Nat) (h : k < ls.length) : total (ls.take (k + 1)) = total (ls.take k) + ls[k].length := by
  induction ls generalizing k with
  | nil => simp at h
  | cons l ls ih =>
    cases k with
    | zero => simp [total]
    | succ k =>
      have := ih k (by simpa using h)
      simp only [total, List.take_succ_cons, List.map_cons, List.foldr_cons, List.getElem_cons_succ] at this ⊢
      omega
theorem total_take_le (ls : List (List UInt8)) (k : Nat) : total (ls.take k) ≤ total ls := by
  induction ls generalizing k with
  | nil => simp
  | cons l ls ih =>
    cases k with
    | zero => simp [total]
    | succ k =>
      have := ih k
      simp only [total, List.take_succ_cons, List.map_cons, List.foldr_cons] at this ⊢
      omega

theorem QLen_calls (w : World) (b : Nat) (F : List Nat) (q : QS) (h : QAt w b F q) (hbig : q.typed.length + total q.macros ≤ 9223372036854775807) :
    Calls Tryd.prog 14 #[.pointer (some ⟨b, 0, none⟩)] w fun e w' => e = .returned (.int .i64 (q.typed.length + total q.macros : Nat)) ∧ w = w' := by
  obtain ⟨tv, mv, ms, h, rfl⟩ := h
  obtain ⟨tA, tc, mA, mc, rfl, rfl, t1, t2, m1, m2⟩ := h.shape
  obtain ⟨c0, c1, c2, c3, _⟩ := h.four
  have hm := h.macs
  have hr := h.rows
  have HL := Lib.hid hr.len
  go_enter Tryd.func14, Tryd.ntmps14
  go_wp2
  go_loop [3, 18] (fun n i => ∃ k : Nat, k ≤ ms.length ∧ i = .int .i64 k ∧ n = .int .i64 (q.typed.length + total (q.macros.take k) : Nat)) (fun _ i => ms.length - (intOf i).toNat)
  case atStart => exact ⟨0, Nat.zero_le _, rfl, by simp [total]⟩
  case round =>
    obtain ⟨k, hk, rfl, rfl⟩ := hrel
    by_cases hlt : k < ms.length
    · obtain ⟨g, off, c, hv, _, _, _, hc, _⟩ := hm.cell hlt
      cases hv
      have hrow := hr.get k ms[k] (q.macros[k]'(by have := HL.out; omega)) (List.getElem?_eq_getElem hlt) (List.getElem?_eq_getElem _)
      obtain ⟨A, c', hv, _, _⟩ := hrow.slice
      rw [hv] at hc
      have HT := Lib.hid (total_take q.macros k (by have := HL.out; omega))
      have hle := total_take_le q.macros k
      have hle1 := total_take_le q.macros (k + 1)
      rw [HT.out] at hle1
      go_wp2
      go_round
      case rel => exact ⟨k + 1, by omega, by go_num, by rw [HT.out]; go_num⟩
      case measure => simp [intOf]; omega
    · have : k = ms.length := by omega
      subst this
      go_wp2
      go_ret
      have hE : total (q.macros.take ms.length) = total q.macros := by rw [HL.out, List.take_length]
      exact ⟨by rw [hE]; rfl, rfl⟩
end Go.Proofs.YtomdhiphiediaaaDoor.Mac
