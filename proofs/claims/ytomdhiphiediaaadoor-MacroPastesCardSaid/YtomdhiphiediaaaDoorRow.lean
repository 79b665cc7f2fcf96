/- Rows of cells that a slice value owns; worlds that keep all but some blocks; append, copy and make over such rows, over any program. -/
import Derived.WalkKit
import Derived.WalkSpells
import Derived.WalkLawsBesides
import Derived.Laws.CopyRow
namespace Go.Proofs.YtomdhiphiediaaaDoor.Rw
open Go Go.RowKit

/-! ### what is kept -/
structure Keeps (F : List Nat) (w w' : World) : Prop where
  os : w'.os = w.os
  tape : w'.tape = w.tape
  output : w'.output = w.output
  size : w.heap.size ≤ w'.heap.size
  block : ∀ k, k < w.heap.size → k ∉ F → w'.heap[k]? = w.heap[k]?

theorem Keeps.refl (F : List Nat) (w : World) : Keeps F w w := ⟨rfl, rfl, rfl, Nat.le_refl _, fun _ _ _ => rfl⟩
theorem Keeps.trans {F : List Nat} {a b c : World} (h : Keeps F a b) (k : Keeps F b c) : Keeps F a c :=
  ⟨k.os.trans h.os, k.tape.trans h.tape, k.output.trans h.output, Nat.le_trans h.size k.size,
   fun i hi hn => (k.block i (Nat.lt_of_lt_of_le hi h.size) hn).trans (h.block i hi hn)⟩
theorem Keeps.mono {F G : List Nat} {a b : World} (h : Keeps F a b) (hs : ∀ k, k ∈ F → k ∈ G ∨ a.heap.size ≤ k) : Keeps G a b :=
  ⟨h.os, h.tape, h.output, h.size, fun i hi hn => h.block i hi fun hm => by rcases hs i hm with h | h; exact hn h; omega⟩
theorem Keeps.then {F G : List Nat} {a b c : World} (h : Keeps F a b) (k : Keeps G b c) (hs : ∀ i, i ∈ G → i ∈ F ∨ a.heap.size ≤ i) : Keeps F a c :=
  ⟨k.os.trans h.os, k.tape.trans h.tape, k.output.trans h.output, Nat.le_trans h.size k.size,
   fun i hi hn => (k.block i (Nat.lt_of_lt_of_le hi h.size) (fun hm => by rcases hs i hm with h | h; exact hn h; omega)).trans (h.block i hi hn)⟩
theorem Keeps.alloc {F : List Nat} {a w : World} (h : Keeps F a w) (o : Obj) : Keeps F a (w.alloc o) :=
  h.trans ⟨rfl, rfl, rfl, by simp, fun k hk _ => Below.heap_alloc _ _ _ hk⟩
theorem Keeps.drew {F : List Nat} {a w : World} (h : Keeps F a w) : Keeps F a w.drew := ⟨h.os, h.tape, h.output, h.size, h.block⟩
theorem Keeps.drewN {F : List Nat} {a w : World} (h : Keeps F a w) (n : Nat) : Keeps F a (w.drewN n) := ⟨h.os, h.tape, h.output, h.size, h.block⟩
theorem Keeps.setCell {F : List Nat} {a w : World} (h : Keeps F a w) (p : Addr) (u : Value) (hp : p.block ∈ F ∨ a.heap.size ≤ p.block) : Keeps F a (w.setCell p u) :=
  ⟨h.os, h.tape, h.output, by simpa using h.size, fun k hk hn => by
    rw [Below.heap_setCell w p u k (fun e => by subst e; rcases hp with hp | hp; exact hn hp; omega)]; exact h.block k hk hn⟩
theorem Keeps.setRow {F : List Nat} {a w : World} (h : Keeps F a w) (g : Nat) (cs : Array Value) (hp : g ∈ F ∨ a.heap.size ≤ g) : Keeps F a (w.setRow g cs) :=
  ⟨h.os, h.tape, h.output, by simpa [World.setRow] using h.size, fun k hk hn => by
    rw [setRow_other w g k cs (fun e => by subst e; rcases hp with hp | hp; exact hn hp; omega)]; exact h.block k hk hn⟩
theorem Keeps.of_below {w w' : World} (h : Below w.heap.size w w') : Keeps [] w w' := ⟨h.os, h.tape, h.output, h.size, fun k hk _ => h.block k hk⟩
theorem Keeps.below {F : List Nat} {w w' : World} (h : Keeps F w w') (B : Nat) (hB : B ≤ w.heap.size) (hF : ∀ k, k ∈ F → B ≤ k) : Below B w w' :=
  ⟨h.os, h.tape, h.output, h.size, fun k hk => h.block k (by omega) fun hm => by have := hF k hm; omega⟩
theorem Keeps.blk {F : List Nat} {w w' : World} (h : Keeps F w w') {g : Nat} {o : Obj} (hg : w.heap[g]? = some o) (hn : g ∉ F) : w'.heap[g]? = some o :=
  (h.block g (Array.getElem?_eq_some_iff.1 hg).1 hn).trans hg
theorem Keeps.cell {F : List Nat} {w w' : World} (h : Keeps F w w') {a : Addr} {v : Value} (hc : w.cell? a = some v) (hn : a.block ∉ F) : w'.cell? a = some v :=
  (World.cell?_of_block (h.block a.block (World.block_lt_of_cell? w a hc) hn)).trans hc

/-! ### blocks -/
theorem blk_lt {w : World} {g : Nat} {o : Obj} (h : w.heap[g]? = some o) : g < w.heap.size := (Array.getElem?_eq_some_iff.1 h).1
theorem blk_set {w : World} {g : Nat} {t : TypeId} {cs : Array Value} {f : Nat × Nat} (h : w.heap[g]? = some (.cells cs t f)) (i : Nat) (u : Value) :
    (w.setCell ⟨g, i, none⟩ u).heap[g]? = some (.cells (cs.setIfInBounds i u) t f) := by
  obtain ⟨hlt, hv⟩ := Array.getElem?_eq_some_iff.1 h
  rw [Array.getElem?_eq_getElem (by simpa [World.setCell] using hlt)]
  simp only [World.setCell, Array.getElem_modify, if_pos, hv]
  rfl
theorem blk_far {w : World} {g : Nat} {o : Obj} (h : w.heap[g]? = some o) (p : Addr) (hp : g ≠ p.block) (u : Value) : (w.setCell p u).heap[g]? = some o :=
  (Below.heap_setCell w p u g hp).trans h
theorem blk_alloc {w : World} {g : Nat} {o : Obj} (h : w.heap[g]? = some o) (o' : Obj) : (w.alloc o').heap[g]? = some o := (Below.heap_alloc w o' g (blk_lt h)).trans h
theorem blk_new (w : World) (o : Obj) : (w.alloc o).heap[w.heap.size]? = some o := heap_alloc_new w o
theorem blk_cell {w : World} {g : Nat} {t : TypeId} {cs : Array Value} {f : Nat × Nat} (h : w.heap[g]? = some (.cells cs t f)) (i : Nat) : w.cell? ⟨g, i, none⟩ = cs[i]? := cell_of_row w g i cs t f h
theorem blk_frozen {w : World} {g : Nat} {t : TypeId} {cs : Array Value} (h : w.heap[g]? = some (.cells cs t (0, 0))) (i : Nat) : w.frozen? ⟨g, i, none⟩ = false := by simp [World.frozen?, h]
theorem blk_ne {w : World} {g g' : Nat} {t t' : TypeId} {cs cs' : Array Value} {f f' : Nat × Nat} (h : w.heap[g]? = some (.cells cs t f)) (h' : w.heap[g']? = some (.cells cs' t' f')) (hne : t ≠ t') : g ≠ g' := by
  rintro rfl
  rw [h] at h'
  injection h' with h'; injection h' with _ h' _
  exact hne h'
theorem add_at (g o j : Nat) : (⟨g, o, none⟩ : Addr).add j = ⟨g, o + j, none⟩ := by unfold Addr.add; split <;> simp_all

/-! ### a slice that is read -/
def Src (w : World) (A : Option Addr) (xs : List Value) : Prop := ∀ j u, xs[j]? = some u → ∃ ad, A = some ad ∧ w.cell? (ad.add j) = some u
theorem Src.nil (w : World) (A : Option Addr) : Src w A [] := fun j u h => by simp at h
theorem Src.keeps {F : List Nat} {w w' : World} {A : Option Addr} {xs : List Value} (h : Src w A xs) (k : Keeps F w w') (hA : ∀ a, A = some a → 0 < xs.length → a.block ∉ F) : Src w' A xs := fun j u hj => by
  obtain ⟨ad, rfl, hc⟩ := h j u hj
  have hl : 0 < xs.length := by have := (List.getElem?_eq_some_iff.1 hj).1; omega
  have hb : (ad.add j).block = ad.block := by unfold Addr.add; split <;> rfl
  exact ⟨ad, rfl, k.cell hc (by rw [hb]; exact hA ad rfl hl)⟩
theorem Src.take {w : World} {A : Option Addr} {xs : List Value} (h : Src w A xs) (n : Nat) : Src w A (xs.take n) := fun j u hj => by
  refine h j u ?_
  rw [List.getElem?_take] at hj
  split at hj
  · exact hj
  · cases hj
theorem addr_add_add (a : Addr) (k j : Nat) : (a.add k).add j = a.add (k + j) := by
  unfold Addr.add
  by_cases hk : k = 0
  · subst hk; simp
  · by_cases hj : j = 0
    · subst hj; simp [hk]
    · simp [hk, hj, Nat.add_assoc]
theorem Src.drop {w : World} {A : Option Addr} {xs : List Value} (h : Src w A xs) (n : Nat) : Src w (A.map (·.add n)) (xs.drop n) := fun j u hj => by
  rw [List.getElem?_drop] at hj
  obtain ⟨ad, rfl, hc⟩ := h (n + j) u hj
  exact ⟨ad.add n, rfl, by rw [addr_add_add]; exact hc⟩
theorem Src.of_nil {w : World} {A : Option Addr} {xs : List Value} (h : xs.length = 0) : Src w A xs := by
  have := List.eq_nil_of_length_eq_zero h
  subst this; exact Src.nil _ _
theorem Src.cut {w : World} {A : Option Addr} {xs : List Value} (h : Src w A xs) (c k : Nat) (hc : xs.length ≤ c) : Src w (if c = k then A else A.map (·.add k)) (xs.drop k) := by
  by_cases hk : c = k
  · exact Src.of_nil (by rw [List.length_drop]; omega)
  · rw [if_neg hk]; exact h.drop k

/-! ### a row that is owned -/
/-- The block that a slice value owns: none where it has no cell. -/
def fp : Value → List Nat
  | .slice (some a) _ (_ + 1) => [a.block]
  | _ => []
def Row (w : World) (e : TypeId) (sz : Nat) (v : Value) (n : Nat) (xs : List Value) : Prop :=
  xs.length = n * sz ∧
  ((∃ A, v = .slice A 0 0 ∧ n = 0) ∨
   ∃ g off cap cur, v = .slice (some ⟨g, off, none⟩) n cap ∧ 0 < cap ∧ n ≤ cap ∧ cap ≤ maxLen ∧ w.heap[g]? = some (.cells cur e (0, 0)) ∧ off + cap * sz ≤ cur.size ∧ (cur.toList.drop off).take (n * sz) = xs)
section
variable {w w' : World} {e : TypeId} {sz n : Nat} {v : Value} {xs : List Value}
theorem Row.nil (w : World) (e : TypeId) (sz : Nat) (A : Option Addr) : Row w e sz (.slice A 0 0) 0 [] := ⟨by simp, .inl ⟨A, rfl, rfl⟩⟩
theorem Row.len (h : Row w e sz v n xs) : xs.length = n * sz := h.1
theorem Row.slice (h : Row w e sz v n xs) : ∃ A c, v = .slice A n c ∧ n ≤ c ∧ c ≤ maxLen := by
  rcases h.2 with ⟨A, rfl, rfl⟩ | ⟨g, off, cap, cur, rfl, _, h2, h3, _⟩
  · exact ⟨A, 0, rfl, Nat.le_refl _, by unfold maxLen; omega⟩
  · exact ⟨_, cap, rfl, h2, h3⟩
theorem Row.fp_lt (h : Row w e sz v n xs) : ∀ k, k ∈ fp v → k < w.heap.size := by
  intro k hk
  rcases h.2 with ⟨A, rfl, rfl⟩ | ⟨g, off, cap, cur, rfl, hc, _, _, hg, _⟩
  · cases A <;> simp [fp] at hk
  · cases cap with
    | zero => omega
    | succ cap => simp only [fp, List.mem_singleton] at hk; subst hk; exact blk_lt hg
theorem Row.fp_type (h : Row w e sz v n xs) : ∀ k, k ∈ fp v → ∃ cur, w.heap[k]? = some (.cells cur e (0, 0)) := by
  intro k hk
  rcases h.2 with ⟨A, rfl, rfl⟩ | ⟨g, off, cap, cur, rfl, hc, _, _, hg, _⟩
  · cases A <;> simp [fp] at hk
  · cases cap with
    | zero => omega
    | succ cap => simp only [fp, List.mem_singleton] at hk; subst hk; exact ⟨cur, hg⟩
theorem Row.stays (h : Row w e sz v n xs) (hk : ∀ k, k ∈ fp v → w'.heap[k]? = w.heap[k]?) : Row w' e sz v n xs := by
  refine ⟨h.1, ?_⟩
  rcases h.2 with h0 | ⟨g, off, cap, cur, rfl, hc, h2, h3, hg, h4⟩
  · exact .inl h0
  · refine .inr ⟨g, off, cap, cur, rfl, hc, h2, h3, ?_, h4⟩
    rw [hk g (by cases cap with | zero => omega | succ _ => simp [fp])]; exact hg
theorem Row.keeps (h : Row w e sz v n xs) {F : List Nat} (k : Keeps F w w') (hd : ∀ i, i ∈ fp v → i ∉ F) : Row w' e sz v n xs :=
  h.stays fun i hi => k.block i (h.fp_lt i hi) (hd i hi)
theorem Row.far (h : Row w e sz v n xs) (p : Addr) (u : Value) (hp : p.block ∉ fp v) : Row (w.setCell p u) e sz v n xs :=
  h.stays fun _ hk => Below.heap_setCell _ _ _ _ (fun e => by subst e; exact hp hk)
theorem Row.drew (h : Row w e sz v n xs) : Row w.drew e sz v n xs := h.stays fun _ _ => rfl
theorem Row.src (h : Row w e sz v n xs) : ∃ A c, v = .slice A n c ∧ n ≤ c ∧ c ≤ maxLen ∧ Src w A xs ∧ (∀ a, A = some a → 0 < xs.length → a.block ∈ fp v) := by
  obtain ⟨hl, h⟩ := h
  rcases h with ⟨A, rfl, rfl⟩ | ⟨g, off, cap, cur, rfl, hc, h2, h3, hg, h4, h5⟩
  · refine ⟨A, 0, rfl, Nat.le_refl _, by unfold maxLen; omega, ?_, ?_⟩
    · intro j u hj
      have : xs = [] := List.eq_nil_of_length_eq_zero (by simpa using hl)
      subst this; simp at hj
    · intro a _ h0; rw [hl] at h0; omega
  · refine ⟨_, cap, rfl, h2, h3, ?_, ?_⟩
    · intro j u hj
      refine ⟨_, rfl, ?_⟩
      rw [add_at, blk_cell hg]
      rw [← h5, List.getElem?_take] at hj
      split at hj
      · rw [List.getElem?_drop] at hj; simpa using hj
      · cases hj
    · intro a ha _
      cases ha
      cases cap with
      | zero => omega
      | succ c => simp [fp]
theorem Row.cell (h : Row w e sz v n xs) {i : Nat} (hi : i < xs.length) : ∃ g off c, v = .slice (some ⟨g, off, none⟩) n c ∧ n ≤ c ∧ c ≤ maxLen ∧ fp v = [g] ∧ w.cell? ⟨g, off + i, none⟩ = some xs[i] ∧ w.frozen? ⟨g, off + i, none⟩ = false := by
  obtain ⟨hl, h⟩ := h
  rcases h with ⟨A, rfl, rfl⟩ | ⟨g, off, cap, cur, rfl, hc, h2, h3, hg, h4, h5⟩
  · simp at hl; subst hl; simp at hi
  · refine ⟨g, off, cap, rfl, h2, h3, ?_, ?_, blk_frozen hg _⟩
    · cases cap with
      | zero => omega
      | succ c => simp [fp]
    · rw [blk_cell hg]
      have h6 : xs[i]? = some xs[i] := List.getElem?_eq_getElem hi
      have h7 : ((cur.toList.drop off).take (n * sz))[i]? = some xs[i] := by rw [h5]; exact h6
      rw [List.getElem?_take] at h7
      split at h7
      · rw [List.getElem?_drop] at h7; simpa using h7
      · cases h7
/-- A row at a block that is known. -/
theorem Row.mk {g off cap : Nat} {cur : Array Value} (hg : w.heap[g]? = some (.cells cur e (0, 0))) (hl : xs.length = n * sz) (hc : 0 < cap) (hn : n ≤ cap) (hm : cap ≤ maxLen) (hs : off + cap * sz ≤ cur.size) (ht : (cur.toList.drop off).take (n * sz) = xs) :
    Row w e sz (.slice (some ⟨g, off, none⟩) n cap) n xs := ⟨hl, .inr ⟨g, off, cap, cur, rfl, hc, hn, hm, hg, hs, ht⟩⟩
/-- A new block whose cells are all there are. -/
theorem Row.new (w : World) (e : TypeId) (sz : Nat) (cur : Array Value) (n : Nat) (hn : 0 < n) (hm : n ≤ maxLen) (hs : cur.size = n * sz) :
    Row (w.alloc (.cells cur e)) e sz (.slice (some ⟨w.heap.size, 0, none⟩) n n) n cur.toList :=
  Row.mk (blk_new w _) (by simpa using hs) hn (Nat.le_refl _) hm (by omega) (by rw [List.drop_zero, ← hs]; exact List.take_length)
/-- A cut of a row. -/
theorem Row.cut {A : Option Addr} {cap : Nat} (h : Row w e sz (.slice A n cap) n xs) (lo hi : Nat) (h1 : lo ≤ hi) (h2 : hi ≤ n) :
    Row w e sz (.slice (if cap = lo then A else A.map (·.add (lo * sz))) (hi - lo) (cap - lo)) (hi - lo) ((xs.drop (lo * sz)).take ((hi - lo) * sz)) := by
  obtain ⟨hl, h⟩ := h
  have e1 : (hi - lo) * sz ≤ xs.length - lo * sz := by
    rw [hl, ← Nat.sub_mul]; exact Nat.mul_le_mul_right _ (by omega)
  refine ⟨by simp; omega, ?_⟩
  rcases h with ⟨A', hA, h0⟩ | ⟨g, off, cap', cur, hv, hc, h3, h4, hg, h5, h6⟩
  · injection hA with ha hb hc; subst hc; subst h0
    refine .inl ⟨if 0 = lo then A else A.map (·.add (lo * sz)), by rw [show hi - lo = 0 by omega]; simp, by omega⟩
  · injection hv with hv1 hv2 hv3; subst hv1; subst hv3
    by_cases hcl : cap = lo
    · subst hcl; rw [if_pos rfl]
      exact .inl ⟨_, by rw [show hi - cap = 0 by omega, Nat.sub_self], by omega⟩
    · rw [if_neg hcl]
      refine .inr ⟨g, off + lo * sz, cap - lo, cur, by simp only [Option.map_some, add_at], by omega, by omega, by omega, hg, ?_, ?_⟩
      · rw [Nat.sub_mul]; have : lo * sz ≤ cap * sz := Nat.mul_le_mul_right _ (by omega); omega
      · rw [← h6, List.drop_take, List.take_take, List.drop_drop]
        congr 1
        rw [Nat.min_eq_left]
        rw [Nat.sub_mul]
        have : hi * sz ≤ n * sz := Nat.mul_le_mul_right _ h2
        omega
theorem fp_cut (A : Option Addr) (cap lo m sz : Nat) (n' : Nat) : ∀ k, k ∈ fp (.slice (if cap = lo then A else A.map (·.add (lo * sz))) m (cap - lo)) → k ∈ fp (.slice A n' cap) := by
  intro k hk
  cases A with
  | none => simp [fp] at hk
  | some a =>
    by_cases h : cap = lo
    · subst h; rw [Nat.sub_self] at hk; rw [if_pos rfl] at hk; simp [fp] at hk
    · rw [if_neg h] at hk
      cases hc : cap - lo with
      | zero => rw [hc] at hk; simp [fp] at hk
      | succ c =>
        rw [hc] at hk
        simp only [Option.map_some, fp, List.mem_singleton] at hk
        cases cap with
        | zero => omega
        | succ c' =>
          simp only [fp, List.mem_singleton]
          rw [hk]; unfold Addr.add; split <;> rfl
/-- One cell is written. -/
theorem Row.set {g off cap : Nat} (h : Row w e sz (.slice (some ⟨g, off, none⟩) n cap) n xs) (i : Nat) (u : Value) (hi : i < xs.length) :
    Row (w.setCell ⟨g, off + i, none⟩ u) e sz (.slice (some ⟨g, off, none⟩) n cap) n (xs.set i u) := by
  obtain ⟨hl, h⟩ := h
  refine ⟨by simpa using hl, ?_⟩
  rcases h with ⟨A', hA, h0⟩ | ⟨g', off', cap', cur, hv, hc, h3, h4, hg, h5, h6⟩
  · subst h0; rw [hl] at hi; simp at hi
  · injection hv with hv1 hv2 hv3; injection hv1 with hv1; injection hv1 with hv1 hv4 _; subst hv1; subst hv4; subst hv3
    refine .inr ⟨g, off, cap, _, rfl, hc, h3, h4, blk_set hg _ _, by simpa using h5, ?_⟩
    have hi' : i < n * sz := by omega
    rw [Array.toList_setIfInBounds, ← h6]
    apply List.ext_getElem?
    intro j
    simp only [List.getElem?_take, List.getElem?_drop, List.getElem?_set, List.length_take, List.length_drop, Array.length_toList]
    have hb : n * sz ≤ cap * sz := Nat.mul_le_mul_right _ h3
    by_cases hj : j < n * sz
    · simp only [hj, if_true]
      by_cases hij : i = j
      · subst hij
        rw [if_pos rfl, if_pos rfl, if_pos (by omega), if_pos (by omega)]
      · rw [if_neg (by omega), if_neg hij]
    · simp only [hj, if_false]
      rw [if_neg (by omega)]
theorem fp_some {g off n cap : Nat} (h : 0 < cap) : fp (.slice (some ⟨g, off, none⟩) n cap) = [g] := by
  cases cap with
  | zero => omega
  | succ c => rfl
theorem fp_zero (A : Option Addr) (n : Nat) : fp (.slice A n 0) = [] := by cases A <;> rfl
theorem fp_nodup (v : Value) : (fp v).Nodup := by
  cases v with
  | slice A n c => cases A <;> cases c <;> simp [fp]
  | _ => simp [fp]
theorem nodup_first {b N : Nat} {X X' R : List Nat} (h : (b :: (X ++ R)).Nodup) (hx : X'.Nodup) (hk : ∀ k, k ∈ X' → k ∈ X ∨ N ≤ k) (hb : b < N) (hr : ∀ k, k ∈ R → k < N) : (b :: (X' ++ R)).Nodup := by
  simp only [List.nodup_cons, List.nodup_append, List.mem_append] at h ⊢
  grind
theorem nodup_mid {b N : Nat} {X Y Y' R : List Nat} (h : (b :: (X ++ (Y ++ R))).Nodup) (hx : Y'.Nodup) (hk : ∀ k, k ∈ Y' → k ∈ Y ∨ N ≤ k) (hb : b < N) (hr : ∀ k, k ∈ X ++ R → k < N) : (b :: (X ++ (Y' ++ R))).Nodup := by
  simp only [List.nodup_cons, List.nodup_append, List.mem_append] at h hr ⊢
  grind
theorem fp_nil (n c : Nat) : fp (.slice none n c) = [] := rfl
end
/-- Bytes, and numbers of a kind, as values. -/
def bs (l : List UInt8) : List Value := l.map fun b => .int .u8 b.toNat
theorem bs_length (l : List UInt8) : (bs l).length = l.length := by simp [bs]
theorem bs_append (l m : List UInt8) : bs (l ++ m) = bs l ++ bs m := by simp [bs]
theorem bs_one (l : List UInt8) : ∀ u ∈ bs l, u.oneCell' = true := by
  intro u hu
  simp only [bs, List.mem_map] at hu
  obtain ⟨b, _, rfl⟩ := hu
  rfl

def ns (k : IntKind) (l : List Int) : List Value := l.map fun n => .int k n
theorem ns_length (k : IntKind) (l : List Int) : (ns k l).length = l.length := by simp [ns]
theorem ns_append (k : IntKind) (l m : List Int) : ns k (l ++ m) = ns k l ++ ns k m := by simp [ns]
theorem ns_one (k : IntKind) (l : List Int) : ∀ u ∈ ns k l, u.oneCell' = true := by
  intro u hu
  simp only [ns, List.mem_map] at hu
  obtain ⟨b, _, rfl⟩ := hu
  rfl
end Go.Proofs.YtomdhiphiediaaaDoor.Rw
