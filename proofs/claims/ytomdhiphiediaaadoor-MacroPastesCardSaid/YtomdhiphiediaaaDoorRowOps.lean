/- append, copy and make over rows that are owned (Row), as run equations and as steps of a walk, over any program. -/
import Derived.Test.YtomdhiphiediaaaDoorRow
import Derived.Laws.CopyOwn
import Derived.Deep.RegionLaw
namespace Go.Proofs.YtomdhiphiediaaaDoor.Rw
open Go Go.RowKit

theorem run_firstCells_src {P : Program} (w : World) (sz m c : Nat) (A : Option Addr) (news : List Value) (hl : news.length = m * sz) (hsrc : Src w A news) :
    (Builtin.firstCells sz m (.slice A m c)).run P w = .ok news.toArray w := by
  cases A with
  | none =>
    have : news = [] := by
      cases news with
      | nil => rfl
      | cons u r => obtain ⟨ad, h, _⟩ := hsrc 0 u rfl; cases h
    subst this
    exact run_firstCells_none w sz m m c
  | some a =>
    refine run_firstCells_some w sz m a m c news hl fun j u hj => ?_
    obtain ⟨ad, h, hc⟩ := hsrc j u hj
    cases h; exact hc

theorem Src.pos {w : World} {sz m : Nat} {A : Option Addr} {news : List Value} (hl : news.length = m * sz) (hsrc : Src w A news) (hm : 0 < m) (hsz : 0 < sz) : ∃ a, A = some a := by
  cases news with
  | nil => rw [List.length_nil] at hl; have := Nat.mul_pos hm hsz; omega
  | cons u r => obtain ⟨ad, h, _⟩ := hsrc 0 u rfl; exact ⟨ad, h⟩
theorem Src.new (w : World) (cur : Array Value) (t : TypeId) : Src (w.alloc (.cells cur t)) (some ⟨w.heap.size, 0, none⟩) cur.toList := fun j u hj => by
  refine ⟨_, rfl, ?_⟩
  rw [add_at, blk_cell (blk_new w _), Nat.zero_add]
  simpa using hj
theorem Src.drew {w : World} {A : Option Addr} {xs : List Value} (h : Src w A xs) : Src w.drew A xs := h

section
variable {P : Program} (w : World)

theorem run_append_row (t ty e : TypeId) (i : TypeInfo) (z : Value) (sz bytes : Nat) (ht : P.underlying t = some (.slice e)) (hi : P.info? e = some i) (hz : i.zero = some z)
    (hsize : i.size = sz) (hby : i.bytes = bytes) (hzs : z.cells.size = sz) (hsz : 0 < sz)
    (v : Value) (n : Nat) (xs : List Value) (hrow : Row w e sz v n xs)
    (A : Option Addr) (m c : Nat) (news : List Value) (hl : news.length = m * sz) (hsrc : Src w A news) (h1 : ∀ u ∈ news, u.oneCell' = true)
    (h63 : n + m ≤ maxLen) (hbytes : (n + m) * bytes ≤ 140737488355328) :
    ∃ v' w', (Builtin.append_ #[t, t] ty #[v, .slice A m c]).run P w = .ok v' w' ∧ Row w' e sz v' (n + m) (xs ++ news) ∧ Keeps (fp v) w w' ∧ (∀ k, k ∈ fp v' → k ∈ fp v ∨ w.heap.size ≤ k) := by
  subst hsize
  subst hby
  have hlen : (xs ++ news).length = (n + m) * i.size := by rw [List.length_append, hrow.1, hl, Nat.add_mul]
  -- a new block
  have grown : ∀ (old : Nat), old < n + m →
      Row (w.drew.alloc (.cells (xs.toArray ++ news.toArray ++ Builtin.zeroCells z.cells (grownCap w (n + m) old e - (n + m))) e)) e i.size
        (.slice (some ⟨w.heap.size, 0, none⟩) (n + m) (grownCap w (n + m) old e)) (n + m) (xs ++ news) ∧
      Keeps (fp v) w (w.drew.alloc (.cells (xs.toArray ++ news.toArray ++ Builtin.zeroCells z.cells (grownCap w (n + m) old e - (n + m))) e)) ∧
      (∀ k, k ∈ fp (.slice (some ⟨w.heap.size, 0, none⟩) (n + m) (grownCap w (n + m) old e)) → k ∈ fp v ∨ w.heap.size ≤ k) := by
    intro old ho
    have hge := grownCap_ge w (n + m) old e
    have hcm : grownCap w (n + m) old e ≤ maxLen := grownCap_le_maxLen w (n + m) old e h63
    refine ⟨Row.mk (w := w.drew.alloc _) (blk_new w.drew _) hlen (by omega) hge hcm ?_ ?_, ((Keeps.refl _ _).drew).alloc _, ?_⟩
    · simp only [Array.size_append, List.size_toArray, size_zeroCells, hzs, hrow.1, hl, ← Nat.add_mul]
      have : n + m + (grownCap w (n + m) old e - (n + m)) = grownCap w (n + m) old e := by omega
      rw [this]; omega
    · rw [List.drop_zero]
      simp only [Array.toList_append]
      rw [← hlen]
      exact List.take_left
    · rw [fp_some (by omega)]
      intro k hk
      simp only [List.mem_singleton] at hk
      right; omega
  rcases hrow.2 with ⟨A0, rfl, rfl⟩ | ⟨g, off, cap, cur, rfl, hc0, hnc, hcm, hg, hcs, htake⟩
  · have hx : xs = [] := List.eq_nil_of_length_eq_zero (by rw [hrow.1]; simp)
    subst hx
    by_cases hm : m = 0
    · subst hm
      have hn : news = [] := List.eq_nil_of_length_eq_zero (by rw [hl]; simp)
      subst hn
      refine ⟨.slice A0 0 0, w, ?_, Row.nil w e i.size A0, Keeps.refl _ _, fun k hk => .inl hk⟩
      have hf := run_firstCells_src (P := P) w i.size 0 c A [] (by simp) hsrc
      cases A0 <;> simp [Builtin.append_, run_underlying ht, sizeOf, typeInfo, hi, Builtin.lenOf, hf, storeCells]
    · obtain ⟨a, rfl⟩ := Src.pos hl hsrc (by omega) hsz
      have hnews : ∀ j u, news[j]? = some u → w.cell? (a.add j) = some u := fun j u hj => by
        obtain ⟨ad, h, hc⟩ := hsrc j u hj; cases h; exact hc
      have hgr := grown 0 (by omega)
      cases A0 with
      | none =>
        have hr := run_append_nil (P := P) w t ty e i z ht hi hz a m c news hl hnews (by omega) (by unfold maxLen at h63; omega) (by have hb := hbytes; simp only [Nat.zero_add] at hb; omega)
        simp only [Nat.zero_add, List.nil_append, Array.empty_append] at hgr ⊢
        exact ⟨_, _, hr, hgr.1, hgr.2.1, hgr.2.2⟩
      | some b =>
        have hr := run_append_grow (P := P) w t ty e i z ht hi hz b 0 0 [] (by simp) (by intro j v hj; simp at hj) a m c news hl hnews (by omega) (by unfold maxLen at h63; omega) (growslice_fits (by omega) hbytes)
        exact ⟨_, _, hr, hgr.1, hgr.2.1, hgr.2.2⟩
  · by_cases hroom : n + m ≤ cap
    · have hle : (n + m) * i.size ≤ cap * i.size := Nat.mul_le_mul_right _ hroom
      have hf := run_firstCells_src (P := P) w i.size m c A news hl hsrc
      have hst := run_storeCells_at P g (off + n * i.size) e news 0 cur w hg (by rw [hl, Nat.add_zero]; rw [Nat.add_mul] at hle; omega) h1
      simp only [Nat.add_zero] at hst
      refine ⟨_, _, by simp [Builtin.append_, run_underlying ht, sizeOf, typeInfo, hi, Builtin.lenOf, hroom, hf, add_at, hst]; exact ⟨rfl, rfl⟩, Row.mk (setRow_heap w g cur _ e _ hg) hlen hc0 hroom hcm ?_ ?_, (Keeps.refl _ _).setRow g _ (.inl (by rw [fp_some hc0]; simp)), ?_⟩
      · rw [Nat.add_mul] at hle
        simp only [List.size_toArray, List.length_append, List.length_take, List.length_drop, Array.length_toList]
        omega
      · rw [Nat.add_mul] at hle
        rw [Nat.add_mul, ← hl, ← htake]
        apply List.ext_getElem?
        intro j
        have e1 : min (n * i.size) (cur.size - off) = n * i.size := by omega
        simp only [List.getElem?_take, List.getElem?_drop, List.getElem?_append, List.length_take, List.length_drop, Array.length_toList]
        by_cases hj : j < n * i.size
        · rw [if_pos (by omega), if_pos (by omega), if_pos (by omega), e1, if_pos hj, if_pos hj]
        · by_cases hj2 : j < n * i.size + news.length
          · simp only [hj, if_false, hj2, if_true, e1]
            rw [show min (off + n * i.size) cur.size = off + n * i.size by omega]
            rw [if_neg (by omega), if_pos (by omega)]
            congr 1; omega
          · simp only [hj2, if_false, e1, hj]
            rw [List.getElem?_eq_none (by omega)]
      · intro k hk; left; rw [fp_some hc0]; rw [fp_some hc0] at hk; exact hk
    · obtain ⟨a, rfl⟩ := Src.pos hl hsrc (by omega) hsz
      have hnews : ∀ j u, news[j]? = some u → w.cell? (a.add j) = some u := fun j u hj => by
        obtain ⟨ad, h, hc⟩ := hsrc j u hj; cases h; exact hc
      have holds : ∀ j u, xs[j]? = some u → w.cell? ((⟨g, off, none⟩ : Addr).add j) = some u := fun j u hj => by
        obtain ⟨A', c', hv, _, _, hs, _⟩ := hrow.src
        obtain ⟨ad, h, hc⟩ := hs j u hj
        injection hv with hv _ _
        rw [h] at hv; cases hv; exact hc
      have hr := run_append_grow (P := P) w t ty e i z ht hi hz ⟨g, off, none⟩ n cap xs hrow.1 holds a m c news hl hnews (by omega) (by unfold maxLen at h63; omega) (growslice_fits (by omega) hbytes)
      have hgr := grown cap (by omega)
      exact ⟨_, _, hr, hgr.1, hgr.2.1, hgr.2.2⟩
end

/-- What the program's tables say of a slice type and its element. -/
structure El (P : Program) (t e : TypeId) (z : Value) (sz bytes : Nat) : Prop where
  under : P.underlying t = some (.slice e)
  info : (P.info? e).map (fun i => (i.zero, i.size, i.bytes)) = some (some z, sz, bytes)
  zcells : z.cells.size = sz
  pos : 0 < sz

theorem wpList_append_row {P : Program} {w : World} {ops : Array Oper} {rest : List Oper} {o : Oper} {a : Act} {Q : Exit → Act → World → Prop} (hgd : o.guard = none) (s x : Operand) (t : TypeId)
    (ho : o.op = .call { callee := .builtin .append, args := #[s, x], argTypes := #[t, t] })
    {e : TypeId} {z : Value} {sz bytes : Nat} (hE : El P t e z sz bytes)
    (v : Value) (n : Nat) (xs : List Value) (hs : a.eval s = v) (hrow : Row w e sz v n xs)
    (A : Option Addr) (m c : Nat) (news : List Value) (hx : a.eval x = .slice A m c) (hl : news.length = m * sz) (hsrc : Src w A news) (h1 : ∀ u ∈ news, u.oneCell' = true)
    (h63 : n + m ≤ maxLen) (hbytes : (n + m) * bytes ≤ 140737488355328)
    (h : ∀ A' c' w', Row w' e sz (.slice A' (n + m) c') (n + m) (xs ++ news) → Keeps (fp v) w w' → (∀ k, k ∈ fp (.slice A' (n + m) c') → k ∈ fp v ∨ w.heap.size ≤ k) → wpList P ops Q rest (a.put o.dst (.slice A' (n + m) c')) w') :
    wpList P ops Q (o :: rest) a w := by
  obtain ⟨i, hi, hz, hsize, hby⟩ := info_parts hE.info
  refine wpList_plain hgd fun K hK => ?_
  obtain ⟨v', w', hr, h2, h3, h4⟩ := run_append_row (P := P) w t o.type e i z sz bytes hE.under hi hz hsize hby hE.zcells hE.pos v n xs hrow A m c news hl hsrc h1 h63 hbytes
  obtain ⟨A', c', rfl, _⟩ := h2.slice
  unfold Oper.wp execOp
  simp only [ho, resolve, invoke, builtin, Sem.run_bind, Sem.run_pure, Result.andThen_ok, List.map_toArray, List.map_cons, List.map_nil, hs, hx, hr]
  exact hK _ _ (h A' c' w' h2 h3 h4)

/-- make([]T, n): the cells of the zero value, n times over. -/
theorem wpList_make_row {P : Program} {w : World} {ops : Array Oper} {rest : List Oper} {o : Oper} {a : Act} {Q : Exit → Act → World → Prop} (hgd : o.guard = none) (l c : Operand) (t : TypeId)
    (ho : o.op = .makeSlice t l c) {e : TypeId} {z : Value} {bytes : Nat} (hE : El P t e z 1 bytes) (hz1 : z.cells = #[z])
    (kl kc : IntKind) (n : Nat) (hl : a.eval l = .int kl n) (hc : a.eval c = .int kc n) (hbytes : bytes * n ≤ 281474976710656) (h63 : n ≤ maxLen)
    (h : ∀ w', Row w' e 1 (.slice (some ⟨w.heap.size, 0, none⟩) n n) n (List.replicate n z) → Keeps [] w w' → Hid (w'.heap.size = w.heap.size + 1) → wpList P ops Q rest (a.put o.dst (.slice (some ⟨w.heap.size, 0, none⟩) n n)) w') :
    wpList P ops Q (o :: rest) a w := by
  obtain ⟨i, hi, hz, hsize, hby⟩ := info_parts hE.info
  refine wpList_plain hgd fun K hK => ?_
  have h63' : (n : Int) ≤ 9223372036854775807 := by unfold maxLen at h63; omega
  have hb' : (i.bytes : Int) * (n : Int) ≤ 281474976710656 := by
    rw [hby]
    have : ((bytes * n : Nat) : Int) ≤ 281474976710656 := by omega
    rwa [Int.natCast_mul] at this
  have hr := run_make (P := P) w t e i z hE.under hi hz kl kc n n (by omega) (by omega) hb' h63'
  simp only [Int.toNat_natCast, hsize, Nat.mul_one] at hr
  have hm : (madeCells z.cells n).toList = List.replicate n z := by
    apply List.ext_getElem
    · simp [size_madeCells]
    · intro j h1 h2
      simp only [Array.length_toList, size_madeCells] at h1
      simp [madeCells, hz1, Nat.mod_one]
  unfold Oper.wp execOp
  simp only [ho, hl, hc, Sem.run_bind, hr, Result.andThen_ok, Sem.run_pure]
  refine hK _ _ (h _ ?_ ((Keeps.refl _ _).alloc _) (show _ = _ by simp))
  by_cases h0 : n = 0
  · subst h0; exact Row.nil _ _ _ _
  · rw [← hm]; exact Row.new w e 1 _ n (by omega) h63 (by rw [size_madeCells]; omega)

/-- copy(v[o:o+dl], x): the row behind it. -/
theorem run_copy_cut {P : Program} {w : World} (t t' ty : TypeId) {e : TypeId} {z : Value} {bytes : Nat} (hE : El P t e z 1 bytes)
    (A : Option Addr) (n cap : Nat) (xs : List Value) (hrow : Row w e 1 (.slice A n cap) n xs)
    (D : Option Addr) (dl dc p : Nat) (hD : 0 < dl → p + dl ≤ n ∧ ∃ g off, A = some ⟨g, off, none⟩ ∧ D = some ⟨g, off + p, none⟩)
    (S : Option Addr) (m mc : Nat) (news : List Value) (hl : news.length = m) (hsrc : Src w S news) (h1 : ∀ u ∈ news, u.oneCell' = true) :
    ∃ w', (Builtin.copy_ #[t, t'] ty #[.slice D dl dc, .slice S m mc]).run P w = .ok (.int .i64 (Nat.min m dl : Nat)) w' ∧
      Row w' e 1 (.slice A n cap) n (xs.take p ++ (news.take dl ++ xs.drop (p + (news.take dl).length))) ∧ Keeps (fp (.slice A n cap)) w w' ∧ w'.heap.size = w.heap.size := by
  have hsz : (P.info? e).map (·.size) = some 1 := by
    obtain ⟨i, hi, _, hsize, _⟩ := info_parts hE.info
    rw [hi, Option.map_some, hsize]
  by_cases h0 : Nat.min m dl = 0
  · have hrun := run_copy_none (P := P) w t t' ty e D S dl dc m mc hE.under hsz h0
    have hn : news.take dl = [] := by
      apply List.eq_nil_of_length_eq_zero
      rw [List.length_take, hl]
      have := h0; simp only [Nat.min_def] at this ⊢; split at this <;> split <;> omega
    rw [h0]
    exact ⟨w, hrun, by rw [hn]; simpa using hrow, Keeps.refl _ _, rfl⟩
  · have hmin : 0 < m ∧ 0 < dl := by
      simp only [Nat.min_def] at h0; split at h0 <;> omega
    obtain ⟨hp, g, off, rfl, rfl⟩ := hD hmin.2
    obtain ⟨ad, rfl⟩ := Src.pos (sz := 1) (by rw [hl, Nat.mul_one]) hsrc hmin.1 (by decide)
    have hlk : (news.take dl).length = Nat.min m dl := by rw [List.length_take, hl, Nat.min_comm]
    rcases hrow.2 with ⟨A', hA, hz0⟩ | ⟨g', off', cap', cur, hv, hc, h3, h4, hg, h5, h6⟩
    · omega
    · injection hv with hv1 hv2 hv3; injection hv1 with hv1; injection hv1 with hv1 hv4 _; subst hv1; subst hv4; subst hv3
      have hsrc' : ∀ j v, (news.take dl)[j]? = some v → w.cell? (ad.add j) = some v := fun j v hj => by
        obtain ⟨ad', h, hc⟩ := hsrc.take dl j v hj
        cases h; exact hc
      have hkd : Nat.min m dl ≤ dl := Nat.min_le_right _ _
      have hrun := run_copy_row (P := P) w t t' ty e g (off + p) dl dc ad m mc cur e (news.take dl) hE.under hsz hg hlk hsrc' (by omega) (fun v hv => h1 v (List.mem_of_mem_take hv))
      rw [hlk, List.append_assoc] at hrun
      refine ⟨_, hrun, ?_, (Keeps.refl _ _).setRow g _ (.inl (by rw [fp_some hc]; simp)), by simp [World.setRow]⟩
      have hxl := hrow.1
      rw [Nat.mul_one] at hxl h5 h6
      have hkm : Nat.min m dl ≤ m := Nat.min_le_left _ _
      generalize hcs : news.take dl = cs at *
      generalize hk : Nat.min m dl = k at *
      refine Row.mk (setRow_heap w g cur _ e _ hg) ?_ hc h3 h4 ?_ ?_
      · simp only [List.length_append, List.length_take, List.length_drop, hlk, hxl]
        omega
      · simp only [List.size_toArray, List.length_append, List.length_take, List.length_drop, Array.length_toList, hlk]
        omega
      · rw [← h6, Nat.mul_one]
        apply List.ext_getElem?
        intro j
        simp only [List.getElem?_take, List.getElem?_drop, List.getElem?_append, List.length_take, List.length_drop, Array.length_toList, hlk]
        rw [show min (off + p) cur.size = off + p by omega, show min p (min n (cur.size - off)) = p by omega]
        by_cases hj : j < n
        · by_cases ha : j < p
          · rw [if_pos hj, if_pos (by omega), if_pos (by omega), if_pos ha, if_pos ha, if_pos hj]
          · by_cases hb : j < p + k
            · rw [if_pos hj, if_neg (by omega), if_pos (by omega), if_neg (by omega), if_pos (by omega)]
              congr 1; omega
            · rw [if_pos hj, if_neg (by omega), if_neg (by omega), if_neg (by omega), if_neg (by omega), if_pos (by omega)]
              congr 1; omega
        · rw [if_neg hj, if_neg (by omega), if_neg (by omega), if_neg (by omega)]

theorem wpList_copy_row {P : Program} {w : World} {ops : Array Oper} {rest : List Oper} {o : Oper} {a : Act} {Q : Exit → Act → World → Prop} (hgd : o.guard = none) (d s : Operand) (t t' : TypeId)
    (ho : o.op = .call { callee := .builtin .copy, args := #[d, s], argTypes := #[t, t'] }) {e : TypeId} {z : Value} {bytes : Nat} (hE : El P t e z 1 bytes)
    (A : Option Addr) (n cap : Nat) (xs : List Value) (hrow : Row w e 1 (.slice A n cap) n xs)
    (D : Option Addr) (dl dc p : Nat) (hd : a.eval d = .slice D dl dc) (hD : 0 < dl → p + dl ≤ n ∧ ∃ g off, A = some ⟨g, off, none⟩ ∧ D = some ⟨g, off + p, none⟩)
    (S : Option Addr) (m mc : Nat) (news : List Value) (hs : a.eval s = .slice S m mc) (hl : news.length = m) (hsrc : Src w S news) (h1 : ∀ u ∈ news, u.oneCell' = true)
    (h : ∀ w', Row w' e 1 (.slice A n cap) n (xs.take p ++ (news.take dl ++ xs.drop (p + (news.take dl).length))) → Keeps (fp (.slice A n cap)) w w' → Hid (w'.heap.size = w.heap.size) →
      wpList P ops Q rest (a.put o.dst (.int .i64 (Nat.min m dl : Nat))) w') :
    wpList P ops Q (o :: rest) a w := by
  refine wpList_plain hgd fun K hK => ?_
  obtain ⟨w', hrun, h2, h3, h4⟩ := run_copy_cut (P := P) t t' o.type hE A n cap xs hrow D dl dc p hD S m mc news hl hsrc h1
  unfold Oper.wp
  simp [execOp, ho, resolve, invoke, builtin, hd, hs, hrun, Result.andThen]
  exact hK _ _ (h w' h2 h3 h4)
/-- The same as a step of a region that draws its order. -/
theorem step_copy_row {P : Program} {ops : Array Oper} {o : Oper} {a : Act} {w : World} {K : Act → World → Prop} {Q : Exit → Act → World → Prop} {E : Prop} (hgd : o.guard = none) (d s : Operand) (t t' : TypeId)
    (ho : o.op = .call { callee := .builtin .copy, args := #[d, s], argTypes := #[t, t'] }) {e : TypeId} {z : Value} {bytes : Nat} (hE : El P t e z 1 bytes)
    (A : Option Addr) (n cap : Nat) (xs : List Value) (hrow : Row w e 1 (.slice A n cap) n xs)
    (D : Option Addr) (dl dc p : Nat) (hd : a.eval d = .slice D dl dc) (hD : 0 < dl → p + dl ≤ n ∧ ∃ g off, A = some ⟨g, off, none⟩ ∧ D = some ⟨g, off + p, none⟩)
    (S : Option Addr) (m mc : Nat) (news : List Value) (hs : a.eval s = .slice S m mc) (hl : news.length = m) (hsrc : Src w S news) (h1 : ∀ u ∈ news, u.oneCell' = true)
    (h : ∀ w', Row w' e 1 (.slice A n cap) n (xs.take p ++ (news.take dl ++ xs.drop (p + (news.take dl).length))) → Keeps (fp (.slice A n cap)) w w' → Hid (w'.heap.size = w.heap.size) → K (a.put o.dst (.int .i64 (Nat.min m dl : Nat))) w') :
    if Region.wanted o (yielded ops a.tmps) = true then Oper.wp P o a w K Q else E := by
  have hw : Region.wanted o (yielded ops a.tmps) = true := by simp [Region.wanted, hgd]
  rw [if_pos hw]
  obtain ⟨w', hrun, h2, h3, h4⟩ := run_copy_cut (P := P) t t' o.type hE A n cap xs hrow D dl dc p hD S m mc news hl hsrc h1
  unfold Oper.wp
  simp [execOp, ho, resolve, invoke, builtin, hd, hs, hrun, Result.andThen]
  exact h w' h2 h3 h4

/-- The address of a cut, behind a name: so that a walk does not part on it. -/
def cutA (A : Option Addr) (c k : Nat) : Option Addr := if c = k then A else A.map (·.add k)
theorem Src.cutA {w : World} {A : Option Addr} {xs : List Value} (h : Src w A xs) (c k : Nat) (hc : xs.length ≤ c) : Src w (cutA A c k) (xs.drop k) := h.cut c k hc
theorem Row.cutA {w : World} {e : TypeId} {n cap : Nat} {A : Option Addr} {xs : List Value} (h : Row w e 1 (.slice A n cap) n xs) (lo hi : Nat) (h1 : lo ≤ hi) (h2 : hi ≤ n) :
    Row w e 1 (.slice (cutA A cap lo) (hi - lo) (cap - lo)) (hi - lo) ((xs.drop lo).take (hi - lo)) := by
  have := h.cut lo hi h1 h2
  simpa only [Nat.mul_one, Rw.cutA] using this
theorem fp_cutA (A : Option Addr) (cap lo m n' : Nat) : ∀ k, k ∈ fp (.slice (cutA A cap lo) m (cap - lo)) → k ∈ fp (.slice A n' cap) := by
  intro k hk
  have := fp_cut A cap lo m 1 n' k
  simp only [Nat.mul_one] at this
  exact this hk
theorem wpList_slice_lh {P : Program} {w : World} {ops : Array Oper} {rest : List Oper} {o : Oper} {a : Act} {Q : Exit → Act → World → Prop} (hgd : o.guard = none) (x lo hi : Operand) (t : TypeId)
    (ho : o.op = .slice t x (some lo) (some hi) none) {e : TypeId} {z : Value} {bytes : Nat} (hE : El P t e z 1 bytes)
    (A : Option Addr) (n c l h : Nat) (hx : a.eval x = .slice A n c) (hl : a.eval lo = .int .i64 l) (hh : a.eval hi = .int .i64 h) (h1 : l ≤ h) (h2 : h ≤ c)
    (hK : wpList P ops Q rest (a.put o.dst (.slice (cutA A c l) (h - l) (c - l))) w) : wpList P ops Q (o :: rest) a w := by
  refine wpList_plain hgd fun K hK' => ?_
  obtain ⟨i, hi', _, hsize, _⟩ := info_parts hE.info
  have hel : P.elem t = e := by simp [Program.elem, hE.under]
  have hr : (Instr.sliceAt t (.slice A n c) (some (.int .i64 (l : Int))) (some (.int .i64 (h : Int))) none).run P w = .ok (.slice (cutA A c l) (h - l) (c - l)) w := by
    rw [run_sliceAt_slice _ _ _ _ _ _ (by rw [hel]; exact hE.under), run_slice_lh (P := P) w t A n c (by rw [hel]; exact hE.under) .i64 .i64 l h (by omega) (by omega) (by omega)]
    simp [hel, sizeOf, typeInfo, hi', hsize, sliced, cutA, Result.andThen]
  unfold Oper.wp execOp
  simp [ho, hx, hl, hh, hr, Result.andThen]
  exact hK' _ _ hK
theorem wpList_slice_l {P : Program} {w : World} {ops : Array Oper} {rest : List Oper} {o : Oper} {a : Act} {Q : Exit → Act → World → Prop} (hgd : o.guard = none) (x lo : Operand) (t : TypeId)
    (ho : o.op = .slice t x (some lo) none none) {e : TypeId} {z : Value} {bytes : Nat} (hE : El P t e z 1 bytes)
    (A : Option Addr) (n c l : Nat) (hx : a.eval x = .slice A n c) (hl : a.eval lo = .int .i64 l) (h1 : l ≤ n)
    (hK : wpList P ops Q rest (a.put o.dst (.slice (cutA A c l) (n - l) (c - l))) w) : wpList P ops Q (o :: rest) a w := by
  refine wpList_plain hgd fun K hK' => ?_
  obtain ⟨i, hi', _, hsize, _⟩ := info_parts hE.info
  have hel : P.elem t = e := by simp [Program.elem, hE.under]
  have hr : (Instr.sliceAt t (.slice A n c) (some (.int .i64 (l : Int))) none none).run P w = .ok (.slice (cutA A c l) (n - l) (c - l)) w := by
    rw [run_sliceAt_slice _ _ _ _ _ _ (by rw [hel]; exact hE.under), run_slice_l (P := P) w t A n c (by rw [hel]; exact hE.under) .i64 l (by omega) (by omega)]
    simp [hel, sizeOf, typeInfo, hi', hsize, sliced, cutA, Result.andThen]
  unfold Oper.wp execOp
  simp [ho, hx, hl, hr, Result.andThen]
  exact hK' _ _ hK
end Go.Proofs.YtomdhiphiediaaaDoor.Rw
