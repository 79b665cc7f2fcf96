/- lanyardlaw07.Op as an argument: a struct by value, opened; append as a step of a region that draws. -/
import Derived.Test.YtmnmdpgckefefaaDoorSlR
import Derived.Test.YtmnmdpgckefefaaDoorArg
import Derived.Deep.RegionLaw
import Derived.Lib.SmallJoins
namespace Go.Proofs.YtmnmdpgckefefaaDoor.OpArg
open Go Go.RowKit Go.Proofs.YtmnmdpgckefefaaDoor.Rw Go.Proofs.YtmnmdpgckefefaaDoor.SlR Go.Proofs.YtmnmdpgckefefaaDoor.Arg Go.ChangeShapes Go.WideShapes Go.ChangeAt

theorem cell_lt {w : World} {a : Addr} {u : Value} (h : w.cell? a = some u) : a.block < w.heap.size := by
  unfold World.cell? at h
  split at h
  · rename_i hh; exact blk_lt hh
  · cases h
theorem add_block (a : Addr) (j : Nat) : (a.add j).block = a.block := by unfold Addr.add; split <;> rfl
theorem Src.lt {w : World} {A : Option Addr} {xs : List Value} (h : Src w A xs) : ∀ a, A = some a → 0 < xs.length → a.block < w.heap.size := by
  intro a ha h0
  obtain ⟨ad, had, hc⟩ := h 0 xs[0] (List.getElem?_eq_getElem h0)
  rw [had] at ha; cases ha
  have := cell_lt hc
  rwa [add_block] at this

theorem step_append_row {P : Program} {ops : Array Oper} {o : Oper} {a : Act} {w : World} {K : Act → World → Prop} {Q : Exit → Act → World → Prop} {E : Prop} (hgd : o.guard = none) (s x : Operand) (t : TypeId)
    (ho : o.op = .call { callee := .builtin .append, args := #[s, x], argTypes := #[t, t] })
    {e : TypeId} {z : Value} {sz bytes : Nat} (hE : El P t e z sz bytes)
    (v : Value) (n : Nat) (xs : List Value) (hs : a.eval s = v) (hrow : Row w e sz v n xs)
    (A : Option Addr) (m c : Nat) (news : List Value) (hx : a.eval x = .slice A m c) (hl : news.length = m * sz) (hsrc : Src w A news) (h1 : ∀ u ∈ news, u.oneCell' = true)
    (h63 : n + m ≤ maxLen) (hbytes : (n + m) * bytes ≤ 140737488355328)
    (h : ∀ A' c' w', Row w' e sz (.slice A' (n + m) c') (n + m) (xs ++ news) → Keeps (fp v) w w' → (∀ k, k ∈ fp (.slice A' (n + m) c') → k ∈ fp v ∨ w.heap.size ≤ k) → K (a.put o.dst (.slice A' (n + m) c')) w') :
    if Region.wanted o (yielded ops a.tmps) = true then Oper.wp P o a w K Q else E := by
  have hw : Region.wanted o (yielded ops a.tmps) = true := by simp [Region.wanted, hgd]
  rw [if_pos hw]
  obtain ⟨i, hi, hz, hsize, hby⟩ := info_parts hE.info
  obtain ⟨v', w', hr, h2, h3, h4⟩ := run_append_row (P := P) w t o.type e i z sz bytes hE.under hi hz hsize hby hE.zcells hE.pos v n xs hrow A m c news hl hsrc h1 h63 hbytes
  obtain ⟨A', c', rfl, _⟩ := h2.slice
  unfold Oper.wp execOp
  simp only [ho, resolve, invoke, builtin, Sem.run_bind, Sem.run_pure, Result.andThen_ok, List.map_toArray, List.map_cons, List.map_nil, hs, hx, hr]
  exact h A' c' w' h2 h3 h4

section
variable {H : Type} {enc : TypeId × Value → H} {W : World} {base : Nat} {spare : Nat → Bool} {held : Bool} {d : DataW H} {ps : List MemPlace}
theorem trod_struct5 {P : Program} {t : TypeId} {f0 f1 f2 f3 f4 : Field} {fuel : Nat} {cs : List Value} {x : DataW H × List MemPlace} (ht : P.underlying t = some (.struct #[f0, f1, f2, f3, f4])) (h : DataW.trod enc P W base spare held fuel t cs = some x) :
    ∃ y0 y1 y2 y3 y4, ∃ n : Nat, x = (.agg [y0.1, y1.1, y2.1, y3.1, y4.1], y0.2 ++ (y1.2 ++ (y2.2 ++ (y3.2 ++ y4.2)))) ∧ DataW.trod enc P W base spare held n f0.type ((cs.drop f0.offset).take (P.cellsOf f0.type)) = some y0 ∧
      DataW.trod enc P W base spare held n f1.type ((cs.drop f1.offset).take (P.cellsOf f1.type)) = some y1 ∧ DataW.trod enc P W base spare held n f2.type ((cs.drop f2.offset).take (P.cellsOf f2.type)) = some y2 ∧
      DataW.trod enc P W base spare held n f3.type ((cs.drop f3.offset).take (P.cellsOf f3.type)) = some y3 ∧ DataW.trod enc P W base spare held n f4.type ((cs.drop f4.offset).take (P.cellsOf f4.type)) = some y4 := by
  obtain ⟨xs, n, _, rfl, _, hlen, hf⟩ := DataW.trod_struct ht h
  match xs, hlen with
  | [y0, y1, y2, y3, y4], _ => exact ⟨y0, y1, y2, y3, y4, n, by simp, by simpa using hf 0 f0 rfl, by simpa using hf 1 f1 rfl, by simpa using hf 2 f2 rfl, by simpa using hf 3 f3 rfl, by simpa using hf 4 f4 rfl⟩
theorem trod_struct3' {P : Program} {t : TypeId} {f0 f1 f2 : Field} {fuel : Nat} {cs : List Value} {x : DataW H × List MemPlace} (ht : P.underlying t = some (.struct #[f0, f1, f2])) (h : DataW.trod enc P W base spare held fuel t cs = some x) :
    ∃ y0 y1 y2, ∃ n : Nat, x = (.agg [y0.1, y1.1, y2.1], y0.2 ++ (y1.2 ++ y2.2)) ∧ DataW.trod enc P W base spare held n f0.type ((cs.drop f0.offset).take (P.cellsOf f0.type)) = some y0 ∧
      DataW.trod enc P W base spare held n f1.type ((cs.drop f1.offset).take (P.cellsOf f1.type)) = some y1 ∧ DataW.trod enc P W base spare held n f2.type ((cs.drop f2.offset).take (P.cellsOf f2.type)) = some y2 := by
  obtain ⟨xs, n, _, rfl, _, hlen, hf⟩ := DataW.trod_struct ht h
  match xs, hlen with
  | [y0, y1, y2], _ => exact ⟨y0, y1, y2, n, by simp, by simpa using hf 0 f0 rfl, by simpa using hf 1 f1 rfl, by simpa using hf 2 f2 rfl⟩
theorem c3 : Tryd.prog.cellsOf 3 = 1 := by kernel_rfl
theorem cR : Tryd.prog.cellsOf 22 = 1 := by kernel_rfl
theorem cr : Tryd.prog.cellsOf 21 = 1 := by kernel_rfl
theorem cE : Tryd.prog.cellsOf 24 = 3 := by kernel_rfl
theorem cO : Tryd.prog.cellsOf 26 = 7 := by kernel_rfl
/-- A whole number's range. -/
def I64 (n : Int) : Prop := -9223372036854775808 ≤ n ∧ n ≤ 9223372036854775807
theorem i64_of {n : Int} (h : (Lit.int .i64 n).wf = true) : I64 n := by
  have h2 : (decide (-9223372036854775808 ≤ n) && decide (n ≤ 9223372036854775807)) = true := h
  simp at h2
  exact h2
/-- Runes that came in. -/
structure Runes (W : World) (A : Option Addr) (n c : Nat) (l : List Int) : Prop where
  len : l.length = n
  src : Src W A (ns .i32 l)
  cap : n ≤ c
  max : c ≤ maxLen
  wf : ∀ r ∈ l, (Lit.int .i32 r).wf = true
theorem runes_of {fuel : Nat} {cs : List Value} {x : DataW H × List MemPlace} (h : DataW.trod enc Tryd.prog W base spare held fuel 22 cs = some x) : ∃ A n c, ∃ l : List Int, cs = [.slice A n c] ∧ Runes W A n c l ∧ ((x.1 = .nil ∧ l = []) ∨ ∃ el sp, x.1 = .slice el sp ∧ el.length = l.length) := by
  obtain ⟨A, n, c, l, h1, h2, h3, h4, h5, h6, h7⟩ := open_nums_data (d := x.1) (ps := x.2) Tryd.underlying22 (by kernel_rfl) cr (h.trans rfl)
  exact ⟨A, n, c, l, h1, ⟨h2, h3, h4, h5, h6⟩, h7⟩
theorem open_runes {A : Option Addr} {n c : Nat} (h : DataW.Trod enc Tryd.prog W base spare held 22 (.slice A n c) d ps) : ∃ l : List Int, Runes W A n c l ∧ ((d = .nil ∧ l = []) ∨ ∃ el sp, d = .slice el sp ∧ el.length = l.length) := by
  obtain ⟨fuel, hf⟩ := h
  obtain ⟨A', n', c', l, hcs, hr, hd⟩ := runes_of hf
  simp [Value.cells] at hcs
  obtain ⟨rfl, rfl, rfl⟩ := hcs
  exact ⟨l, hr, hd⟩
theorem runes_weight {ts : List TypeId} {ds : List (DataW H)} {l : List Int} (j : Nat) (h : (DataW.weightsEach Tryd.prog ts ds).all (· ≤ reachBytes) = true) (ht : ts[j]? = some 22) (hd : ds[j]? = some d) (hD : (d = .nil ∧ l = []) ∨ ∃ el sp, d = .slice el sp ∧ el.length = l.length) : l.length * 4 ≤ reachBytes := by
  rcases hD with ⟨_, rfl⟩ | ⟨el, sp, rfl, hl⟩
  · simp
  · have hb : Tryd.prog.bytesOf 21 = 4 := by kernel_rfl
    have := List.all_eq_true.1 h _ (DataW.weights_mem_each (j := j) (t := 22) ht hd ((el.length + sp.length) * Tryd.prog.bytesOf 21) (by simp [DataW.weights, Tryd.underlying22]))
    rw [hb] at this
    simp at this
    omega
theorem seven {cs : Array Value} (h : cs.size = 7) : ∃ c0 c1 c2 c3 c4 c5 c6, cs = #[c0, c1, c2, c3, c4, c5, c6] := by
  obtain ⟨l⟩ := cs
  match l, h with
  | [c0, c1, c2, c3, c4, c5, c6], _ => exact ⟨c0, c1, c2, c3, c4, c5, c6, rfl⟩
set_option maxRecDepth 100000 in
theorem open_op {r : Reach} {b0 : Nat} {v : Value} (hv : Value.okWide Tryd.prog W r b0 26 v) (h : DataW.Trod enc Tryd.prog W base spare held 26 v d ps) :
    ∃ kd f t at_ : Int, ∃ A n c, ∃ l : List Int, ∃ Ad nd cd, ∃ ld : List Int, ∃ Ai ni ci, ∃ li : List Int,
      v = .agg #[.int .i64 kd, .int .i64 f, .int .i64 t, .slice A n c, .int .i64 at_, .slice Ad nd cd, .slice Ai ni ci] ∧
      I64 kd ∧ I64 f ∧ I64 t ∧ I64 at_ ∧ Runes W A n c l ∧ Runes W Ad nd cd ld ∧ Runes W Ai ni ci li ∧ ∃ D0 D1 D2 D3 D4, d = .agg [D0, D1, D2, D3, D4] ∧ ((D3 = .nil ∧ l = []) ∨ ∃ el sp, D3 = .slice el sp ∧ el.length = l.length) := by
  obtain ⟨cs, rfl, hsz⟩ := okWide_struct Tryd.underlying26 hv
  obtain ⟨c0, c1, c2, c4, c5, c6, c7, rfl⟩ := seven (hsz.trans cO)
  obtain ⟨fuel, hf⟩ := h
  obtain ⟨y0, y1, y2, y3, y4, n, hy, h0, h1, h2, h3, h4⟩ := trod_struct5 Tryd.underlying26 hf
  simp only [c3, cR, cE, Value.cells, List.drop_succ_cons, List.drop_zero, List.take_succ_cons, List.take_zero] at h0 h1 h2 h3 h4
  obtain ⟨n0, e0, _, w0⟩ := DataW.trod_int Tryd.underlying3 h0
  obtain ⟨n1, e1, _, w1⟩ := DataW.trod_int Tryd.underlying3 h1
  obtain ⟨n2, e2, _, w2⟩ := DataW.trod_int Tryd.underlying3 h2
  obtain ⟨A, m, c, l, e3, hr, hD⟩ := runes_of h3
  obtain ⟨z0, z1, z2, k, _, g0, g1, g2⟩ := trod_struct3' Tryd.underlying24 h4
  simp only [c3, cR, List.drop_succ_cons, List.drop_zero, List.take_succ_cons, List.take_zero] at g0 g1 g2
  obtain ⟨n3, e4, _, w3⟩ := DataW.trod_int Tryd.underlying3 g0
  obtain ⟨Ad, nd, cd, ld, e5, hd, _⟩ := runes_of g1
  obtain ⟨Ai, ni, ci, li, e6, hi, _⟩ := runes_of g2
  simp only [List.cons.injEq, and_true] at e0 e1 e2 e3 e4 e5 e6
  subst e0 e1 e2 e3 e4 e5 e6
  exact ⟨n0, n1, n2, n3, A, m, c, l, Ad, nd, cd, ld, Ai, ni, ci, li, rfl, i64_of w0, i64_of w1, i64_of w2, i64_of w3, hr, hd, hi, _, _, _, _, _, (Prod.mk.inj hy).1, hD⟩
theorem op_weight {D0 D1 D2 D3 D4 d0 : DataW H} {l : List Int} (h : (DataW.weightsEach Tryd.prog [22, 26] [d0, .agg [D0, D1, D2, D3, D4]]).all (· ≤ reachBytes) = true) (hD : (D3 = .nil ∧ l = []) ∨ ∃ el sp, D3 = .slice el sp ∧ el.length = l.length) : l.length * 4 ≤ reachBytes := by
  rcases hD with ⟨_, rfl⟩ | ⟨el, sp, rfl, hl⟩
  · simp
  · have hb : Tryd.prog.bytesOf 21 = 4 := by kernel_rfl
    have := List.all_eq_true.1 h _ (DataW.weights_mem_each (j := 1) (t := 26) rfl rfl ((el.length + sp.length) * Tryd.prog.bytesOf 21) (by simp [DataW.weights, DataW.weightsEach, Tryd.underlying26, Tryd.underlying22]))
    rw [hb] at this
    simp at this
    omega
end
end Go.Proofs.YtmnmdpgckefefaaDoor.OpArg
