/- lanyardlaw07.Op as a value, alone and in a slice that came in. -/
import Derived.Test.YtmnmdpgckefefaaDoorOpArg
import Derived.Deep.Slices
namespace Go.Proofs.YtmnmdpgckefefaaDoor.OpArg
open Go Go.RowKit Go.Proofs.YtmnmdpgckefefaaDoor.Rw Go.Proofs.YtmnmdpgckefefaaDoor.SlR Go.Proofs.YtmnmdpgckefefaaDoor.Arg Go.Deep Go.ChangeShapes Go.WideShapes Go.ChangeAt

structure OpV where
  kd : Int
  f : Int
  t : Int
  at_ : Int
  A : Option Addr
  c : Nat
  l : List Int
  Ad : Option Addr
  cd : Nat
  ld : List Int
  Ai : Option Addr
  ci : Nat
  li : List Int
def OpV.cells (o : OpV) : List Value := [.int .i64 o.kd, .int .i64 o.f, .int .i64 o.t, .slice o.A o.l.length o.c, .int .i64 o.at_, .slice o.Ad o.ld.length o.cd, .slice o.Ai o.li.length o.ci]
def OpV.v (o : OpV) : Value := .agg #[.int .i64 o.kd, .int .i64 o.f, .int .i64 o.t, .slice o.A o.l.length o.c, .int .i64 o.at_, .slice o.Ad o.ld.length o.cd, .slice o.Ai o.li.length o.ci]
structure OpV.Ok (W : World) (o : OpV) : Prop where
  kd : I64 o.kd
  f : I64 o.f
  t : I64 o.t
  at_ : I64 o.at_
  txt : Src W o.A (ns .i32 o.l)
  del : Src W o.Ad (ns .i32 o.ld)
  ins : Src W o.Ai (ns .i32 o.li)
  wt : o.l.length * 4 ≤ reachBytes
  wd : o.ld.length * 4 ≤ reachBytes
  wi : o.li.length * 4 ≤ reachBytes
theorem OpV.Ok.keeps {w w' : World} {o : OpV} (h : o.Ok w) (k : Keeps [] w w') : o.Ok w' :=
  ⟨h.kd, h.f, h.t, h.at_, h.txt.keeps k (by simp), h.del.keeps k (by simp), h.ins.keeps k (by simp), h.wt, h.wd, h.wi⟩
section
variable {H : Type} {enc : TypeId × Value → H} {W : World} {base : Nat} {spare : Nat → Bool} {held : Bool} {d : DataW H} {ps : List MemPlace}
theorem list7 {cs : List Value} (h : cs.length = 7) : ∃ c0 c1 c2 c3 c4 c5 c6, cs = [c0, c1, c2, c3, c4, c5, c6] := by
  match cs, h with
  | [c0, c1, c2, c3, c4, c5, c6], _ => exact ⟨c0, c1, c2, c3, c4, c5, c6, rfl⟩
theorem weight_of {d : DataW H} {l : List Int} (hw : ∀ n ∈ d.weights Tryd.prog 22, n ≤ reachBytes) (hD : (d = .nil ∧ l = []) ∨ ∃ el sp, d = .slice el sp ∧ el.length = l.length) : l.length * 4 ≤ reachBytes := by
  rcases hD with ⟨_, rfl⟩ | ⟨el, sp, rfl, hl⟩
  · simp
  · have hb : Tryd.prog.bytesOf 21 = 4 := by kernel_rfl
    have := hw ((el.length + sp.length) * Tryd.prog.bytesOf 21) (by simp [DataW.weights, Tryd.underlying22])
    rw [hb] at this
    omega
set_option maxRecDepth 100000 in
theorem opv_of {fuel : Nat} {cs : List Value} {x : DataW H × List MemPlace} (hlen : cs.length = 7) (h : DataW.trod enc Tryd.prog W base spare held fuel 26 cs = some x) (hw : ∀ n ∈ x.1.weights Tryd.prog 26, n ≤ reachBytes) : ∃ o : OpV, cs = o.cells ∧ o.Ok W := by
  obtain ⟨c0, c1, c2, c4, c5, c6, c7, rfl⟩ := list7 hlen
  obtain ⟨y0, y1, y2, y3, y4, n, hy, h0, h1, h2, h3, h4⟩ := trod_struct5 Tryd.underlying26 h
  simp only [c3, cR, cE, List.drop_succ_cons, List.drop_zero, List.take_succ_cons, List.take_zero] at h0 h1 h2 h3 h4
  obtain ⟨n0, e0, _, w0⟩ := DataW.trod_int Tryd.underlying3 h0
  obtain ⟨n1, e1, _, w1⟩ := DataW.trod_int Tryd.underlying3 h1
  obtain ⟨n2, e2, _, w2⟩ := DataW.trod_int Tryd.underlying3 h2
  obtain ⟨A, m, c, l, e3, hr, hD⟩ := runes_of h3
  obtain ⟨z0, z1, z2, k, hz, g0, g1, g2⟩ := trod_struct3' Tryd.underlying24 h4
  simp only [c3, cR, List.drop_succ_cons, List.drop_zero, List.take_succ_cons, List.take_zero] at g0 g1 g2
  obtain ⟨n3, e4, _, w3⟩ := DataW.trod_int Tryd.underlying3 g0
  obtain ⟨Ad, nd, cd, ld, e5, hd, hDd⟩ := runes_of g1
  obtain ⟨Ai, ni, ci, li, e6, hi, hDi⟩ := runes_of g2
  simp only [List.cons.injEq, and_true] at e0 e1 e2 e3 e4 e5 e6
  subst e0 e1 e2 e3 e4 e5 e6
  obtain ⟨rfl, s3, _, _, _⟩ := hr
  obtain ⟨rfl, s5, _, _, _⟩ := hd
  obtain ⟨rfl, s6, _, _, _⟩ := hi
  subst hy
  have hy4 : y4.1 = .agg [z0.1, z1.1, z2.1] := by rw [hz]
  have hwt : ∀ n ∈ y3.1.weights Tryd.prog 22, n ≤ reachBytes := fun n hn => hw n (by
    simp [DataW.weights, DataW.weightsEach, Tryd.underlying26, hn])
  have hwe : ∀ n ∈ y4.1.weights Tryd.prog 24, n ≤ reachBytes := fun n hn => hw n (by
    simp [DataW.weights, DataW.weightsEach, Tryd.underlying26, hn])
  rw [hy4] at hwe
  have hwd : ∀ n ∈ z1.1.weights Tryd.prog 22, n ≤ reachBytes := fun n hn => hwe n (by
    simp [DataW.weights, DataW.weightsEach, Tryd.underlying24, hn])
  have hwi : ∀ n ∈ z2.1.weights Tryd.prog 22, n ≤ reachBytes := fun n hn => hwe n (by
    simp [DataW.weights, DataW.weightsEach, Tryd.underlying24, hn])
  exact ⟨⟨n0, n1, n2, n3, A, c, l, Ad, cd, ld, Ai, ci, li⟩, rfl, i64_of w0, i64_of w1, i64_of w2, i64_of w3, s3, s5, s6, weight_of hwt hD, weight_of hwd hDd, weight_of hwi hDi⟩
theorem open_opv {r : Reach} {b0 : Nat} {v : Value} {ts : List TypeId} {ds : List (DataW H)} (hv : Value.okWide Tryd.prog W r b0 26 v) (h : DataW.Trod enc Tryd.prog W base spare held 26 v d ps) (j : Nat)
    (hw : (DataW.weightsEach Tryd.prog ts ds).all (· ≤ reachBytes) = true) (ht : ts[j]? = some 26) (hd : ds[j]? = some d) : ∃ o : OpV, v = o.v ∧ o.Ok W := by
  obtain ⟨cs, rfl, hsz⟩ := okWide_struct Tryd.underlying26 hv
  obtain ⟨fuel, hf⟩ := h
  obtain ⟨o, h1, h2⟩ := opv_of (x := (d, ps)) (by simpa [Value.cells] using hsz.trans cO) hf (fun n hn => by
    simpa using List.all_eq_true.1 hw n (DataW.weights_mem_each (j := j) ht hd n hn))
  refine ⟨o, ?_, h2⟩
  have : cs = o.cells.toArray := by
    have h3 : cs.toList = o.cells := h1
    rw [← h3]
  rw [this]; rfl

/-- Ops that came in, in a slice. -/
def OpRow (w : World) (A : Option Addr) (os : List OpV) : Prop := ∀ i (o : OpV), os[i]? = some o → o.Ok w ∧ ∃ a, A = some a ∧ ∀ j u, o.cells[j]? = some u → w.cell? ((a.add (i * 7)).add j) = some u
theorem weights_all {e : TypeId} {l : List (DataW H)} {d : DataW H} {n : Nat} (hd : d ∈ l) (hn : n ∈ d.weights Tryd.prog e) : n ∈ DataW.weightsAll Tryd.prog e l := by
  induction l with
  | nil => cases hd
  | cons x r ih =>
    simp only [DataW.weightsAll, List.mem_append]
    cases List.mem_cons.1 hd with
    | inl h => subst h; exact .inl hn
    | inr h => exact .inr (ih h)
theorem open_ops {A : Option Addr} {n c : Nat} {ts : List TypeId} {ds : List (DataW H)} (h : DataW.Trod enc Tryd.prog W base spare held 59 (.slice A n c) d ps) (j : Nat)
    (hw : (DataW.weightsEach Tryd.prog ts ds).all (· ≤ reachBytes) = true) (ht : ts[j]? = some 59) (hd : ds[j]? = some d) : n ≤ maxLen ∧ ∃ os : List OpV, os.length = n ∧ OpRow W A os := by
  obtain ⟨fuel, hf⟩ := h
  have hw2 : ∀ n ∈ d.weights Tryd.prog 59, n ≤ reachBytes := fun n hn => by
    simpa using List.all_eq_true.1 hw n (DataW.weights_mem_each (j := j) ht hd n hn)
  rcases open_slice Tryd.underlying59 hf with ⟨hcs, _⟩ | ⟨a, len, cap, m, k, D, Pl, hcs, _, hl, hm, hmm, hx, hi⟩
  · simp [Value.cells] at hcs
    obtain ⟨rfl, rfl, rfl⟩ := hcs
    exact ⟨by unfold maxLen; omega, [], rfl, fun i o h => by simp at h⟩
  · simp [Value.cells] at hcs
    obtain ⟨rfl, rfl, rfl⟩ := hcs
    refine ⟨by omega, ?_⟩
    have hlm : n ≤ m := by rw [hmm]; split <;> omega
    have hdx := (Prod.mk.inj hx).1
    have each : ∀ i, i < n → ∃ o : OpV, o.Ok W ∧ ∀ j u, o.cells[j]? = some u → W.cell? ((a.add (i * 7)).add j) = some u := by
      intro i hil
      obtain ⟨cs', h1, h2⟩ := hi i (by omega)
      rw [cO] at h1
      obtain ⟨_, hcl, hcell⟩ := World.cells?_some h1
      obtain ⟨o, ho, hok⟩ := opv_of hcl h2 (fun q hq => hw2 q (by
        rw [hdx]
        simp only [DataW.weights, Tryd.underlying59, List.mem_cons, List.mem_append]
        exact .inr (.inl (weights_all (List.mem_map.2 ⟨i, by simpa using hil, rfl⟩) hq))))
      refine ⟨o, hok, fun j u hj => ?_⟩
      have hj7 : j < 7 := by have := (List.getElem?_eq_some_iff.1 hj).1; simpa [OpV.cells] using this
      rw [hcell j hj7, ho]; exact hj
    clear hx hdx hi hmm hlm hf hl
    have pick : ∀ k, k ≤ n → ∃ os : List OpV, os.length = k ∧ ∀ i (o : OpV), os[i]? = some o → o.Ok W ∧ ∀ j u, o.cells[j]? = some u → W.cell? ((a.add (i * 7)).add j) = some u := by
      intro k
      induction k with
      | zero => intro _; exact ⟨[], rfl, fun i o h => by simp at h⟩
      | succ k ih =>
        intro hk
        obtain ⟨os, hos, hall⟩ := ih (by omega)
        obtain ⟨o, h1, h2⟩ := each k (by omega)
        refine ⟨os ++ [o], by simp [hos], fun i o' hi => ?_⟩
        by_cases hik : i < k
        · rw [List.getElem?_append_left (by omega)] at hi
          exact hall i o' hi
        · have : i = k := by
            have := (List.getElem?_eq_some_iff.1 hi).1
            simp at this; omega
          subst this
          rw [List.getElem?_append_right (by omega), hos, Nat.sub_self] at hi
          simp at hi
          subst hi
          exact ⟨h1, h2⟩
    obtain ⟨os, h1, h2⟩ := pick n (Nat.le_refl _)
    exact ⟨os, h1, fun i o hio => ⟨(h2 i o hio).1, a, rfl, (h2 i o hio).2⟩⟩
end
end Go.Proofs.YtmnmdpgckefefaaDoor.OpArg
