/- The places that runes take, as a function over lists: what ucell.Cells computes; how many they are; that wide ones are whole. -/
import Derived.Test.YtobogbjpdagklaaDoorCell1
import Derived.Lib.RuneBytes
namespace Go.Proofs.YtobogbjpdagklaaDoor.Dec
open Go Go.RowKit Go.Proofs.YtobogbjpdagklaaDoor.Rw Go.Proofs.YtobogbjpdagklaaDoor.Kinds

def joinAt (cs : List CellV) (t : ByteArray) : Nat → List CellV
  | 0 => cs ++ [⟨⟨#[32]⟩ ++ t, 1⟩]
  | k + 1 => match cs[k]? with
    | none => cs
    | some c => if c.text.toList.isEmpty = true then joinAt cs t k else if c.text.size ≤ 32 then cs.set k ⟨c.text ++ t, c.width⟩ else cs
def joinC (cs : List CellV) (t : ByteArray) : List CellV := joinAt cs t cs.length
def cstepC (c8 : Nat) (cs : List CellV) (r : Int) : List CellV :=
  if r = 9 then cs ++ List.replicate (8 - (c8 + cs.length) % 8) ⟨⟨#[32]⟩, 1⟩
  else if (0 ≤ r ∧ r < 32) ∨ r = 127 then cs ++ [⟨⟨#[94]⟩, 1⟩, ⟨Utf8.encode (bits BinOp.xor IntKind.i32 r 64), 1⟩]
  else if valid r = false ∨ ctl r = true then cs ++ [⟨⟨#[239, 191, 189]⟩, 1⟩]
  else if width r = 0 then joinC cs (Utf8.encode r)
  else if width r = 2 then cs ++ [⟨Utf8.encode r, 2⟩, ⟨⟨#[]⟩, 0⟩]
  else cs ++ [⟨Utf8.encode r, 1⟩]
def cellsC (c8 : Nat) (l : List Int) : List CellV := l.foldl (cstepC c8) []
theorem cellsC_take (c8 : Nat) (l : List Int) (k : Nat) (h : k < l.length) : cellsC c8 (l.take (k + 1)) = cstepC c8 (cellsC c8 (l.take k)) l[k] := by
  unfold cellsC
  rw [List.take_succ_eq_append_getElem h, List.foldl_append]; rfl

/-! ### a place's cells -/
theorem cvs_at (cs : List CellV) (k : Nat) (hk : k < cs.length) : (cvs cs)[k * 3]? = some (.string cs[k].text) := by
  induction cs generalizing k with
  | nil => simp at hk
  | cons c cs ih =>
    cases k with
    | zero => simp [cvs]
    | succ k =>
      have := ih k (by simpa using hk)
      simp only [cvs, List.flatMap_cons] at this ⊢
      rw [show (k + 1) * 3 = k * 3 + 3 by omega]
      simpa using this
theorem cvs_at1 (cs : List CellV) (k : Nat) (hk : k < cs.length) : (cvs cs)[k * 3 + 1]? = some (.int .i64 cs[k].width) := by
  induction cs generalizing k with
  | nil => simp at hk
  | cons c cs ih =>
    cases k with
    | zero => simp [cvs]
    | succ k =>
      have := ih k (by simpa using hk)
      simp only [cvs, List.flatMap_cons] at this ⊢
      rw [show (k + 1) * 3 + 1 = k * 3 + 1 + 3 by omega]
      simpa using this
theorem cvs_at2 (cs : List CellV) (k : Nat) (hk : k < cs.length) : (cvs cs)[k * 3 + 2]? = some (.int .i64 0) := by
  induction cs generalizing k with
  | nil => simp at hk
  | cons c cs ih =>
    cases k with
    | zero => simp [cvs]
    | succ k =>
      have := ih k (by simpa using hk)
      simp only [cvs, List.flatMap_cons] at this ⊢
      rw [show (k + 1) * 3 + 2 = k * 3 + 2 + 3 by omega]
      simpa using this
theorem cvs_set (cs : List CellV) (k : Nat) (hk : k < cs.length) (t : ByteArray) : (cvs cs).set (k * 3) (.string t) = cvs (cs.set k ⟨t, cs[k].width⟩) := by
  induction cs generalizing k with
  | nil => simp at hk
  | cons c cs ih =>
    cases k with
    | zero => simp [cvs]
    | succ k =>
      have := ih k (by simpa using hk)
      simp only [cvs, List.flatMap_cons] at this ⊢
      rw [show (k + 1) * 3 = k * 3 + 1 + 1 + 1 by omega]
      simp [this]
theorem encode_size (r : Int) : (Utf8.encode r).size ≤ 4 := by
  unfold Utf8.encode
  dsimp only
  repeat' split
  all_goals first | exact (by decide : (1 : Nat) ≤ 4) | exact (by decide : (2 : Nat) ≤ 4) | exact (by decide : (3 : Nat) ≤ 4) | exact (by decide : (4 : Nat) ≤ 4)
theorem encode_pos (r : Int) : 0 < (Utf8.encode r).size := by
  unfold Utf8.encode
  dsimp only
  repeat' split
  all_goals first | exact (by decide : 0 < (1 : Nat)) | exact (by decide : 0 < (2 : Nat)) | exact (by decide : 0 < (3 : Nat)) | exact (by decide : 0 < (4 : Nat))
theorem size_zero {t : ByteArray} (h : t.size = 0) : t = ⟨#[]⟩ := by
  cases t with
  | mk d =>
    congr 1
    exact Array.eq_empty_of_size_eq_zero h
theorem empty_iff (t : ByteArray) : t.toList.isEmpty = true ↔ t.size = 0 := by
  rw [List.isEmpty_iff, ByteArray.toList_eq]
  constructor
  · intro h
    show t.data.size = 0
    rw [← Array.length_toList, h]; rfl
  · intro h
    rw [size_zero h]
theorem joinAt_length (cs : List CellV) (t : ByteArray) : ∀ k, (joinAt cs t k).length ≤ cs.length + 1
  | 0 => by simp [joinAt]
  | k + 1 => by
    unfold joinAt
    split
    · omega
    · split
      · exact joinAt_length cs t k
      · split <;> simp
theorem cstepC_le (c8 : Nat) (cs : List CellV) (r : Int) : (cstepC c8 cs r).length ≤ cs.length + 8 := by
  unfold cstepC
  repeat' split
  all_goals (try simp only [List.length_append, List.length_replicate, List.length_cons, List.length_nil])
  all_goals (try omega)
  have := joinAt_length cs (Utf8.encode r) cs.length
  unfold joinC
  omega
theorem cellsC_le (c8 : Nat) (l : List Int) : (cellsC c8 l).length ≤ 8 * l.length := by
  have : ∀ (l : List Int) (cs : List CellV), (l.foldl (cstepC c8) cs).length ≤ cs.length + 8 * l.length := by
    intro l
    induction l with
    | nil => intro cs; simp
    | cons r l ih =>
      intro cs
      have h1 := ih (cstepC c8 cs r)
      have h2 := cstepC_le c8 cs r
      simp only [List.foldl_cons, List.length_cons]
      omega
  have := this l []
  simpa [cellsC] using this

/-! ### what the places look like -/
/-- A wide place has an empty one behind it, and no other is empty; p: is the place ahead wide. -/
def WideOk : Bool → List CellV → Prop
  | p, [] => p = false
  | p, c :: cs => (p = true ↔ c.text.size = 0) ∧ (p = true ↔ c.width = 0) ∧ 0 ≤ c.width ∧ c.width ≤ 2 ∧ c.text.size ≤ 36 ∧ WideOk (decide (c.width = 2)) cs
theorem WideOk.app {cs new : List CellV} {p : Bool} (h : WideOk p cs) (h2 : WideOk false new) : WideOk p (cs ++ new) := by
  induction cs generalizing p with
  | nil => simp only [WideOk] at h; subst h; exact h2
  | cons c cs ih => exact ⟨h.1, h.2.1, h.2.2.1, h.2.2.2.1, h.2.2.2.2.1, ih h.2.2.2.2.2⟩
theorem WideOk.one {t : ByteArray} (h1 : 0 < t.size) (h2 : t.size ≤ 36) {cs : List CellV} (h : WideOk false cs) : WideOk false (⟨t, 1⟩ :: cs) :=
  ⟨⟨(fun h => by cases h), fun h => by have h3 : t.size = 0 := h; omega⟩, ⟨(fun h => by cases h), fun h => by cases h⟩, (by decide : (0 : Int) ≤ 1), (by decide : (1 : Int) ≤ 2), h2, h⟩
theorem WideOk.set {cs : List CellV} {t : ByteArray} (k : Nat) (hk : k < cs.length) (h0 : 0 < cs[k].text.size) (h1 : 0 < t.size) (h2 : t.size ≤ 36) : ∀ {p : Bool}, WideOk p cs → WideOk p (cs.set k ⟨t, cs[k].width⟩) := by
  induction cs generalizing k with
  | nil => simp at hk
  | cons c cs ih =>
    intro p h
    cases k with
    | zero =>
      simp only [List.set_cons_zero, List.getElem_cons_zero] at h0 ⊢
      refine ⟨?_, h.2.1, h.2.2.1, h.2.2.2.1, h2, h.2.2.2.2.2⟩
      rw [h.1]
      show c.text.size = 0 ↔ t.size = 0
      omega
    | succ k =>
      simp only [List.set_cons_succ, List.getElem_cons_succ] at h0 ⊢
      exact ⟨h.1, h.2.1, h.2.2.1, h.2.2.2.1, h.2.2.2.2.1, ih k (by simpa using hk) h0 h.2.2.2.2.2⟩
theorem WideOk.join {cs : List CellV} {t : ByteArray} (h1 : 0 < t.size) (h2 : t.size ≤ 4) (h : WideOk false cs) : ∀ k, WideOk false (joinAt cs t k)
  | 0 => h.app (WideOk.one (by rw [ByteArray.size_append]; omega) (by rw [ByteArray.size_append]; have : (⟨#[32]⟩ : ByteArray).size = 1 := rfl; omega) rfl)
  | k + 1 => by
    unfold joinAt
    split
    · exact h
    · rename_i c hc
      obtain ⟨hk, rfl⟩ := List.getElem?_eq_some_iff.1 hc
      split
      · exact WideOk.join h1 h2 h k
      · rename_i he
        rw [empty_iff] at he
        split
        · exact WideOk.set k hk (by omega) (by rw [ByteArray.size_append]; omega) (by rw [ByteArray.size_append]; omega) h
        · exact h
theorem WideOk.spaces (n : Nat) : WideOk false (List.replicate n ⟨⟨#[32]⟩, 1⟩) := by
  induction n with
  | zero => rfl
  | succ n ih => rw [List.replicate_succ]; exact WideOk.one (by decide) (by decide) ih
theorem WideOk.step {cs : List CellV} (c8 : Nat) (r : Int) (h : WideOk false cs) : WideOk false (cstepC c8 cs r) := by
  have e1 := encode_pos r
  have e2 := encode_size r
  unfold cstepC
  split
  · exact h.app (WideOk.spaces _)
  split
  · exact h.app (WideOk.one (by decide) (by decide) (WideOk.one (encode_pos _) (by have := encode_size (bits BinOp.xor IntKind.i32 r 64); omega) rfl))
  split
  · exact h.app (WideOk.one (by decide) (by decide) rfl)
  split
  · exact h.join e1 e2 _
  split
  · refine h.app ⟨⟨(fun h => by cases h), fun h => by have h3 : (Utf8.encode r).size = 0 := h; omega⟩, ⟨(fun h => by cases h), fun h => by cases h⟩, (by decide : (0 : Int) ≤ 2), (by decide : (2 : Int) ≤ 2), (show (Utf8.encode r).size ≤ 36 by omega), ?_⟩
    exact ⟨⟨fun _ => rfl, fun _ => rfl⟩, ⟨fun _ => rfl, fun _ => rfl⟩, (by decide : (0 : Int) ≤ 0), (by decide : (0 : Int) ≤ 2), (by decide : (0 : Nat) ≤ 36), rfl⟩
  · exact h.app (WideOk.one e1 (by omega) rfl)
theorem cellsC_wide (c8 : Nat) (l : List Int) : WideOk false (cellsC c8 l) := by
  have : ∀ (l : List Int) (cs : List CellV), WideOk false cs → WideOk false (l.foldl (cstepC c8) cs) := by
    intro l
    induction l with
    | nil => intro cs h; exact h
    | cons r l ih => intro cs h; exact ih _ (h.step c8 r)
  exact this l [] rfl
/-- Is the place ahead of k wide? -/
def ahead (p : Bool) (cs : List CellV) : Nat → Bool
  | 0 => p
  | j + 1 => decide ((cs[j]?.map (·.width)) = some 2)
theorem ahead_cons (p : Bool) (c : CellV) (cs : List CellV) (k : Nat) : ahead p (c :: cs) (k + 1) = ahead (decide (c.width = 2)) cs k := by
  cases k with
  | zero => simp [ahead]
  | succ k => simp [ahead]
theorem WideOk.at {cs : List CellV} : ∀ {p : Bool}, WideOk p cs → ∀ (k : Nat) (c : CellV), cs[k]? = some c →
    (ahead p cs k = true ↔ c.text.size = 0) ∧ (ahead p cs k = true ↔ c.width = 0) ∧ 0 ≤ c.width ∧ c.width ≤ 2 ∧ c.text.size ≤ 36 := by
  induction cs with
  | nil => intro p h k c hc; simp at hc
  | cons d cs ih =>
    intro p h k c hc
    cases k with
    | zero => simp at hc; subst hc; exact ⟨h.1, h.2.1, h.2.2.1, h.2.2.2.1, h.2.2.2.2.1⟩
    | succ k => rw [ahead_cons]; exact ih h.2.2.2.2.2 k c (by simpa using hc)
theorem WideOk.last {cs : List CellV} : ∀ {p : Bool}, WideOk p cs → ahead p cs cs.length = false := by
  induction cs with
  | nil => intro p h; exact h
  | cons d cs ih => intro p h; rw [List.length_cons, ahead_cons]; exact ih h.2.2.2.2.2
end Go.Proofs.YtobogbjpdagklaaDoor.Dec
