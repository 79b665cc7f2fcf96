/- The document's head of bytes (lanyardref01.Head, value) as functions over lists; what they say of utf8's decoding. -/
import Derived.Test.YtomdhiphiediaaaDoorRunes
namespace Go.Proofs.YtomdhiphiediaaaDoor.Dec
open Go Go.RowKit Go.Proofs.YtomdhiphiediaaaDoor.Rw

/-- Do the bytes begin with a whole form (or with none)? -/
def full (l : List UInt8) : Bool :=
  let n := l.length
  let x := Lib.firstT (l.getD 0 0).toNat
  if n = 0 then false else if x % 8 ≤ n then true
  else if 1 < n ∧ ((l.getD 1 0).toNat < Lib.accLo (x / 16) ∨ Lib.accHi (x / 16) < (l.getD 1 0).toNat) then true
  else if 2 < n ∧ ((l.getD 2 0).toNat < 128 ∨ 191 < (l.getD 2 0).toNat) then true else false
theorem src_head {w : World} {A : Option Addr} {x : Value} {xs : List Value} (h : Src w A (x :: xs)) : ∃ b off, A = some ⟨b, off, none⟩ := by
  obtain ⟨ad, rfl, hc⟩ := h 0 x rfl
  obtain ⟨b, off, spot⟩ := ad
  refine ⟨b, off, ?_⟩
  have hsp : spot = none := by
    unfold World.cell? at hc
    split at hc
    · split at hc
      · cases hc
      · rename_i h; simp [Addr.add] at h; exact h
    · cases hc
  rw [hsp]
theorem src_cell {w : World} {b off : Nat} {xs : List Value} (h : Src w (some ⟨b, off, none⟩) xs) (j : Nat) (v : Value) (hj : xs[j]? = some v) : w.cell? ⟨b, off + j, none⟩ = some v := by
  obtain ⟨ad, he, hc⟩ := h j v hj
  cases he
  rwa [add_at] at hc
def needN (x : Nat) : Nat := if x < 128 then 1 else if 194 ≤ x ∧ x ≤ 223 then 2 else if 224 ≤ x ∧ x ≤ 239 then 3 else if 240 ≤ x ∧ x ≤ 244 then 4 else 0
def secLo (x : Nat) : Nat := if x = 224 then 160 else if x = 240 then 144 else 128
def secHi (x : Nat) : Nat := if x = 237 then 159 else if x = 244 then 143 else 191
def secN (x y : Nat) : Bool := decide (secLo x ≤ y ∧ y ≤ secHi x)
def byteN (l : List UInt8) (k : Nat) : Nat := (l.getD k 0).toNat
def okAt (l : List UInt8) (k : Nat) : Bool := (!(decide (k = 1) && !secN (byteN l 0) (byteN l 1))) && decide (128 ≤ byteN l k ∧ byteN l k ≤ 191)
def headK (l : List UInt8) (n : Nat) : Nat → Nat → Nat × Nat
  | 0, k => (k, n)
  | f + 1, k => if n ≤ k ∨ l.length ≤ k then (k, n) else if okAt l k = true then headK l n f (k + 1) else (0, n)
def headN (l : List UInt8) : Nat × Nat := if l.length = 0 then (0, 0) else if needN (byteN l 0) = 0 then (0, 0) else headK l (needN (byteN l 0)) 3 1
def valueN (n b0 b1 b2 b3 : Nat) : Nat := if n = 1 then b0 else if n = 2 then b0 % 32 * 64 + b1 % 64 else if n = 3 then b0 % 16 * 4096 + b1 % 64 * 64 + b2 % 64 else b0 % 8 * 262144 + b1 % 64 * 4096 + b2 % 64 * 64 + b3 % 64
/-- What a head says of the decoding. -/
structure HeadLaw (l : List UInt8) (h : Nat × Nat) : Prop where
  whole : 0 < h.2 → h.1 = h.2 → dec l = (valueN h.2 (byteN l 0) (byteN l 1) (byteN l 2) (byteN l 3), h.2) ∧ h.2 ≤ l.length ∧ h.2 ≤ 4
  bad : ¬ (0 < h.2 ∧ h.1 = h.2) → dec l = (65533, 1)
  part : full l = false ↔ 0 < h.1 ∧ h.1 = l.length ∧ h.1 ≠ h.2
theorem byteN_lt (l : List UInt8) (k : Nat) : byteN l k < 256 := (l.getD k 0).toNat_lt
theorem dec_eq (l : List UInt8) : dec l = Lib.decodeN l.length (byteN l 0) (byteN l 1) (byteN l 2) (byteN l 3) := rfl
theorem full_eq (l : List UInt8) : full l = (if l.length = 0 then false else if Lib.firstT (byteN l 0) % 8 ≤ l.length then true
  else if 1 < l.length ∧ (byteN l 1 < Lib.accLo (Lib.firstT (byteN l 0) / 16) ∨ Lib.accHi (Lib.firstT (byteN l 0) / 16) < byteN l 1) then true
  else if 2 < l.length ∧ (byteN l 2 < 128 ∨ 191 < byteN l 2) then true else false) := rfl
theorem ok1 (l : List UInt8) (lo hi : Nat) (h0 : secLo (byteN l 0) = lo) (h1 : secHi (byteN l 0) = hi) (a : 128 ≤ lo) (b : hi ≤ 191) : okAt l 1 = decide (lo ≤ byteN l 1 ∧ byteN l 1 ≤ hi) := by
  unfold okAt secN
  rw [h0, h1, Bool.eq_iff_iff]
  simp
  omega
theorem ok2 (l : List UInt8) (k : Nat) (hk : k ≠ 1) : okAt l k = decide (128 ≤ byteN l k ∧ byteN l k ≤ 191) := by
  unfold okAt
  simp [hk]
theorem head2 (l : List UInt8) (hl : l ≠ []) (lo hi : Nat) (hlo : 128 ≤ lo) (hhi : hi ≤ 191)
    (hd : Lib.slowN l.length (byteN l 0) (byteN l 1) (byteN l 2) (byteN l 3) 2 lo hi = Lib.decodeN l.length (byteN l 0) (byteN l 1) (byteN l 2) (byteN l 3))
    (hn : needN (byteN l 0) = 2) (h0 : secLo (byteN l 0) = lo) (h1 : secHi (byteN l 0) = hi) (hf : Lib.firstT (byteN l 0) % 8 = 2) (ha : Lib.accLo (Lib.firstT (byteN l 0) / 16) = lo) (hb : Lib.accHi (Lib.firstT (byteN l 0) / 16) = hi) : HeadLaw l (headN l) := by
  have e1 := ok1 l lo hi h0 h1 hlo hhi
  have hlen : 0 < l.length := List.length_pos_iff.2 hl
  rw [← dec_eq] at hd
  have hF := full_eq l
  rw [hf, ha, hb] at hF
  have e2 := ok2 l (1 + 1) (by decide)
  have hh : headN l = if l.length ≤ 1 then (1, 2) else if lo ≤ byteN l 1 ∧ byteN l 1 ≤ hi then (2, 2) else (0, 2) := by
    unfold headN
    rw [if_neg (by omega), hn, if_neg (by omega)]
    simp [headK, e1]
  rw [hh]
  refine ⟨?_, ?_, ?_⟩
  · rw [← hd]
    unfold Lib.slowN valueN
    generalize byteN l 0 = b0; generalize byteN l 1 = b1; generalize byteN l 2 = b2; generalize byteN l 3 = b3; generalize l.length = n at *
    clear hF e1 e2 hh hd
    intro g1 g2
    repeat' split at *
    all_goals first | omega | (simp; omega) | simp_all
  · rw [← hd]
    unfold Lib.slowN
    generalize byteN l 0 = b0; generalize byteN l 1 = b1; generalize byteN l 2 = b2; generalize byteN l 3 = b3; generalize l.length = n at *
    clear hF e1 e2 hh hd
    intro g1
    repeat' split at *
    all_goals first | omega | (simp; omega) | simp_all
  · rw [hF]
    generalize byteN l 0 = b0; generalize byteN l 1 = b1; generalize byteN l 2 = b2; generalize byteN l 3 = b3; generalize l.length = n at *
    clear hF e1 e2 hh hd
    repeat' split
    all_goals first | omega | (simp; omega) | simp_all
set_option maxHeartbeats 4000000 in
theorem head3 (l : List UInt8) (hl : l ≠ []) (lo hi : Nat) (hlo : 128 ≤ lo) (hhi : hi ≤ 191)
    (hd : Lib.slowN l.length (byteN l 0) (byteN l 1) (byteN l 2) (byteN l 3) 3 lo hi = Lib.decodeN l.length (byteN l 0) (byteN l 1) (byteN l 2) (byteN l 3))
    (hn : needN (byteN l 0) = 3) (h0 : secLo (byteN l 0) = lo) (h1 : secHi (byteN l 0) = hi) (hf : Lib.firstT (byteN l 0) % 8 = 3) (ha : Lib.accLo (Lib.firstT (byteN l 0) / 16) = lo) (hb : Lib.accHi (Lib.firstT (byteN l 0) / 16) = hi) : HeadLaw l (headN l) := by
  have e1 := ok1 l lo hi h0 h1 hlo hhi
  have hlen : 0 < l.length := List.length_pos_iff.2 hl
  rw [← dec_eq] at hd
  have hF := full_eq l
  rw [hf, ha, hb] at hF
  have e2 := ok2 l 2 (by decide)
  have hh : headN l = if l.length ≤ 1 then (1, 3) else if lo ≤ byteN l 1 ∧ byteN l 1 ≤ hi then (if l.length ≤ 2 then (2, 3) else if 128 ≤ byteN l 2 ∧ byteN l 2 ≤ 191 then (3, 3) else (0, 3)) else (0, 3) := by
    unfold headN
    rw [if_neg (by omega), hn, if_neg (by omega)]
    simp [headK, e1, e2]
  rw [hh]
  refine ⟨?_, ?_, ?_⟩
  · rw [← hd]
    unfold Lib.slowN valueN
    generalize byteN l 0 = b0; generalize byteN l 1 = b1; generalize byteN l 2 = b2; generalize byteN l 3 = b3; generalize l.length = n at *
    clear hF e1 e2 hh hd
    intro g1 g2
    repeat' split at *
    all_goals first | omega | (simp; omega) | simp_all
  · rw [← hd]
    unfold Lib.slowN
    generalize byteN l 0 = b0; generalize byteN l 1 = b1; generalize byteN l 2 = b2; generalize byteN l 3 = b3; generalize l.length = n at *
    clear hF e1 e2 hh hd
    intro g1
    repeat' split at *
    all_goals first | omega | (simp; omega) | simp_all
  · rw [hF]
    generalize byteN l 0 = b0; generalize byteN l 1 = b1; generalize byteN l 2 = b2; generalize byteN l 3 = b3; generalize l.length = n at *
    clear hF e1 e2 hh hd
    repeat' split
    all_goals first | omega | (simp; omega) | simp_all
set_option maxHeartbeats 4000000 in
theorem head4 (l : List UInt8) (hl : l ≠ []) (lo hi : Nat) (hlo : 128 ≤ lo) (hhi : hi ≤ 191)
    (hd : Lib.slowN l.length (byteN l 0) (byteN l 1) (byteN l 2) (byteN l 3) 4 lo hi = Lib.decodeN l.length (byteN l 0) (byteN l 1) (byteN l 2) (byteN l 3))
    (hn : needN (byteN l 0) = 4) (h0 : secLo (byteN l 0) = lo) (h1 : secHi (byteN l 0) = hi) (hf : Lib.firstT (byteN l 0) % 8 = 4) (ha : Lib.accLo (Lib.firstT (byteN l 0) / 16) = lo) (hb : Lib.accHi (Lib.firstT (byteN l 0) / 16) = hi) : HeadLaw l (headN l) := by
  have e1 := ok1 l lo hi h0 h1 hlo hhi
  have hlen : 0 < l.length := List.length_pos_iff.2 hl
  rw [← dec_eq] at hd
  have hF := full_eq l
  rw [hf, ha, hb] at hF
  have e2 := ok2 l 2 (by decide)
  have e3 := ok2 l 3 (by decide)
  have hh : headN l = if l.length ≤ 1 then (1, 4) else if lo ≤ byteN l 1 ∧ byteN l 1 ≤ hi then (if l.length ≤ 2 then (2, 4) else if 128 ≤ byteN l 2 ∧ byteN l 2 ≤ 191 then (if l.length ≤ 3 then (3, 4) else if 128 ≤ byteN l 3 ∧ byteN l 3 ≤ 191 then (4, 4) else (0, 4)) else (0, 4)) else (0, 4) := by
    unfold headN
    rw [if_neg (by omega), hn, if_neg (by omega)]
    simp [headK, e1, e2, e3]
  rw [hh]
  refine ⟨?_, ?_, ?_⟩
  · rw [← hd]
    unfold Lib.slowN valueN
    generalize byteN l 0 = b0; generalize byteN l 1 = b1; generalize byteN l 2 = b2; generalize byteN l 3 = b3; generalize l.length = n at *
    clear hF e1 e2 e3 hh hd
    intro g1 g2
    repeat' split at *
    all_goals first | omega | (simp; omega) | simp_all
  · rw [← hd]
    unfold Lib.slowN
    generalize byteN l 0 = b0; generalize byteN l 1 = b1; generalize byteN l 2 = b2; generalize byteN l 3 = b3; generalize l.length = n at *
    clear hF e1 e2 e3 hh hd
    intro g1
    repeat' split at *
    all_goals first | omega | (simp; omega) | simp_all
  · rw [hF]
    generalize byteN l 0 = b0; generalize byteN l 1 = b1; generalize byteN l 2 = b2; generalize byteN l 3 = b3; generalize l.length = n at *
    clear hF e1 e2 e3 hh hd
    repeat' split
    all_goals first | omega | (simp; omega) | simp_all
theorem head_low (l : List UInt8) (hl : l ≠ []) (h : byteN l 0 < 128) : HeadLaw l (headN l) := by
  have hlen : 0 < l.length := List.length_pos_iff.2 hl
  have hn : needN (byteN l 0) = 1 := by unfold needN; rw [if_pos h]
  have hh : headN l = (1, 1) := by
    unfold headN
    rw [if_neg (by omega), hn, if_neg (by omega)]
    simp [headK]
  have hF := full_eq l
  rw [show Lib.firstT (byteN l 0) = 240 by unfold Lib.firstT; rw [if_pos h], if_neg (by omega), if_pos (by omega)] at hF
  rw [hh]
  refine ⟨?_, ?_, ?_⟩
  · intro _ _
    refine ⟨?_, by simp; omega, by simp⟩
    rw [dec_eq]; unfold Lib.decodeN valueN
    rw [if_pos h, if_pos rfl]
  · intro g; exact absurd ⟨by decide, rfl⟩ g
  · rw [hF]; simp
theorem head_none (l : List UInt8) (hl : l ≠ []) (h : (128 ≤ byteN l 0 ∧ byteN l 0 < 194) ∨ 245 ≤ byteN l 0) : HeadLaw l (headN l) := by
  have hlen : 0 < l.length := List.length_pos_iff.2 hl
  have h8 := byteN_lt l 0
  have hn : needN (byteN l 0) = 0 := by unfold needN; repeat' split
                                        all_goals omega
  have hh : headN l = (0, 0) := by
    unfold headN
    rw [if_neg (by omega), hn, if_pos rfl]
  have h1 := byteN_lt l 1
  have h2 := byteN_lt l 2
  have h3 := byteN_lt l 3
  have hF := full_eq l
  rw [show Lib.firstT (byteN l 0) = 241 by unfold Lib.firstT; repeat' split
                                           all_goals omega, if_neg (by omega), if_pos (by omega)] at hF
  rw [hh]
  refine ⟨?_, ?_, ?_⟩
  · intro g; exact absurd g (by decide)
  · intro _
    rw [dec_eq]; unfold Lib.decodeN
    generalize byteN l 0 = b0 at *; generalize byteN l 1 = b1 at *; generalize byteN l 2 = b2 at *; generalize byteN l 3 = b3 at *; generalize l.length = n at *
    clear hF hh hn
    repeat' split
    all_goals first | (exfalso; omega) | rfl
  · rw [hF]; simp
theorem firstT_at (x v : Nat) (h : (v = 2 ∧ 194 ≤ x ∧ x < 224) ∨ (v = 19 ∧ x = 224) ∨ (v = 3 ∧ ((225 ≤ x ∧ x < 237) ∨ (238 ≤ x ∧ x < 240))) ∨ (v = 35 ∧ x = 237) ∨ (v = 52 ∧ x = 240) ∨ (v = 4 ∧ 241 ≤ x ∧ x < 244) ∨ (v = 68 ∧ x = 244)) : Lib.firstT x = v := by
  unfold Lib.firstT
  repeat' split
  all_goals omega
theorem head_law (l : List UInt8) (hl : l ≠ []) : HeadLaw l (headN l) := by
  have hlen : 1 ≤ l.length := List.length_pos_iff.2 hl
  have g0 := byteN_lt l 0
  have g1 := byteN_lt l 1
  have g2 := byteN_lt l 2
  have g3 := byteN_lt l 3
  have need : ∀ v, ((v = 2 ∧ 194 ≤ byteN l 0 ∧ byteN l 0 ≤ 223) ∨ (v = 3 ∧ 224 ≤ byteN l 0 ∧ byteN l 0 ≤ 239) ∨ (v = 4 ∧ 240 ≤ byteN l 0 ∧ byteN l 0 ≤ 244)) → needN (byteN l 0) = v := fun v h => by
    unfold needN
    repeat' split
    all_goals omega
  have slo : ∀ v, (if byteN l 0 = 224 then v = 160 else if byteN l 0 = 240 then v = 144 else v = 128) → secLo (byteN l 0) = v := fun v h => by
    unfold secLo
    repeat' split at *
    all_goals omega
  have shi : ∀ v, (if byteN l 0 = 237 then v = 159 else if byteN l 0 = 244 then v = 143 else v = 191) → secHi (byteN l 0) = v := fun v h => by
    unfold secHi
    repeat' split at *
    all_goals omega
  by_cases c1 : byteN l 0 < 128
  · exact head_low l hl c1
  by_cases c2 : byteN l 0 < 194 ∨ 245 ≤ byteN l 0
  · exact head_none l hl (by omega)
  by_cases c3 : byteN l 0 < 224
  · have f := firstT_at (byteN l 0) 2 (by omega)
    exact head2 l hl 128 191 (by decide) (by decide) (Lib.slow_C2 _ _ _ _ _ hlen g1 g2 g3 (by omega)) (need _ (by omega)) (slo _ (by rw [if_neg (by omega), if_neg (by omega)])) (shi _ (by rw [if_neg (by omega), if_neg (by omega)])) (by rw [f]) (by rw [f]; rfl) (by rw [f]; rfl)
  by_cases c4 : byteN l 0 = 224
  · have f := firstT_at (byteN l 0) 19 (by omega)
    exact head3 l hl 160 191 (by decide) (by decide) (Lib.slow_E0 _ _ _ _ _ hlen g1 g2 g3 (by omega)) (need _ (by omega)) (slo _ (by rw [if_pos (by omega)])) (shi _ (by rw [if_neg (by omega), if_neg (by omega)])) (by rw [f]) (by rw [f]; rfl) (by rw [f]; rfl)
  by_cases c5 : byteN l 0 = 237
  · have f := firstT_at (byteN l 0) 35 (by omega)
    exact head3 l hl 128 159 (by decide) (by decide) (Lib.slow_ED _ _ _ _ _ hlen g1 g2 g3 (by omega)) (need _ (by omega)) (slo _ (by rw [if_neg (by omega), if_neg (by omega)])) (shi _ (by rw [if_pos (by omega)])) (by rw [f]) (by rw [f]; rfl) (by rw [f]; rfl)
  by_cases c6 : byteN l 0 < 240
  · have f := firstT_at (byteN l 0) 3 (by omega)
    exact head3 l hl 128 191 (by decide) (by decide) (Lib.slow_E1 _ _ _ _ _ hlen g1 g2 g3 (by omega)) (need _ (by omega)) (slo _ (by rw [if_neg (by omega), if_neg (by omega)])) (shi _ (by rw [if_neg (by omega), if_neg (by omega)])) (by rw [f]) (by rw [f]; rfl) (by rw [f]; rfl)
  by_cases c7 : byteN l 0 = 240
  · have f := firstT_at (byteN l 0) 52 (by omega)
    exact head4 l hl 144 191 (by decide) (by decide) (Lib.slow_F0 _ _ _ _ _ hlen g1 g2 g3 (by omega)) (need _ (by omega)) (slo _ (by rw [if_neg (by omega), if_pos (by omega)])) (shi _ (by rw [if_neg (by omega), if_neg (by omega)])) (by rw [f]) (by rw [f]; rfl) (by rw [f]; rfl)
  by_cases c8 : byteN l 0 = 244
  · have f := firstT_at (byteN l 0) 68 (by omega)
    exact head4 l hl 128 143 (by decide) (by decide) (Lib.slow_F4 _ _ _ _ _ hlen g1 g2 g3 (by omega)) (need _ (by omega)) (slo _ (by rw [if_neg (by omega), if_neg (by omega)])) (shi _ (by rw [if_neg (by omega), if_pos (by omega)])) (by rw [f]) (by rw [f]; rfl) (by rw [f]; rfl)
  · have f := firstT_at (byteN l 0) 4 (by omega)
    exact head4 l hl 128 191 (by decide) (by decide) (Lib.slow_F1 _ _ _ _ _ hlen g1 g2 g3 (by omega)) (need _ (by omega)) (slo _ (by rw [if_neg (by omega), if_neg (by omega)])) (shi _ (by rw [if_neg (by omega), if_neg (by omega)])) (by rw [f]) (by rw [f]; rfl) (by rw [f]; rfl)
end Go.Proofs.YtomdhiphiediaaaDoor.Dec
