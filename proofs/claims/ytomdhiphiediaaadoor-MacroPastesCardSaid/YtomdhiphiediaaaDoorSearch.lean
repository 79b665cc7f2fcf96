/- bytes.Index, bytes.Count over bytes that are read. -/
import Derived.Test.YtomdhiphiediaaaDoorShelfM
import Derived.Test.YtomdhiphiediaaaDoorRunes
import Derived.Lib.SplitLaws
namespace Go.Proofs.YtomdhiphiediaaaDoor.Dec
open Go Go.RowKit Go.Proofs.YtomdhiphiediaaaDoor.Rw

/-- internal/bytealg.MaxLen holds some number. -/
def MaxC (w : World) : Prop := ∃ m, w.cell? ⟨0, 0, none⟩ = some (.int .i64 m)
theorem MaxC.keeps {w w' : World} (h : MaxC w) (k : Keeps [] w w') : MaxC w' := by
  obtain ⟨m, hm⟩ := h
  exact ⟨m, k.cell hm (by simp)⟩
def bz (l : List UInt8) : List Int := l.map fun b => (b.toNat : Int)
theorem bz_length (l : List UInt8) : (bz l).length = l.length := by simp [bz]
theorem bz_bytes (l : List UInt8) : Lib.bytesOf (bz l) = l := by
  unfold Lib.bytesOf bz
  rw [List.map_map]
  conv => rhs; rw [← List.map_id l]
  apply List.map_congr_left
  intro b _
  simp
theorem bz_range (l : List UInt8) : ∀ x ∈ bz l, 0 ≤ x ∧ x < 256 := by
  intro x hx
  simp only [bz, List.mem_map] at hx
  obtain ⟨b, _, rfl⟩ := hx
  have := b.toNat_lt
  omega
theorem bz_cell {w : World} {a : Addr} {l : List UInt8} (h : Src w (some a) (bs l)) : ∀ i, i < l.length → w.cell? (a.add i) = some (.int .u8 ((bz l).getD i 0)) := fun i hi => by
  obtain ⟨ad, he, hc⟩ := h i (.int .u8 (l[i]).toNat) (by simp [bs, hi])
  cases he
  rw [hc]
  simp [bz, hi]
theorem src_some {w : World} {A : Option Addr} {l : List UInt8} (h : Src w A (bs l)) (hl : 0 < l.length) : ∃ a, A = some a := by
  cases l with
  | nil => simp at hl
  | cons x l => obtain ⟨a, ha, _⟩ := h 0 (.int .u8 x.toNat) rfl; exact ⟨a, ha⟩
theorem src_none {w : World} {l : List UInt8} (h : Src w none (bs l)) : l = [] := by
  cases l with
  | nil => rfl
  | cons x l => obtain ⟨a, ha, _⟩ := h 0 (.int .u8 x.toNat) rfl; cases ha
theorem plain_addr {w : World} {a : Addr} {v : Value} (h : w.cell? a = some v) : ∃ b o, a = ⟨b, o, none⟩ := by
  have := World.cell?_spot h
  obtain ⟨b, o, s⟩ := a
  exact ⟨b, o, by simp_all⟩
theorem Index_calls (w : World) (hM : MaxC w) (A : Option Addr) (c : Nat) (s : List UInt8) (B : Option Addr) (d : Nat) (t : List UInt8) (hs : Src w A (bs s)) (ht : Src w B (bs t)) (ht0 : 0 < t.length) (ht2 : t.length ≤ 2) (hz : A = none → c = 0) (hc : s.length ≤ c) (hl : s.length < 4294967281) :
    Calls Tryd.prog 45 #[.slice A s.length c, .slice B t.length d] w fun e w' => e = .returned (.int .i64 (Lib.index s t)) ∧ Keeps [] w w' := by
  obtain ⟨b, rfl⟩ := src_some ht ht0
  obtain ⟨m, hm⟩ := hM
  cases A with
  | none =>
    obtain rfl := src_none hs
    rw [hz rfl]
    have h0 : ∃ b2 o2 cv, (some b : Option Addr) = some ⟨b2, o2, none⟩ ∧ w.cell? ⟨b2, o2, none⟩ = some (.int .u8 cv) := by
      have hc0 := bz_cell ht 0 ht0
      obtain ⟨b2, o2, hb⟩ := plain_addr hc0
      have e : b.add 0 = b := by simp [Addr.add]
      rw [e] at hb hc0
      subst hb
      exact ⟨b2, o2, _, rfl, hc0⟩
    refine (Tryd.bytes_Index_nil (some b) t.length d w (by omega) (fun _ => h0)).mono fun e w' h => ⟨?_, by rw [h.2]; exact Keeps.refl _ _⟩
    rw [h.1, if_neg (by omega)]
    have : Lib.index [] t = -1 := by
      unfold Lib.index
      cases t with
      | nil => simp at ht0
      | cons _ _ => rfl
    rw [this]
  | some a =>
    refine (Tryd.bytes_Index_at a b s.length c t.length d (bz s) (bz t) m w (bz_length s) (bz_length t) (bz_range s) (bz_range t) (bz_cell hs) (bz_cell ht) hc hl (by omega) hm).mono fun e w' h => ?_
    obtain ⟨he, q, rfl⟩ := h
    rw [bz_bytes, bz_bytes] at he
    exact ⟨he, (Keeps.refl _ _).drewN q⟩
theorem Count_calls (w : World) (hM : MaxC w) (A : Option Addr) (c : Nat) (s : List UInt8) (B : Option Addr) (d : Nat) (t : List UInt8) (hs : Src w A (bs s)) (ht : Src w B (bs t)) (ht0 : 0 < t.length) (ht2 : t.length ≤ 2) (hz : A = none → c = 0) (hc : s.length ≤ c) (hl : s.length < 4294967281) :
    Calls Tryd.prog 44 #[.slice A s.length c, .slice B t.length d] w fun e w' => e = .returned (.int .i64 (Lib.count s t : Nat)) ∧ Keeps [] w w' := by
  obtain ⟨b, rfl⟩ := src_some ht ht0
  obtain ⟨m, hm⟩ := hM
  by_cases h1 : t.length = 1
  · obtain ⟨x, rfl⟩ : ∃ x, t = [x] := List.length_eq_one_iff.1 h1
    have hc0 := bz_cell ht 0 ht0
    obtain ⟨b2, o2, hb⟩ := plain_addr hc0
    have e : b.add 0 = b := by simp [Addr.add]
    rw [e] at hb hc0
    subst hb
    have hc1 : w.cell? ⟨b2, o2, none⟩ = some (.int .u8 (x.toNat : Int)) := hc0
    cases A with
    | none =>
      obtain rfl := src_none hs
      rw [hz rfl]
      refine (Tryd.bytes_Count_one_nil b2 o2 d _ w hc1).mono fun e w' h => ⟨?_, by rw [h.2]; exact Keeps.refl _ _⟩
      rw [h.1, Lib.count_one]; rfl
    | some a =>
      refine (Tryd.bytes_Count_one_at a s.length c b2 o2 d (bz s) _ w (bz_length s) (bz_cell hs) hc1).mono fun e w' h => ⟨?_, by rw [h.2]; exact Keeps.refl _ _⟩
      rw [h.1, bz_bytes, Lib.count_one]
      simp [Lib.countByte]
  · cases A with
    | none =>
      obtain rfl := src_none hs
      rw [hz rfl]
      refine (Tryd.bytes_Count_nil (some b) t.length d w (by omega) (by omega)).mono fun e w' h => ⟨?_, by rw [h.2]; exact Keeps.refl _ _⟩
      have hi : Lib.index [] t = -1 := by
        unfold Lib.index
        cases t with
        | nil => simp at ht0
        | cons _ _ => rfl
      rw [h.1, Lib.count_miss hi]; rfl
    | some a =>
      refine (Tryd.bytes_Count_at a b s.length c t.length d (bz s) (bz t) m w (bz_length s) (bz_length t) (bz_range s) (bz_range t) (bz_cell hs) (bz_cell ht) hc hl (by omega) (by omega) hm).mono fun e w' h => ?_
      obtain ⟨he, q, rfl⟩ := h
      rw [bz_bytes, bz_bytes] at he
      exact ⟨he, (Keeps.refl _ _).drewN q⟩
end Go.Proofs.YtomdhiphiediaaaDoor.Dec
