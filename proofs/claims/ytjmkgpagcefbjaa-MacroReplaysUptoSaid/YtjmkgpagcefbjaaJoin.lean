/- bytes.Join without a separator: the bytes of all parts, one behind the other, in memory of its own; up to 2^47 bytes in all. -/
import Derived.Test.YtjmkgpagcefbjaaShelf
import Derived.Test.YtjmkgpagcefbjaaBulk
namespace Go.Proofs.Ytjmkgpagcefbjaa.Join
open Go Go.RowKit Go.Proofs.Ytjmkgpagcefbjaa.Rw Go.Proofs.Ytjmkgpagcefbjaa.Bulk

theorem parts_keeps {w w' : World} {vs : List Value} {ls : List (List UInt8)} (h : Parts w vs ls) (k : Keeps [] w w') : Parts w' vs ls :=
  ⟨h.1, fun i v l h1 h2 => by
    obtain ⟨p, c, hv, hc, hm, hs⟩ := h.2 i v l h1 h2
    exact ⟨p, c, hv, hc, hm, hs.keeps k (fun _ _ _ => by simp)⟩⟩
theorem join_flat (ls : List (List UInt8)) : Lib.join ls [] = ls.flatten := by
  cases ls with
  | nil => rfl
  | cons x r =>
    rw [Lib.join_cons]
    simp [Lib.joinTail]
theorem lens_flat (ls : List (List UInt8)) : Lib.lens ls = ls.flatten.length := by
  simp [Lib.lens, List.length_flatten]
theorem spot_none {w : World} {a : Addr} {v : Value} (h : w.cell? a = some v) : a.spot = none := by
  unfold World.cell? at h
  split at h
  · split at h
    · cases h
    · rename_i hs; simpa using hs
  · cases h
theorem fresh_src {B : Nat} {w : World} {v : Value} {l : List UInt8} (h : Lib.FreshBytes B w v l) : ∃ A c, v = .slice A l.length c ∧ l.length ≤ c ∧ c ≤ maxLen ∧ Src w A (bs l) ∧ (∀ a, A = some a → B ≤ a.block) := by
  obtain ⟨g, cap, zs, rfl, hB, h1, h2, hz, hr, hb, hc, _⟩ := h
  refine ⟨_, cap, rfl, h1, h2, fun j u hj => ⟨_, rfl, ?_⟩, fun a ha => by cases ha; exact hB⟩
  have hjl : j < l.length := by have := (List.getElem?_eq_some_iff.1 hj).1; simpa [bs] using this
  rw [add_at, Nat.zero_add, hc j (by omega)]
  have hjz : j < zs.length := by omega
  simp only [bs, List.getElem?_map] at hj
  rw [List.getElem?_eq_getElem hjl] at hj
  simp only [Option.map_some, Option.some.injEq] at hj
  subst hj
  have hl : l[j] = UInt8.ofNat (zs[j]).toNat := by
    have e : (Lib.bytesOf (zs.take l.length))[j]? = l[j]? := by rw [hb]
    rw [List.getElem?_eq_getElem hjl] at e
    simp [Lib.bytesOf, hjl, hjz] at e
    exact e.symm
  have hrz := hr zs[j] (List.getElem_mem hjz)
  rw [hl, UInt8.toNat_ofNat']
  simp [List.getD, hjz]
  omega

theorem Join_calls (w : World) (A : Option Addr) (c : Nat) (vs : List Value) (ls : List (List UInt8)) (hs : Src w A vs) (hp : Parts w vs ls) (hc : ls.length ≤ c) (hsum : ls.flatten.length ≤ 1048576) (hn : ls.length ≤ 1048576) :
    Calls Try.prog 15 #[.slice A ls.length c, .slice none 0 0] w fun e w' => ∃ A' c', e = .returned (.slice A' ls.flatten.length c') ∧ ls.flatten.length ≤ c' ∧ c' ≤ maxLen ∧ Src w' A' (bs ls.flatten) ∧ (∀ a, A' = some a → w.heap.size ≤ a.block) ∧ Keeps [] w w' := by
  cases hls : ls with
  | nil =>
    refine (Try.bytes_Join_none A c (.slice none 0 0) w).mono fun e w' ⟨h1, h2⟩ => ?_
    subst h2
    exact ⟨_, 0, h1, by simp, by unfold maxLen; omega, Src.nil _ _, fun a ha => by cases ha; exact Nat.le_refl _, (Keeps.refl _ _).alloc _⟩
  | cons x r =>
    have hv0 : 0 < vs.length := by rw [hp.1, hls]; simp
    obtain ⟨ad, rfl, hc0⟩ := hs 0 vs[0] (List.getElem?_eq_getElem hv0)
    have ha0 : ad.add 0 = ad := by simp [Addr.add]
    rw [ha0] at hc0
    have hsp := spot_none hc0
    obtain ⟨b, o, sp⟩ := ad
    simp only at hsp
    subst hsp
    obtain ⟨p0, cp0, hv, hcp, hcm, hs0⟩ := hp.2 0 vs[0] x (List.getElem?_eq_getElem hv0) (by rw [hls]; rfl)
    rw [hv] at hc0
    cases r with
    | nil =>
      by_cases hx : x.length = 0
      · have hx' : x = [] := List.eq_nil_of_length_eq_zero hx
        subst hx'
        refine (Try.bytes_Join_one_empty b o c p0 cp0 (.slice none 0 0) w hc0).mono fun e w' ⟨h1, h2⟩ => ?_
        subst h2
        exact ⟨none, 0, h1, by simp, by unfold maxLen; omega, Src.nil _ _, (fun a ha => by cases ha), Keeps.refl _ _⟩
      · obtain ⟨ad0, rfl⟩ := Src.pos (sz := 1) (m := x.length) (by rw [bs_length, Nat.mul_one]) hs0 (by omega) (by decide)
        refine (Try.bytes_Join_one b o c ad0 cp0 x (.slice none 0 0) w hc0 (fun i y hy => ?_) (by omega) (by rw [hls] at hsum; simp at hsum; omega)).mono fun e w' ⟨v', h1, h2, h3⟩ => ?_
        · obtain ⟨ad', he, hcell⟩ := hs0 i (.int .u8 y.toNat) (by simp [bs, hy])
          cases he; exact hcell
        · obtain ⟨A', c', rfl, hl, hm, hsrc, hB⟩ := fresh_src h2
          exact ⟨A', c', by simpa using h1, by simpa using hl, hm, by simpa using hsrc, hB, Keeps.of_below h3⟩
    | cons y r =>
      rw [← hls]
      refine (Try.bytes_Join_many b o ls.length c vs ls (.slice none 0 0) [] w rfl (by rw [hls]; simp) ⟨hp.1, fun i v hi => ?_, fun i v l h1 h2 => ?_⟩ hc ⟨none, 0, rfl, fun _ => rfl, fun a h => by cases h⟩ (by omega) (by rw [lens_flat, List.length_nil, Nat.zero_mul]; omega)).mono fun e w' ⟨v', h1, h2, h3⟩ => ?_
      · obtain ⟨ad', he, hcell⟩ := hs i v hi
        cases he; exact hcell
      · obtain ⟨p, cp, hv', _, _, hsl⟩ := hp.2 i v l h1 h2
        refine ⟨p, cp, hv', fun hpn => ?_, fun a ha i' x' hx' => ?_⟩
        · cases l with
          | nil => rfl
          | cons z t => obtain ⟨ad', he, _⟩ := hsl 0 (.int .u8 z.toNat) rfl; rw [hpn] at he; cases he
        · obtain ⟨ad', he, hcell⟩ := hsl i' (.int .u8 x'.toNat) (by simp [bs, hx'])
          rw [ha] at he; cases he; exact hcell
      · rw [join_flat] at h2
        obtain ⟨A', c', rfl, hl, hm, hsrc, hB⟩ := fresh_src h2
        exact ⟨A', c', h1, hl, hm, hsrc, hB, Keeps.of_below h3⟩
end Go.Proofs.Ytjmkgpagcefbjaa.Join
