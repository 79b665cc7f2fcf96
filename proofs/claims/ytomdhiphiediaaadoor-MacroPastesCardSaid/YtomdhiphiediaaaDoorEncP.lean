/- The model's encoding of a rune and the shelf's are the same. -/
import Derived.Lib.RuneBytes
namespace Go.Proofs.YtomdhiphiediaaaDoor.Dec
open Go
theorem enc_same (r : Int) : Utf8.encode r = ⟨(Lib.encodeRune r).toArray⟩ := by
  unfold Utf8.encode Lib.encodeRune
  by_cases hv : (0 ≤ r ∧ r < 55296) ∨ (57344 ≤ r ∧ r ≤ 1114111)
  · have h1 : Utf8.valid r = true := by simp [Utf8.valid]; omega
    obtain ⟨n, rfl⟩ := Int.eq_ofNat_of_zero_le (by omega : 0 ≤ r)
    simp only [h1, if_true, Int.toNat_natCast]
    have e1 : (192 + (n : Int) / 64).toNat = 192 + n / 64 := by omega
    have e2 : (128 + (n : Int) % 64).toNat = 128 + n % 64 := by omega
    have e3 : (224 + (n : Int) / 4096).toNat = 224 + n / 4096 := by omega
    have e4 : (128 + (n : Int) / 64 % 64).toNat = 128 + n / 64 % 64 := by omega
    have e5 : (240 + (n : Int) / 262144).toNat = 240 + n / 262144 := by omega
    have e6 : (128 + (n : Int) / 4096 % 64).toNat = 128 + n / 4096 % 64 := by omega
    by_cases c1 : n < 128
    · rw [if_pos c1, Lib.encodeRuneZ_one (by omega) (by omega)]
      simp only [List.map_cons, List.map_nil, Int.toNat_natCast]
    rw [if_neg c1]
    by_cases c2 : n < 2048
    · rw [if_pos c2, Lib.encodeRuneZ_two (by omega) (by omega)]
      simp only [List.map_cons, List.map_nil, e1, e2]
    rw [if_neg c2]
    by_cases c3 : n < 65536
    · rw [if_pos c3, Lib.encodeRuneZ_three (by omega)]
      simp only [List.map_cons, List.map_nil, e3, e4, e2]
    · rw [if_neg c3, Lib.encodeRuneZ_four (by omega) (by omega)]
      simp only [List.map_cons, List.map_nil, e5, e6, e4, e2]
  · have h1 : Utf8.valid r = false := by simp [Utf8.valid]; omega
    rw [Lib.encodeRuneZ_bad (by omega)]
    simp only [h1, Utf8.runeError, Bool.false_eq_true, if_false]
    decide
end Go.Proofs.YtomdhiphiediaaaDoor.Dec
