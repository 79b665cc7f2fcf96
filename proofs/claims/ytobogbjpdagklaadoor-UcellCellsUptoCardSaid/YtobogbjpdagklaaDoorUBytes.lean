/- ucell.Bytes: the bytes of numbers as runes; what is written is read again. -/
import Derived.Test.YtobogbjpdagklaaDoorShelfU
import Derived.Test.YtobogbjpdagklaaDoorRunes
import Derived.Test.YtobogbjpdagklaaDoorKinds
import Derived.Lib.RuneBytes
namespace Go.Proofs.YtobogbjpdagklaaDoor.Dec
open Go Go.RowKit Go.Proofs.YtobogbjpdagklaaDoor.Rw Go.Proofs.YtobogbjpdagklaaDoor.Kinds

def encAll (l : List Int) : List UInt8 := l.flatMap Lib.encodeRune
theorem bs_enc (r : Int) : bs (Lib.encodeRune r) = Lib.runeCells r := by
  unfold bs Lib.encodeRune Lib.runeCells
  rw [List.map_map]
  apply List.map_congr_left
  intro x hx
  have := Lib.encodeRuneZ_byte r x hx
  simp only [Function.comp]
  congr 1
  rw [show x.toNat.toUInt8.toNat = x.toNat % 256 from rfl]
  omega
theorem enc_len (r : Int) : (Lib.encodeRune r).length ≤ 4 := by
  have := Lib.encodeRuneZ_length r
  simp only [Lib.encodeRune, List.length_map]; omega
theorem enc_bad (r : Int) (h : valid r = false) : Lib.encodeRune r = Lib.encodeRune 65533 := by
  have h2 : r < 0 ∨ (55296 ≤ r ∧ r ≤ 57343) ∨ 1114111 < r := by simp [valid] at h; omega
  unfold Lib.encodeRune
  rw [Lib.encodeRuneZ_bad h2, Lib.encodeRuneZ_three (by omega)]
  rfl
theorem own_src {w : World} {B n : Nat} {v : Value} {xs : List Value} (h : w.ownsRow B 5 1 v n xs) : ∃ A c, v = .slice A n c ∧ n ≤ c ∧ c ≤ maxLen ∧ Src w A xs ∧ ∀ k, v.ownBlock = some k → B ≤ k := by
  obtain ⟨hl, ⟨rfl, rfl⟩ | ⟨g, cap, cur, rfl, hB, hg, hn, hm, hs, ht⟩⟩ := h
  · exact ⟨none, 0, rfl, Nat.le_refl _, by unfold maxLen; omega, Src.of_nil (by simpa using hl), fun k hk => by cases hk⟩
  · refine ⟨_, cap, rfl, hn, hm, fun j u hj => ⟨⟨g, 0, none⟩, rfl, ?_⟩, fun k hk => by cases hk; exact hB⟩
    rw [add_at, Nat.zero_add, blk_cell hg j]
    rw [← ht, List.getElem?_take] at hj
    split at hj
    · rw [← Array.getElem?_toList]; exact hj
    · cases hj
theorem AppR_calls (w : World) (B : Nat) (v : Value) (n : Nat) (xs : List Value) (r : Int) (hr0 : -2147483648 ≤ r) (hr1 : r ≤ 2147483647) (hown : w.ownsRow B 5 1 v n xs) (hlen : n + 4 ≤ 140737488355328) (hB : B ≤ w.heap.size) :
    Calls Tryd.prog 53 #[v, .int .i32 r] w fun e w' => ∃ v', e = .returned v' ∧ w'.ownsRow B 5 1 v' (n + (Lib.encodeRune r).length) (xs ++ bs (Lib.encodeRune r)) ∧ Keeps v.ownBlock.toList w w' := by
  refine (Tryd.utf8_AppendRune_plain B v n xs r hr0 hr1 w hown hlen hB).mono ?_
  rintro e w' ⟨v', rfl, ho, o, hg⟩
  rw [show (Lib.runeCells r).length = (Lib.encodeRune r).length by simp [Lib.runeCells, Lib.encodeRune]] at ho
  rw [bs_enc]
  have k0 := (Keeps.refl v.ownBlock.toList w).alloc o
  refine ⟨v', rfl, ho, k0.trans ⟨hg.os, hg.tape, hg.output, hg.size, fun k hk hn => hg.block k hk (fun e => hn (by rw [← e]; simp))⟩⟩
set_option maxRecDepth 100000 in
theorem Bytes_calls (w : World) (A : Option Addr) (c : Nat) (l : List Int) (hs : Src w A (ns .i32 l)) (hn : l.length ≤ 17592186044416) (hr : ∀ r ∈ l, -2147483648 ≤ r ∧ r ≤ 2147483647) :
    Calls Tryd.prog 36 #[.slice A l.length c] w fun e w' => ∃ v', e = .returned v' ∧ w'.ownsRow w.heap.size 5 1 v' (encAll l).length (bs (encAll l)) ∧ Keeps [] w w' := by
  have Hs := Lib.hid hs; clear hs
  have Hr := Lib.hid hr; clear hr
  go_enter Tryd.func36, Tryd.ntmps36
  go_wp2_with fail
  go_loopw [3, 8] (fun v i wr => ∃ k : Nat, k ≤ l.length ∧ i = .int .i64 k ∧ Keeps [] w wr ∧ wr.ownsRow w.heap.size 5 1 v (encAll (l.take k)).length (bs (encAll (l.take k))) ∧ (encAll (l.take k)).length ≤ 4 * k) (fun _ i _ => l.length - (intOf i).toNat)
  case atStart => exact ⟨0, by omega, rfl, Keeps.refl _ _, ⟨by simp [encAll, bs], .inl ⟨rfl, rfl⟩⟩, by simp [encAll]⟩
  case round =>
    obtain ⟨k, hk, rfl, hkr, hown, hle⟩ := hrel
    by_cases hlt : k < l.length
    · obtain ⟨ad, rfl, hc⟩ := (Hs.out.keeps hkr (by simp)) k (.int .i32 l[k]) (by simp [ns, hlt])
      obtain ⟨r0, r1⟩ := Hr.out _ (List.getElem_mem hlt)
      have htk : encAll (l.take (k + 1)) = encAll (l.take k) ++ Lib.encodeRune l[k] := by
        unfold encAll; rw [List.take_succ_eq_append_getElem hlt, List.flatMap_append, List.flatMap_cons, List.flatMap_nil, List.append_nil]
      generalize l[k] = r at *
      have Htk := Lib.hid htk; clear htk
      have hel := enc_len r
      have hel2 := enc_len 65533
      have hV := Is_calls wr r r0 r1
      obtain ⟨Av, cv, rfl, _, _, _, hob⟩ := own_src hown
      have hz := hkr.size
      have Hob := Lib.hid hob; clear hob
      have Hown := Lib.hid hown; clear hown
      cases hv : valid r with
      | true =>
        rw [hv] at hV
        have hA := AppR_calls wr w.heap.size _ _ _ r r0 r1 Hown.out (by omega) hz
        clear hv
        go_wp2_with (go_at_call 41; refine hV.mono ?_; rintro e w' ⟨rfl, rfl⟩)
        refine hA.mono ?_
        rintro e w2 ⟨v2, rfl, ho2, hk2⟩
        go_wp2
        go_roundw
        case rel => exact ⟨k + 1, by omega, by go_num, hkr.then hk2 (fun i hi => .inr (Hob.out i (by simpa using hi))), by rw [Htk.out, bs_append, List.length_append]; exact ho2, by rw [Htk.out, List.length_append]; omega⟩
        case measure => simp [intOf]; omega
      | false =>
        rw [hv] at hV
        have hA := AppR_calls wr w.heap.size _ _ _ 65533 (by omega) (by omega) Hown.out (by omega) hz
        rw [← enc_bad r hv] at hA
        clear hv
        go_wp2_with (go_at_call 41; refine hV.mono ?_; rintro e w' ⟨rfl, rfl⟩)
        refine hA.mono ?_
        rintro e w2 ⟨v2, rfl, ho2, hk2⟩
        go_wp2
        go_roundw
        case rel => exact ⟨k + 1, by omega, by go_num, hkr.then hk2 (fun i hi => .inr (Hob.out i (by simpa using hi))), by rw [Htk.out, bs_append, List.length_append]; exact ho2, by rw [Htk.out, List.length_append]; omega⟩
        case measure => simp [intOf]; omega
    · obtain rfl : k = l.length := by omega
      rw [List.take_of_length_le (Nat.le_refl _)] at hown
      go_wp2
      go_ret
      exact ⟨_, rfl, hown, hkr⟩

theorem u8_of (n : Nat) (h : n < 256) : n.toUInt8.toNat = n := by
  show n % 256 = n
  omega
set_option maxRecDepth 100000 in
set_option maxHeartbeats 1000000 in
theorem dec_enc (k : Nat) (hv : k < 55296 ∨ (57343 < k ∧ k ≤ 1114111)) (t : List UInt8) : dec (Lib.encodeRune k ++ t) = (k, (Lib.encodeRune k).length) := by
  by_cases h1 : k ≤ 127
  · rw [show Lib.encodeRune k = [k.toUInt8] by simp [Lib.encodeRune, Lib.encodeRuneZ_one (r := (k : Int)) (by omega) (by omega)]]
    simp only [dec, List.cons_append, List.nil_append, List.getD_cons_zero, List.length_cons, List.length_nil, u8_of k (by omega)]
    unfold Lib.decodeN
    rw [if_pos (by omega)]
  have g1 : 127 < k := by omega
  by_cases h2 : k ≤ 2047
  · rw [show Lib.encodeRune k = [(192 + k / 64).toUInt8, (128 + k % 64).toUInt8] by
      simp only [Lib.encodeRune, Lib.encodeRuneZ_two (r := (k : Int)) (by omega) (by omega), List.map_cons, List.map_nil]
      rw [show (192 + (k : Int) / 64).toNat = 192 + k / 64 by omega, show (128 + (k : Int) % 64).toNat = 128 + k % 64 by omega]]
    simp only [dec, List.cons_append, List.nil_append, List.getD_cons_zero, List.getD_cons_succ, List.length_cons, List.length_nil, u8_of (192 + k / 64) (by omega), u8_of (128 + k % 64) (by omega)]
    unfold Lib.decodeN
    rw [if_neg (by omega), if_pos (by omega), if_pos (by omega)]
    exact Prod.ext (by simp only; omega) rfl
  by_cases h3 : k ≤ 65535
  · rw [show Lib.encodeRune k = [(224 + k / 4096).toUInt8, (128 + k / 64 % 64).toUInt8, (128 + k % 64).toUInt8] by
      simp only [Lib.encodeRune, Lib.encodeRuneZ_three (r := (k : Int)) (by omega), List.map_cons, List.map_nil]
      rw [show (224 + (k : Int) / 4096).toNat = 224 + k / 4096 by omega, show (128 + (k : Int) / 64 % 64).toNat = 128 + k / 64 % 64 by omega, show (128 + (k : Int) % 64).toNat = 128 + k % 64 by omega]]
    simp only [dec, List.cons_append, List.nil_append, List.getD_cons_zero, List.getD_cons_succ, List.length_cons, List.length_nil, u8_of (224 + k / 4096) (by omega), u8_of (128 + k / 64 % 64) (by omega), u8_of (128 + k % 64) (by omega)]
    unfold Lib.decodeN
    rw [if_neg (by omega), if_neg (by omega), if_pos (by omega), if_pos (by omega)]
    exact Prod.ext (by simp only; omega) rfl
  · rw [show Lib.encodeRune k = [(240 + k / 262144).toUInt8, (128 + k / 4096 % 64).toUInt8, (128 + k / 64 % 64).toUInt8, (128 + k % 64).toUInt8] by
      simp only [Lib.encodeRune, Lib.encodeRuneZ_four (r := (k : Int)) (by omega) (by omega), List.map_cons, List.map_nil]
      rw [show (240 + (k : Int) / 262144).toNat = 240 + k / 262144 by omega, show (128 + (k : Int) / 4096 % 64).toNat = 128 + k / 4096 % 64 by omega, show (128 + (k : Int) / 64 % 64).toNat = 128 + k / 64 % 64 by omega, show (128 + (k : Int) % 64).toNat = 128 + k % 64 by omega]]
    simp only [dec, List.cons_append, List.nil_append, List.getD_cons_zero, List.getD_cons_succ, List.length_cons, List.length_nil, u8_of (240 + k / 262144) (by omega), u8_of (128 + k / 4096 % 64) (by omega), u8_of (128 + k / 64 % 64) (by omega), u8_of (128 + k % 64) (by omega)]
    unfold Lib.decodeN
    rw [if_neg (by omega), if_neg (by omega), if_neg (by omega), if_pos (by omega), if_pos (by omega)]
    exact Prod.ext (by simp only; omega) rfl
theorem runes_enc (l : List Int) (hv : ∀ r ∈ l, valid r = true) : runesOf (encAll l) = l := by
  induction l with
  | nil => rfl
  | cons r l ih =>
    have h := hv r (by simp)
    have h2 : (0 ≤ r ∧ r < 55296) ∨ (57343 < r ∧ r ≤ 1114111) := by simpa [valid] using h
    obtain ⟨k, rfl⟩ : ∃ k : Nat, r = k := ⟨r.toNat, by omega⟩
    have he : 1 ≤ (Lib.encodeRune (k : Int)).length := by have := Lib.encodeRuneZ_length (k : Int); simp only [Lib.encodeRune, List.length_map]; omega
    have hd := dec_enc k (by omega) (encAll l)
    rw [show encAll ((k : Int) :: l) = Lib.encodeRune k ++ encAll l by simp [encAll]]
    rw [runesOf_cons _ (by intro e; rw [List.append_eq_nil_iff] at e; rw [e.1] at he; simp at he), hd]
    simp only [List.drop_left]
    rw [ih (fun r hr => hv r (by simp [hr]))]
theorem dec_valid (l : List UInt8) : valid ((dec l).1 : Int) = true := by
  have : ((dec l).1 < 55296) ∨ (57343 < (dec l).1 ∧ (dec l).1 ≤ 1114111) := by
    have ha : (l.getD 0 0).toNat < 256 := (l.getD 0 0).toBitVec.isLt
    unfold dec Lib.decodeN
    repeat' split
    all_goals (try simp only)
    all_goals omega
  simp [valid]; omega
theorem runesF_valid : ∀ (n : Nat) (l : List UInt8), ∀ r ∈ runesF n l, valid r = true
  | 0, _, r, h => by simp [runesF] at h
  | n + 1, [], r, h => by simp [runesF] at h
  | n + 1, x :: l, r, h => by
    simp only [runesF, List.mem_cons] at h
    rcases h with rfl | h
    · exact dec_valid _
    · exact runesF_valid n _ r h
theorem runes_valid (l : List UInt8) : ∀ r ∈ runesOf l, valid r = true := runesF_valid _ l
theorem valid_range {r : Int} (h : valid r = true) : -2147483648 ≤ r ∧ r ≤ 2147483647 := by
  have h2 : (0 ≤ r ∧ r < 55296) ∨ (57343 < r ∧ r ≤ 1114111) := by simpa [valid] using h
  omega
end Go.Proofs.YtobogbjpdagklaaDoor.Dec
