/- lanyardlaw22.MacroPlain: what it comes to. -/
import Derived.Test.YtomdhiphiediaaaDoorPlainP
import Derived.Test.YtomdhiphiediaaaDoorMacBegun
namespace Go.Proofs.YtomdhiphiediaaaDoor.Dec
open Go Go.RowKit Go.Proofs.YtomdhiphiediaaaDoor.Rw

theorem PPut_plain (w : World) (b : Nat) (F : List Nat) (l : List UInt8) (x : UInt8) (h : PAt w b F l false) (hl : l.length < 16384) (he : ends (l ++ [x]) tail = false) :
    Calls Tryd.prog 8 #[.pointer (some ⟨b, 0, none⟩), .int .u8 x.toNat] w fun e w' => e = .returned (.tuple #[.bool false, .int .i64 0]) ∧ Keeps F w w' ∧ ∃ F', PAt w' b F' (l ++ [x]) false ∧ ∀ k, k ∈ F' → k ∈ F ∨ w.heap.size ≤ k :=
  (PPut_calls w b F l x h (by omega)).mono fun e w' hh => by
    have hp : putP l x = (false, 0, l ++ [x]) := by unfold putP; rw [he, if_neg (by decide), if_neg (by omega)]
    rw [hp] at hh
    exact hh
theorem PPut_end (w : World) (b : Nat) (F : List Nat) (l : List UInt8) (x : UInt8) (h : PAt w b F l false) (hl : l.length ≤ 16384) (he : ends (l ++ [x]) tail = true) :
    Calls Tryd.prog 8 #[.pointer (some ⟨b, 0, none⟩), .int .u8 x.toNat] w fun e w' => e = .returned (.tuple #[.bool true, .int .i64 0]) ∧ Keeps F w w' ∧ ∃ F', PAt w' b F' ((l ++ [x]).take (l.length + 1 - 6)) true ∧ ∀ k, k ∈ F' → k ∈ F ∨ w.heap.size ≤ k :=
  (PPut_calls w b F l x h hl).mono fun e w' hh => by
    have hp : putP l x = (true, 0, (l ++ [x]).take (l.length + 1 - 6)) := by unfold putP; rw [he, if_pos rfl]
    rw [hp] at hh
    exact hh
theorem str_app (s : List UInt8) (x : UInt8) (h : x.toNat < 128) : (⟨s.toArray⟩ : ByteArray) ++ Utf8.encode (x.toNat : Int) = ⟨(s ++ [x]).toArray⟩ := by
  rw [enc_low x h]
  apply ByteArray.ext
  simp
/-- The second loop's relation. -/
def P2 (w : World) (b g : Nat) (cs : List UInt8) (i : Value) (wz : World) : Prop :=
  ∃ (k : Nat) (F : List Nat), k ≤ 6 ∧ i = .int .i64 k ∧ PAt wz b F (if k = 6 then cs else cs ++ tail.take k) (decide (k = 6)) ∧ (∀ j, j ∈ F → w.heap.size ≤ j ∧ j ≠ g) ∧ Keeps [] w wz ∧ Src wz (some ⟨g, 0, none⟩) (bs tail) ∧ g < wz.heap.size
theorem P2.next {w wz w3 : World} {b g : Nat} {cs l : List UInt8} {k : Nat} {F F3 : List Nat} {dn : Bool} (hk : k + 1 ≤ 6) (hF : ∀ j, j ∈ F → w.heap.size ≤ j ∧ j ≠ g) (hkz : Keeps [] w wz) (hs : Src wz (some ⟨g, 0, none⟩) (bs tail)) (hg : g < wz.heap.size) (hk3 : Keeps F wz w3) (hP3 : PAt w3 b F3 l dn) (hF3 : ∀ j, j ∈ F3 → j ∈ F ∨ wz.heap.size ≤ j)
    (hl : l = if k + 1 = 6 then cs else cs ++ tail.take (k + 1)) (hd : dn = decide (k + 1 = 6)) : P2 w b g cs (.int .i64 ((k : Int) + 1)) w3 := by
  subst hl hd
  have z := hkz.size
  have z3 := hk3.size
  refine ⟨k + 1, F3, hk, by go_num, hP3, fun j hj => ?_, hkz.then hk3 (fun i hi => .inr (hF i hi).1), hs.keeps hk3 (fun a ha _ => by cases ha; intro hm; exact (hF g hm).2 rfl), by omega⟩
  rcases hF3 j hj with h | h
  · exact hF j h
  · exact ⟨by omega, by omega⟩
set_option maxRecDepth 100000 in
set_option maxHeartbeats 4000000 in
theorem plain_all (w : World) (hU : UTabs w) (hM : MaxC w) (A : Option Addr) (c : Nat) (ls : List UInt8) (hs : Src w A (bs ls)) (hm : ls.length ≤ 9223372036854775807) :
    Calls Tryd.prog 3 #[.slice A ls.length c] w fun e w' => e = .returned (.bool true) ∧ Keeps [] w w' := by
  have HU := Lib.hid hU
  have HM := Lib.hid hM
  have Hs := Lib.hid hs
  clear hU hM hs
  by_cases hbig : 16378 < ls.length
  · have hb : (16378 : Int) < (ls.length : Int) := by omega
    go_enter Tryd.func3, Tryd.ntmps3
    go_wp2_with fail
    refine (PNew_calls w).mono ?_
    rintro e w1 ⟨rfl, hk1, _⟩
    go_wp2_with fail
    refine (Mac.begun_calls w1).mono ?_
    rintro e w2 ⟨rfl, hk2⟩
    go_wp2
    go_ret
    exact ⟨rfl, hk1.trans hk2⟩
  · have hb : ¬ (16378 : Int) < (ls.length : Int) := by omega
    have hcl : (ls.map ltr).length = ls.length := by simp
    have hasc : ∀ x ∈ ls.map ltr, x.toNat < 128 ∧ 32 ≤ x.toNat := by
      intro x hx
      obtain ⟨y, _, rfl⟩ := List.mem_map.1 hx
      rw [ltr_nat]; omega
    have hat : ∀ k (hk : k < ls.length), (ls.map ltr)[k]? = some (ltr ls[k]) := fun k hk => by simp [hk]
    obtain ⟨cs, hcs⟩ : ∃ cs, ls.map ltr = cs := ⟨_, rfl⟩
    rw [hcs] at hcl hasc hat
    have h27 : ∀ x ∈ cs, x ≠ 27 := fun x hx e => by have := (hasc x hx).2; subst e; exact absurd this (by decide)
    have h13 : ∀ x ∈ cs, x ≠ 13 := fun x hx e => by have := (hasc x hx).2; subst e; exact absurd this (by decide)
    have Hcl := Lib.hid hcl
    have Hasc := Lib.hid hasc
    have Hat := Lib.hid hat
    have H27 := Lib.hid h27
    have H13 := Lib.hid h13
    clear hcs hcl hasc hat h27 h13
    have kc := fun (w : World) (C : Array Value) (n c : Nat) => Lib.run_convert_bytes_const (P := Tryd.prog) w 22 5 C n c Tryd.underlying22 Tryd.underlying5
    go_enter Tryd.func3, Tryd.ntmps3
    go_wp2_with fail
    refine (PNew_calls w).mono ?_
    rintro e w1 ⟨rfl, hk1, hP⟩
    obtain ⟨b, hbe⟩ : ∃ b, b = w.heap.size := ⟨_, rfl⟩
    rw [← hbe] at hP ⊢
    have Hbe := Lib.hid hbe; clear hbe
    go_wp2_with fail
    refine (Mac.begun_calls w1).mono ?_
    rintro e w2 ⟨rfl, hk2⟩
    have hP2 := hP.keeps hk2 (by simp)
    have k2 := hk1.trans hk2
    clear hP hk1 hk2
    go_wp2_with fail
    go_loopw [4, 28] (fun s i wr => ∃ (k : Nat) (F : List Nat), k ≤ ls.length ∧ i = .int .i64 k ∧ s = .string ⟨(cs.take k).toArray⟩ ∧ PAt wr b F (cs.take k) false ∧ (∀ j, j ∈ F → w.heap.size ≤ j) ∧ Keeps [] w wr) (fun _ i _ => ls.length - (intOf i).toNat)
    case atStart => exact ⟨0, [b], by omega, rfl, rfl, hP2, fun j hj => by have := Hbe.out; simp at hj; omega, k2⟩
    case round =>
      clear hP2 k2
      obtain ⟨k, F, hk, rfl, rfl, hP, hF, hkr⟩ := hrel
      have HF := Lib.hid hF; clear hF
      by_cases hlt : k < ls.length
      · obtain ⟨ad, hA, hc⟩ := (Hs.out.keeps hkr (fun _ _ _ => by simp)) k (.int .u8 (ls[k]).toNat) (by simp [bs, hlt])
        subst hA
        have hx := Hat.out k hlt
        have hxn := ltr_nat ls[k]
        have hy := (ls[k]).toNat_lt
        generalize hyy : (ls[k]).toNat = y at *
        clear hyy
        generalize ltr ls[k] = x at *
        have hmem : x ∈ cs := List.mem_of_getElem? hx
        have hasx := Hasc.out x hmem
        have htk : cs.take (k + 1) = cs.take k ++ [x] := by rw [List.take_add_one, hx]; rfl
        have hstr := str_app (cs.take k) x hasx.1
        rw [← htk] at hstr
        have hlen : (cs.take k).length = k := by rw [List.length_take, Hcl.out]; omega
        have hen : ends (cs.take k ++ [x]) tail = false := by rw [← htk]; exact ends_no (fun z hz => H27.out z (List.mem_of_mem_take hz))
        have hPut := PPut_plain wr b F (cs.take k) x hP (by omega) hen
        rw [← htk] at hPut
        have HPut := Lib.hid hPut
        have hxe : (32 : Int) + (y : Int) % 95 = (x.toNat : Int) := by omega
        have hsz : ¬ 9223372036854775807 < (⟨(cs.take k).toArray⟩ : ByteArray).size + (Utf8.encode (x.toNat : Int)).size := by
          have h1 : (⟨(cs.take k).toArray⟩ : ByteArray).size = k := by show (cs.take k).toArray.size = k; simpa using hlen
          rw [h1, enc_low x hasx.1]
          show ¬ 9223372036854775807 < k + 1
          omega
        have hx128 : x.toNat < 128 := hasx.1
        have Hstr := Lib.hid hstr
        have Hxn := Lib.hid hxn
        clear hPut hstr hen hlen htk hasx hmem hx hxn
        go_wp2_with (go_at_call 8; refine HPut.out.mono ?_; rintro e w3 ⟨rfl, hk3, F3, hP3, hF3⟩)
        have hz := hkr.size
        have hF3' : ∀ j, j ∈ F3 → w.heap.size ≤ j := fun j hj => by
          rcases hF3 j hj with h | h
          · exact HF.out j h
          · omega
        go_roundw
        case rel => exact ⟨k + 1, F3, by omega, by go_num, by rw [Hstr.out], hP3, hF3', hkr.then hk3 (fun i hi => .inr (HF.out i hi))⟩
        case measure => simp [intOf]; omega
      · obtain rfl : k = ls.length := by omega
        have htk : cs.take ls.length = cs := List.take_of_length_le (by have := Hcl.out; omega)
        rw [htk] at hP ⊢
        have hclen : cs.length ≤ 16378 := by have := Hcl.out; omega
        clear htk hk
        have hcon := src_newF wr #[.int .u8 27, .int .u8 91, .int .u8 50, .int .u8 48, .int .u8 49, .int .u8 126] 5 (6, 7)
        have Hcon := Lib.hid hcon; clear hcon
        have kk := (Keeps.refl [] wr).alloc (.cells #[.int .u8 27, .int .u8 91, .int .u8 50, .int .u8 48, .int .u8 49, .int .u8 126] 5 (6, 7))
        obtain ⟨g, hg⟩ : ∃ g, g = wr.heap.size := ⟨_, rfl⟩
        have hgz : w.heap.size ≤ g := by rw [hg]; exact hkr.size
        have hPn := hP.keeps kk (by simp)
        have hPl := hP.lt
        have hkn := hkr.trans kk
        have HG4 : Hid (g < (wr.alloc (.cells #[.int .u8 27, .int .u8 91, .int .u8 50, .int .u8 48, .int .u8 49, .int .u8 126] 5 (6, 7))).heap.size) := Lib.hid (by rw [World.size_alloc, hg]; omega)
        have Hgf : Hid (∀ j, j ∈ F → j < g) := Lib.hid (fun j hj => by rw [hg]; exact hPl j hj)
        go_upto_region 17 with fail
        rw [← hg]
        have hcon := Hcon.out
        rw [← hg] at hcon
        have Hcon := Lib.hid hcon
        clear hg kk hPl hP hcon
        generalize wr.alloc (.cells #[.int .u8 27, .int .u8 91, .int .u8 50, .int .u8 48, .int .u8 49, .int .u8 126] 5 (6, 7)) = w4 at *
        have hgw : g < w4.heap.size := by have := HG4.out; exact this
        have hS2 : P2 w b g cs (.int .i64 0) w4 := ⟨0, F, by omega, rfl, by simpa using hPn, fun j hj => ⟨HF.out j hj, fun e => by have := Hgf.out j hj; omega⟩, hkn, Hcon.out, hgw⟩
        clear hPn hkn hgw
        go_loopw [55] (fun i wz => P2 w b g cs i wz) (fun i _ => 6 - (intOf i).toNat)
        case atStart => exact hS2
        case round =>
          clear hS2
          obtain ⟨k, F', hk, rfl, hP, hF', hkz, hsz, hgz2⟩ := hrel
          have HF' := Lib.hid hF'; clear hF'
          have Hsz := Lib.hid hsz
          have k0 : (0 : Int) ≤ k := by omega
          by_cases hlt2 : k < 6
          · obtain ⟨x, hx⟩ : ∃ x, tail[k]? = some x := ⟨_, List.getElem?_eq_getElem hlt2⟩
            have hcl := src_cell hsz k (.int .u8 x.toNat) (by unfold bs; rw [List.getElem?_map, hx]; rfl)
            rw [Nat.zero_add] at hcl
            rw [if_neg (by omega : ¬ k = 6), show decide (k = 6) = false from decide_eq_false (by omega)] at hP
            have htl : (tail.take k).length = k := by rw [List.length_take]; show min k 6 = k; omega
            have hll : (cs ++ tail.take k).length = cs.length + k := by rw [List.length_append, htl]
            have htk : tail.take (k + 1) = tail.take k ++ [x] := by rw [List.take_add_one, hx]; rfl
            by_cases h5 : k = 5
            · have hkt : ((k : Int) == 5) = true := by simp [h5]
              have hal : (cs ++ tail.take k) ++ [x] = cs ++ tail := by rw [List.append_assoc, ← htk, h5]; rfl
              have hPut := PPut_end wr b F' (cs ++ tail.take k) x hP (by omega) (by rw [hal]; exact ends_all cs)
              rw [hal, hll, show cs.length + k + 1 - 6 = cs.length by omega, List.take_left] at hPut
              have HPut := Lib.hid hPut
              have Hk5 := Lib.hid h5
              clear hPut hP hal hll htl htk hx h5 hsz
              go_wp2_with (go_at_call 8; refine HPut.out.mono ?_; rintro e w3 ⟨rfl, hk3, F3, hP3, hF3⟩)
              have h5 := Hk5.out
              go_roundw
              case rel => exact P2.next (by omega) HF'.out hkz Hsz.out hgz2 hk3 hP3 hF3 (by rw [if_pos (by omega)]) (by rw [h5]; rfl)
              case measure => simp [intOf]; omega
            · have hkt : ((k : Int) == 5) = false := beq_false_of_ne (by omega)
              have hal : (cs ++ tail.take k) ++ [x] = cs ++ tail.take (k + 1) := by rw [List.append_assoc, ← htk]
              have hPut := PPut_plain wr b F' (cs ++ tail.take k) x hP (by omega) (by rw [hal]; exact ends_part H27.out (k + 1) (by omega))
              rw [hal] at hPut
              have HPut := Lib.hid hPut
              have Hk5 := Lib.hid h5
              clear hPut hP hal hll htl htk hx h5 hsz
              go_wp2_with (go_at_call 8; refine HPut.out.mono ?_; rintro e w3 ⟨rfl, hk3, F3, hP3, hF3⟩)
              have h5 := Hk5.out
              go_roundw
              case rel => exact P2.next (by omega) HF'.out hkz Hsz.out hgz2 hk3 hP3 hF3 (by rw [if_neg (by omega)]) (decide_eq_false (by omega)).symm
              case measure => simp [intOf]; omega
          · obtain rfl : k = 6 := by omega
            rw [if_pos rfl, show decide (6 = 6) = true from rfl] at hP
            rw [show ((6 : Nat) : Int) = 6 from rfl]
            have hT := PText_calls wr (UTabs_keeps HU.out hkz) (HM.out.keeps hkz) b F' cs true hP (by omega)
            rw [crB_plain cs H13.out, runes_plain cs (fun x hx => (Hasc.out x hx).1)] at hT
            have hrb := runesBytes_plain cs (fun x hx => (Hasc.out x hx).1)
            have hD := PPut_done wr b F' cs 120 hP
            have HT := Lib.hid hT
            have HD := Lib.hid hD
            have Hrb := Lib.hid hrb
            clear hT hD hrb hP hsz
            go_wp2_with (first
              | (go_at_call 8; refine HD.out.mono ?_; rintro e w3 ⟨rfl, rfl⟩)
              | (go_at_call 9; refine HT.out.mono ?_; rintro e w5 ⟨A5, c5, rfl, hrow5, hk5, _⟩; obtain ⟨_, _, he5, _, _, hs5, _⟩ := hrow5.src; cases he5; have hcv := conv_runes (P := Tryd.prog) w5 29 9 21 A5 c5 _ Tryd.underlying29 Tryd.underlying21 Tryd.underlying9 hs5; rw [Hrb.out, List.length_map] at hcv))
            go_ret
            exact ⟨by simp, hkz.trans hk5⟩
end Go.Proofs.YtomdhiphiediaaaDoor.Dec
