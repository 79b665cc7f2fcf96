/- lanyardref01.Runes: the runes of bytes, by the document's definition: the same as by utf8's. -/
import Derived.Test.YtomdhiphiediaaaDoorRefValM
namespace Go.Proofs.YtomdhiphiediaaaDoor.Dec
open Go Go.RowKit Go.Proofs.YtomdhiphiediaaaDoor.Rw

set_option maxRecDepth 100000 in
set_option maxHeartbeats 2000000 in
theorem RfRunes_calls (w : World) (A : Option Addr) (c : Nat) (l : List UInt8) (hs : Src w A (bs l)) (hc : l.length ≤ c) (hm : c ≤ 9223372036854775807) (hb : l.length * 4 ≤ 140737488355328) :
    Calls Tryd.prog 37 #[.slice A l.length c] w fun e w' => MadeR w w' e (runesOf l) := by
  have Hs := Lib.hid hs; clear hs
  have Hl := Lib.hid (runesOf_length l)
  have Hb := Lib.hid hb; clear hb
  have Hc := Lib.hid hc; clear hc
  go_enter Tryd.func37, Tryd.ntmps37
  go_wp2_with fail
  go_loopw [0, 3] (fun i v wr => ∃ (A' : Option Addr) (c' : Nat) (rest : List UInt8) (acc : List Int), i = .slice A' rest.length c' ∧ rest.length ≤ c' ∧ c' ≤ 9223372036854775807 ∧ Src w A' (bs rest) ∧ Keeps [] w wr ∧ Row wr 21 1 v acc.length (ns .i32 acc) ∧ (∀ k, k ∈ fp v → w.heap.size ≤ k) ∧ Hid (acc ++ runesOf rest = runesOf l) ∧ acc.length + rest.length ≤ l.length) (fun i _ _ => slen i)
  case atStart => exact ⟨A, c, l, [], rfl, Hc.out, hm, Hs.out, Keeps.refl _ _, Row.nil _ _ _ _, fun k hk => by simp [fp] at hk, rfl, by simp⟩
  case round =>
    obtain ⟨A', c', rest, acc, rfl, hc', hm', hs', hk, hrow, hfp, he, hle⟩ := hrel
    by_cases hz : rest.length = 0
    · have hr : rest = [] := List.eq_nil_of_length_eq_zero hz
      obtain ⟨A2, c2, rfl, h1, h2⟩ := hrow.slice
      have hn : ¬ ((0 : Int) < (rest.length : Int)) := by omega
      go_wp2_with fail
      go_ret
      have e1 : acc = runesOf l := by have := he.out; rw [hr, runesOf_nil, List.append_nil] at this; exact this
      subst e1
      exact ⟨_, _, rfl, hrow, hk, hfp⟩
    · have hne : rest ≠ [] := fun e => hz (by rw [e]; rfl)
      have hn : (0 : Int) < (rest.length : Int) := by omega
      have hsr : Src wr A' (bs rest) := hs'.keeps hk (fun _ _ _ => by simp)
      have hb := Hb.out
      have hen := runesOf_cons rest hne
      have hHL := head_law rest hne
      have hH := Head_calls wr A' c' rest hsr hc' hm'
      have hsd : ∀ d2, Src w (cutA A' c' d2) (bs (rest.drop d2)) := fun d2 => by
        have := hs'.cutA c' d2 (by rw [bs_length]; exact hc')
        rwa [show (bs rest).drop d2 = bs (rest.drop d2) by simp [bs]] at this
      generalize headN rest = H at *
      obtain ⟨have_, n⟩ := H
      obtain ⟨l1, l2, l3⟩ := hHL
      simp only at l1 l2 l3 hH
      have Hsd := Lib.hid hsd; clear hsd
      have Hen := Lib.hid hen; clear hen
      have Hsr := Lib.hid hsr; clear hsr
      have Hs' := Lib.hid hs'; clear hs'
      have Hfp := Lib.hid hfp; clear hfp
      have HH := Lib.hid hH; clear hH
      clear l3 hz
      have hz1 := hk.size
      obtain ⟨w0, rfl⟩ : ∃ w0, w0 = wr := ⟨_, rfl⟩
      by_cases hw : 0 < n ∧ have_ = n
      · obtain ⟨hn0, rfl⟩ := hw
        obtain ⟨hd, hnl, hn4⟩ := l1 hn0 rfl
        clear l1 l2
        have Hd := Lib.hid hd; clear hd
        have hV := fun w1 (k : Keeps [] w0 w1) => Value_calls w1 A' have_ c' rest (Hsr.out.keeps k (fun _ _ _ => by simp)) hn0 hn4 hnl
        generalize hvv : valueN have_ (byteN rest 0) (byteN rest 1) (byteN rest 2) (byteN rest 3) = vv at *
        clear hvv
        have HV := Lib.hid hV; clear hV
        have hn0' : (0 : Int) < (have_ : Int) := by omega
        have hrr : ((have_ : Int) == have_) = true := by simp
        go_wp2_with (first
          | (go_at_call 42; refine HH.out.mono ?_; rintro e w1 ⟨rfl, hk1⟩; have hrow1 := (hrow.keeps hk1 (fun _ _ => by simp)))
          | (go_at_call 43; refine (HV.out _ hk1).mono ?_; rintro e w2 ⟨rfl, hk2⟩; have hrow2 := (hrow1.keeps hk2 (fun _ _ => by simp)))
          | (at_builtin; refine wpList_append_row rfl _ _ 29 rfl elR _ _ _ rfl (hrow2.keeps ((Keeps.refl [] _).alloc _) (fun _ _ => by simp)) _ 1 1 [.int .i32 (vv : Nat)] rfl rfl (Src.new _ _ _) (by intro u hu; simp at hu; subst hu; rfl) (by unfold maxLen; omega) (by omega) ?_; intro A3 c3 w3 hrow3 hk3 hf3)
          | (refine wpList_slice_l rfl _ _ 22 rfl elB A' rest.length c' have_ rfl rfl hnl ?_))
        have hn2 : Keeps [] w w3 := (((hk.trans hk1).trans hk2).alloc (.cells #[.int .i32 (vv : Nat)] 21)).then hk3 (fun i hi => .inr (Hfp.out i hi))
        have hz4 := ((hk.trans hk1).trans hk2).size
        have hfin : ∀ k, k ∈ fp (.slice A3 (acc.length + 1) c3) → w.heap.size ≤ k := fun k hk' => by
          rcases hf3 k hk' with h | h
          · exact Hfp.out k h
          · simp at h; omega
        go_roundw
        case rel =>
          refine ⟨cutA A' c' have_, c' - have_, rest.drop have_, acc ++ [((vv : Nat) : Int)], by rw [List.length_drop], by rw [List.length_drop]; omega, by omega, Hsd.out have_, hn2, ?_, ?_, ?_, ?_⟩
          · rw [ns_append, List.length_append]; exact hrow3
          · exact hfin
          · have h1 := he.out
            rw [Hen.out, Hd.out] at h1
            show (acc ++ [((vv : Nat) : Int)]) ++ runesOf (rest.drop have_) = runesOf l
            rw [← h1, List.append_assoc]
            rfl
          · rw [List.length_append, List.length_drop]; simp; omega
        case measure => simp only [slen]; omega
      · have hd := l2 hw
        clear l1 l2
        have Hd := Lib.hid hd; clear hd
        have h1l : 1 ≤ rest.length := by omega
        by_cases hq : have_ = n
        · have hrr : ((have_ : Int) == n) = true := by simp [hq]
          have hn0' : ¬ (0 : Int) < (n : Int) := by omega
          clear hw hq
          go_wp2_with (first
            | (go_at_call 42; refine HH.out.mono ?_; rintro e w1 ⟨rfl, hk1⟩; have hrow1 := (hrow.keeps hk1 (fun _ _ => by simp)))
            | (at_builtin; refine wpList_append_row rfl _ _ 29 rfl elR _ _ _ rfl (hrow1.keeps ((Keeps.refl [] _).alloc _) (fun _ _ => by simp)) _ 1 1 [.int .i32 65533] rfl rfl (Src.new _ _ _) (by intro u hu; simp at hu; subst hu; rfl) (by unfold maxLen; omega) (by omega) ?_; intro A3 c3 w3 hrow3 hk3 hf3)
            | (refine wpList_slice_l rfl _ _ 22 rfl elB A' rest.length c' 1 rfl rfl h1l ?_))
          have hn2 : Keeps [] w w3 := ((hk.trans hk1).alloc (.cells #[.int .i32 65533] 21)).then hk3 (fun i hi => .inr (Hfp.out i hi))
          have hz4 := (hk.trans hk1).size
          have hfin : ∀ k, k ∈ fp (.slice A3 (acc.length + 1) c3) → w.heap.size ≤ k := fun k hk' => by
            rcases hf3 k hk' with h | h
            · exact Hfp.out k h
            · simp at h; omega
          go_roundw
          case rel =>
            refine ⟨cutA A' c' 1, c' - 1, rest.drop 1, acc ++ [(65533 : Int)], by rw [List.length_drop], by rw [List.length_drop]; omega, by omega, Hsd.out 1, hn2, ?_, ?_, ?_, ?_⟩
            · rw [ns_append, List.length_append]; exact hrow3
            · exact hfin
            · have h1 := he.out
              rw [Hen.out, Hd.out] at h1
              show (acc ++ [(65533 : Int)]) ++ runesOf (rest.drop 1) = runesOf l
              rw [← h1, List.append_assoc]
              rfl
            · rw [List.length_append, List.length_drop]; simp; omega
          case measure => simp only [slen]; omega
        · have hrr : ((have_ : Int) == n) = false := beq_false_of_ne (by omega)
          clear hw hq
          go_wp2_with (first
            | (go_at_call 42; refine HH.out.mono ?_; rintro e w1 ⟨rfl, hk1⟩; have hrow1 := (hrow.keeps hk1 (fun _ _ => by simp)))
            | (at_builtin; refine wpList_append_row rfl _ _ 29 rfl elR _ _ _ rfl (hrow1.keeps ((Keeps.refl [] _).alloc _) (fun _ _ => by simp)) _ 1 1 [.int .i32 65533] rfl rfl (Src.new _ _ _) (by intro u hu; simp at hu; subst hu; rfl) (by unfold maxLen; omega) (by omega) ?_; intro A3 c3 w3 hrow3 hk3 hf3)
            | (refine wpList_slice_l rfl _ _ 22 rfl elB A' rest.length c' 1 rfl rfl h1l ?_))
          have hn2 : Keeps [] w w3 := ((hk.trans hk1).alloc (.cells #[.int .i32 65533] 21)).then hk3 (fun i hi => .inr (Hfp.out i hi))
          have hz4 := (hk.trans hk1).size
          have hfin : ∀ k, k ∈ fp (.slice A3 (acc.length + 1) c3) → w.heap.size ≤ k := fun k hk' => by
            rcases hf3 k hk' with h | h
            · exact Hfp.out k h
            · simp at h; omega
          go_roundw
          case rel =>
            refine ⟨cutA A' c' 1, c' - 1, rest.drop 1, acc ++ [(65533 : Int)], by rw [List.length_drop], by rw [List.length_drop]; omega, by omega, Hsd.out 1, hn2, ?_, ?_, ?_, ?_⟩
            · rw [ns_append, List.length_append]; exact hrow3
            · exact hfin
            · have h1 := he.out
              rw [Hen.out, Hd.out] at h1
              show (acc ++ [(65533 : Int)]) ++ runesOf (rest.drop 1) = runesOf l
              rw [← h1, List.append_assoc]
              rfl
            · rw [List.length_append, List.length_drop]; simp; omega
          case measure => simp only [slen]; omega
end Go.Proofs.YtomdhiphiediaaaDoor.Dec
