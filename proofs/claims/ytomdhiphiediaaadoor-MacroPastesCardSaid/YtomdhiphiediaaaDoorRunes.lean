/- ucell.Runes: the runes of bytes, in whatever memory. -/
import Derived.Test.YtomdhiphiediaaaDoorDec
import Derived.Lib.Hide
import Derived.Lib.SliceRun
namespace Go.Proofs.YtomdhiphiediaaaDoor.Dec
open Go Go.RowKit Go.Proofs.YtomdhiphiediaaaDoor.Rw

theorem elR : El Tryd.prog 29 21 (.int .i32 0) 1 4 := ⟨by kernel_rfl, by kernel_rfl, rfl, by decide⟩
theorem elB : El Tryd.prog 22 5 (.int .u8 0) 1 1 := ⟨by kernel_rfl, by kernel_rfl, rfl, by decide⟩
def runesF : Nat → List UInt8 → List Int
  | 0, _ => []
  | _ + 1, [] => []
  | n + 1, x :: l => ((dec (x :: l)).1 : Int) :: runesF n ((x :: l).drop (dec (x :: l)).2)
/-- The runes of bytes. -/
def runesOf (l : List UInt8) : List Int := runesF l.length l
theorem runesF_enough : ∀ (n m : Nat) (l : List UInt8), l.length ≤ n → l.length ≤ m → runesF n l = runesF m l
  | 0, 0, _, _, _ => rfl
  | 0, m + 1, l, h, _ => by
    obtain rfl : l = [] := List.eq_nil_of_length_eq_zero (by omega)
    rfl
  | n + 1, 0, l, _, h => by
    obtain rfl : l = [] := List.eq_nil_of_length_eq_zero (by omega)
    rfl
  | n + 1, m + 1, [], _, _ => rfl
  | n + 1, m + 1, x :: l, h1, h2 => by
    have hp := dec_pos (x :: l)
    simp only [runesF]
    simp only [List.length_cons] at h1 h2
    rw [runesF_enough n m _ (by simp only [List.length_drop, List.length_cons]; omega) (by simp only [List.length_drop, List.length_cons]; omega)]
theorem runesOf_nil : runesOf [] = [] := rfl
theorem runesOf_cons (l : List UInt8) (h : l ≠ []) : runesOf l = ((dec l).1 : Int) :: runesOf (l.drop (dec l).2) := by
  cases l with
  | nil => exact absurd rfl h
  | cons x l =>
    have hp := dec_pos (x :: l)
    unfold runesOf
    simp only [List.length_cons, runesF]
    rw [runesF_enough _ ((x :: l).drop (dec (x :: l)).2).length _ (by simp only [List.length_drop, List.length_cons]; omega) (Nat.le_refl _)]
theorem runesOf_length (l : List UInt8) : (runesOf l).length ≤ l.length := by
  have : ∀ n (l : List UInt8), (runesF n l).length ≤ n := by
    intro n
    induction n with
    | zero => intro l; simp [runesF]
    | succ n ih =>
      intro l
      cases l with
      | nil => simp [runesF]
      | cons x l => simp only [runesF, List.length_cons]; have := ih ((x :: l).drop (dec (x :: l)).2); omega
  exact this _ _
def slen : Value → Nat
  | .slice _ n _ => n
  | _ => 0
/-- A new row of numbers. -/
def MadeR (w w' : World) (e : Ending) (xs : List Int) : Prop := ∃ A c, e = .returned (.slice A xs.length c) ∧ Row w' 21 1 (.slice A xs.length c) xs.length (ns .i32 xs) ∧ Keeps [] w w' ∧ ∀ k, k ∈ fp (.slice A xs.length c) → w.heap.size ≤ k

set_option maxRecDepth 100000 in
theorem Runes_calls (w : World) (hT : UTabs w) (A : Option Addr) (c : Nat) (l : List UInt8) (hs : Src w A (bs l)) (hc : l.length ≤ c) (hm : c ≤ 9223372036854775807) (hb : l.length * 4 ≤ 140737488355328) :
    Calls Tryd.prog 30 #[.slice A l.length c] w fun e w' => MadeR w w' e (runesOf l) := by
  have HT := Lib.hid hT; clear hT
  have Hs := Lib.hid hs; clear hs
  have Hl := Lib.hid (runesOf_length l)
  have Hb := Lib.hid hb; clear hb
  have Hc := Lib.hid hc; clear hc
  go_enter Tryd.func30, Tryd.ntmps30
  go_wp2_with fail
  go_loopw [0, 3] (fun i v wr => ∃ (A' : Option Addr) (c' : Nat) (rest : List UInt8) (acc : List Int), i = .slice A' rest.length c' ∧ rest.length ≤ c' ∧ c' ≤ 9223372036854775807 ∧ Src w A' (bs rest) ∧ Keeps [] w wr ∧ Row wr 21 1 v acc.length (ns .i32 acc) ∧ (∀ k, k ∈ fp v → w.heap.size ≤ k) ∧ Hid (acc ++ runesOf rest = runesOf l) ∧ acc.length + rest.length ≤ l.length) (fun i _ _ => slen i)
  case atStart => exact ⟨A, c, l, [], rfl, Hc.out, hm, Hs.out, Keeps.refl _ _, Row.nil _ _ _ _, fun k hk => by simp [fp] at hk, rfl, by simp⟩
  case round =>
    obtain ⟨A', c', rest, acc, rfl, hc', hm', hs', hk, hrow, hfp, he, hle⟩ := hrel
    by_cases hz : rest.length = 0
    · have hr : rest = [] := List.eq_nil_of_length_eq_zero hz
      obtain ⟨A2, c2, rfl, h1, h2⟩ := hrow.slice
      have hn : ¬ ((0 : Int) < (rest.length : Int)) := by omega
      go_wp2_with fail
      go_ret
      have e1 : acc = runesOf l := by have := he.out; rw [hr, runesOf_nil, List.append_nil] at this; exact this
      subst e1
      exact ⟨_, _, rfl, hrow, hk, hfp⟩
    · have hne : rest ≠ [] := fun e => hz (by rw [e]; rfl)
      have hn : (0 : Int) < (rest.length : Int) := by omega
      have hd1 := dec_pos rest
      have hd2 := dec_le rest hne
      have hsr : Src wr A' (bs rest) := hs'.keeps hk (fun _ _ _ => by simp)
      have hTr := UTabs_keeps HT.out hk
      have hb := Hb.out
      have hsd : Src w (cutA A' c' (dec rest).2) (bs (rest.drop (dec rest).2)) := by
        have := hs'.cutA c' (dec rest).2 (by rw [bs_length]; exact hc')
        rwa [show (bs rest).drop (dec rest).2 = bs (rest.drop (dec rest).2) by simp [bs]] at this
      have hen := runesOf_cons rest hne
      generalize hD : dec rest = D at *
      obtain ⟨d1, d2⟩ := D
      simp only at hd1 hd2 hsd hen
      have Hsd := Lib.hid hsd; clear hsd
      have Hen := Lib.hid hen; clear hen
      have HD := Lib.hid hD; clear hD
      have Hsr := Lib.hid hsr; clear hsr
      have Hs' := Lib.hid hs'; clear hs'
      have Hfp := Lib.hid hfp; clear hfp
      obtain ⟨w0, rfl⟩ : ∃ w0, w0 = wr := ⟨_, rfl⟩
      clear hz
      go_wp2_with (first
        | (go_at_call 40; refine (Dec_calls w0 hTr A' c' rest hne Hsr.out).mono ?_; rintro e w1 ⟨rfl, hk1⟩; rw [HD.out]; have hrow1 := (hrow.keeps hk1 (fun _ _ => by simp)))
        | (at_builtin; refine wpList_append_row rfl _ _ 29 rfl elR _ _ _ rfl (hrow1.keeps ((Keeps.refl [] _).alloc _) (fun _ _ => by simp)) _ 1 1 [.int .i32 (d1 : Nat)] rfl rfl (Src.new _ _ _) (by intro u hu; simp at hu; subst hu; rfl) (by unfold maxLen; omega) (by omega) ?_; intro A3 c3 w3 hrow3 hk3 hf3)
        | (refine wpList_slice_l rfl _ _ 22 rfl elB A' rest.length c' d2 rfl rfl hd2 ?_))
      have hn1 : Keeps [] w w1 := hk.trans hk1
      have hn2 : Keeps [] w w3 := (hn1.alloc (.cells #[.int .i32 (d1 : Nat)] 21)).then hk3 (fun i hi => .inr (Hfp.out i hi))
      have hz1 := hk.size
      have hz2 := hk1.size
      have hfin : ∀ k, k ∈ fp (.slice A3 (acc.length + 1) c3) → w.heap.size ≤ k := fun k hk' => by
        rcases hf3 k hk' with h | h
        · exact Hfp.out k h
        · simp at h; omega
      go_roundw
      case rel =>
        refine ⟨cutA A' c' d2, c' - d2, rest.drop d2, acc ++ [(d1 : Int)], by rw [List.length_drop], by rw [List.length_drop]; omega, by omega, Hsd.out, hn2, ?_, ?_, ?_, ?_⟩
        · rw [ns_append, List.length_append]; exact hrow3
        · exact hfin
        · have h1 := he.out
          rw [Hen.out] at h1
          show (acc ++ [(d1 : Int)]) ++ runesOf (rest.drop d2) = runesOf l
          rw [← h1, List.append_assoc]
          rfl
        · rw [List.length_append, List.length_drop]; simp; omega
      case measure => simp only [slen]; omega
end Go.Proofs.YtomdhiphiediaaaDoor.Dec
