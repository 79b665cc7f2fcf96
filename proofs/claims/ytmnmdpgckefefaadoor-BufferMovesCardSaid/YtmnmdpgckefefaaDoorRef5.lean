/- lanyardref07.Buffer.Apply, where it is done; lanyardlaw07.is. -/
import Derived.Test.YtmnmdpgckefefaaDoorRef4
namespace Go.Proofs.YtmnmdpgckefefaaDoor.Buf
open Go Go.RowKit Go.Proofs.YtmnmdpgckefefaaDoor.Rw Go.Proofs.YtmnmdpgckefefaaDoor.SlR Go.Proofs.YtmnmdpgckefefaaDoor.Words Go.Proofs.YtmnmdpgckefefaaDoor.OpArg
section
variable (w : World) (r : Nat) (F : List Nat) (s : BS) (A B : Option Addr) (c d : Nat) (xs ys : List Int)
set_option maxRecDepth 100000 in
set_option maxHeartbeats 1000000 in
theorem applyR_same (h : RAt w r F s) (a : Nat) (h2 : a ≤ s.l.length) (h3 : a + xs.length ≤ s.l.length) (hA : Src w A (ns .i32 xs)) (hB : Src w B (ns .i32 ys)) (hyl : ys.length ≤ 70368744177664) (hBF : ∀ x, B = some x → 0 < (ns .i32 ys).length → x.block ∉ F) (hsame : decide ((s.l.drop a).take xs.length = xs) = true) :
    Calls Tryd.prog 69 #[.pointer (some ⟨r, 0, none⟩), .agg #[.int .i64 a, .slice A xs.length c, .slice B ys.length d]] w (TurnedR w r F (s.after a ((a : Int) + (xs.length : Int)) ys) (s.err a ((a : Int) + (xs.length : Int)) ys.length)) := by
  have Hsame := Lib.hid hsame; clear hsame
  have hk0 := (Keeps.refl [] w).alloc (.cells #[.int .i64 a, .slice A xs.length c, .slice B ys.length d] 24)
  have hq0 := blk_new w (.cells #[.int .i64 a, .slice A xs.length c, .slice B ys.length d] 24)
  have h0 := h.keeps hk0 (by simp)
  have hsh := h.bounds.1
  have hg : decide ((s.l.length : Int) - (a : Int) < (xs.length : Int)) = false := by simp; omega
  go_enter Tryd.func69, Tryd.ntmps69
  go_wp2_with (go_at_call 54; refine (Place_yes _ r F s a h0 (by omega) (by omega)).mono ?_; rintro e w' ⟨rfl, rfl⟩)
  obtain ⟨L, lc, c0, _, _, hLc, hLm, hsL⟩ := h0.cell0
  obtain ⟨q0, q1, q2, _⟩ := three hq0
  have hA1 := hA.keeps hk0 (by simp)
  generalize (w.alloc (.cells #[.int .i64 a, .slice A xs.length c, .slice B ys.length d] 24)) = w1 at *
  have ha : a ≤ 1024 := by omega
  have hx : xs.length ≤ 1024 := by omega
  have hax : a + xs.length ≤ 1024 := by omega
  have hcl := Lib.hid (show ((s.l.drop a).take xs.length).length = xs.length by simp; omega)
  have hxm : xs.length ≤ maxLen := by unfold maxLen; omega
  have hcut := Lib.hid (show Src w1.drew (if lc = a then L else Option.map (fun x => Addr.add x a) L) (ns .i32 ((s.l.drop a).take xs.length)) by rw [← ns_take_drop]; exact ((hsL.cut lc a (by rw [ns_length]; exact hLc)).take xs.length).drew)
  have hA2 := hA1.drew
  have W1 : IntKind.i64.wrap ((s.l.length : Int) - (a : Int)) = (s.l.length : Int) - (a : Int) := IntWalk.i64_in _ (by omega)
  have W2 : IntKind.i64.wrap ((a : Int) + (xs.length : Int)) = (a : Int) + (xs.length : Int) := IntWalk.i64_in _ (by omega)
  have W3 : (0 : Int) ≤ (a : Int) + (xs.length : Int) := by omega
  have W4 : ((a : Int) + (xs.length : Int)).toNat = a + xs.length := by omega
  have W5 : a ≤ a + xs.length := by omega
  have W7 : (a : Int) + (xs.length : Int) ≤ (lc : Int) := by omega
  have W6 : (if lc = a then L else Option.map (fun x => Addr.add x a) L) = cutA L lc a := rfl
  have hkd := (Keeps.refl [] w1).drew
  have halc : a ≤ lc := by omega
  unfold maxLen at hLm
  go_region_held3 (fun w' => w'.cell? ⟨w.heap.size, 0, none⟩ = some (.int .i64 a) ∧ w'.cell? ⟨w.heap.size, 1, none⟩ = some (.slice A xs.length c) ∧ w'.cell? ⟨r, 0, none⟩ = some (.slice L s.l.length lc)) (first | exact ⟨q0, q1, c0⟩ | exact ⟨hkV.cell q0 (by simp), hkV.cell q1 (by simp), hkV.cell c0 (by simp)⟩) (first
    | (go_at_call 14
       refine (Same_calls w1.drew _ A _ xs.length _ c ((s.l.drop a).take xs.length) xs hcut.out hA2 hcl.out rfl hxm hxm).mono ?_
       rintro e wV ⟨rfl, hkV0⟩
       rw [Hsame.out]
       have hkV := hkd.trans hkV0))
  obtain ⟨v0, v1, v2, _⟩ := three (hkV.blk hq0 (by simp))
  have h5 := h0.keeps hkV (by simp)
  have hBV := (hB.keeps hk0 (by simp)).keeps hkV (by simp)
  have hk0V := hk0.trans hkV
  clear W1 W2 W3 W4 W5 W6 W7 hcl hxm hcut hA2 hA1
  go_wp2_with fail
  refine (RfReplace_calls _ r F s B d a ((a : Int) + (xs.length : Int)) ys h5 hyl hBV hBF).mono ?_
  rintro e wX ⟨Ad, cd, Ai, ci, rfl, hd, hi, hk, F', hF', hb', hfd, hfi⟩
  have hkk := (hk0V.mono (fun _ h => by simp at h)).trans hk
  go_wp2
  go_ret
  exact ⟨rfl, hkk.alloc _, F', fun k hk' => (hF' k hk').elim .inl (fun h => .inr (Nat.le_trans hk0V.size h)), hb'.keeps ((Keeps.refl [] wX).alloc _) (by simp)⟩
end
theorem RfApply_calls (w : World) (r : Nat) (F : List Nat) (s : BS) (A B : Option Addr) (c e : Nat) (d : ED) (h : RAt w r F s) (hA : Src w A (ns .i32 d.del)) (hB : Src w B (ns .i32 d.ins)) (hyl : d.ins.length ≤ 70368744177664) (hdl : d.del.length ≤ maxLen) (hBF : ∀ x, B = some x → 0 < (ns .i32 d.ins).length → x.block ∉ F) :
    Calls Tryd.prog 69 #[.pointer (some ⟨r, 0, none⟩), .agg #[.int .i64 d.at_, .slice A d.del.length c, .slice B d.ins.length e]] w (TurnedR w r F (s.apply d) (s.applyErr d)) := by
  obtain ⟨a, xs, ys⟩ := d
  simp only at *
  by_cases h1 : a < 0
  · simp only [BS.apply, BS.applyErr, if_pos h1]
    exact applyR_place w r F s A B c e xs ys h a (.inl h1)
  · by_cases h2 : (s.l.length : Int) < a
    · simp only [BS.apply, BS.applyErr, if_neg h1, if_pos h2]
      exact applyR_place w r F s A B c e xs ys h a (.inr h2)
    · obtain ⟨a, rfl⟩ : ∃ n : Nat, a = n := ⟨a.toNat, by omega⟩
      by_cases h3 : (s.l.length : Int) - a < xs.length
      · simp only [BS.apply, BS.applyErr, if_neg h1, if_neg h2, if_pos h3]
        exact applyR_long w r F s A B c e xs ys h a (by omega) h3 hdl
      · simp only [BS.apply, BS.applyErr, if_neg h1, if_neg h2, if_neg h3, Int.toNat_natCast]
        by_cases h4 : (s.l.drop a).take xs.length = xs
        · rw [if_neg (by simpa using h4), if_neg (by simpa using h4)]
          exact applyR_same w r F s A B c e xs ys h a (by omega) (by omega) hA hB hyl hBF (by simpa using h4)
        · rw [if_pos h4, if_pos h4]
          exact applyR_differs w r F s A B c e xs ys h a (by omega) (by omega) hA (by simpa using h4)

set_option maxRecDepth 100000 in
set_option maxHeartbeats 1000000 in
theorem is_calls (w : World) (b r : Nat) (F G : List Nat) (s : BS) (hb : BAt w b F s) (hr : RAt w r G s) :
    Calls Tryd.prog 22 #[.pointer (some ⟨b, 0, none⟩), .pointer (some ⟨r, 0, none⟩)] w fun e w' => e = .returned (.bool true) ∧ Keeps [] w w' := by
  obtain ⟨L, lc, c0, c1, c2, hLc, hLm, hsL⟩ := hr.cell0
  have hsh := hb.bounds.1
  have hkd := (Keeps.refl [] w).drew
  have hHm : s.l.length ≤ maxLen := by unfold maxLen; omega
  have hBk : ∀ W, Keeps [] w W → BAt W b F s := fun W k => hb.keeps k (by simp)
  have hRk : ∀ W, Keeps [] w W → RAt W r G s := fun W k => hr.keeps k (by simp)
  have hSk : ∀ W, Keeps [] w W → Src W L (ns .i32 s.l) := fun W k => hsL.keeps k (by simp)
  have HB := Lib.hid hBk
  have HR := Lib.hid hRk
  have HS := Lib.hid hSk
  clear hBk hRk hSk
  go_enter Tryd.func22, Tryd.ntmps22
  go_wp2_with fail
  go_region_held3 (fun w' => w'.cell? ⟨r, 0, none⟩ = some (.slice L s.l.length lc) ∧ w'.cell? ⟨r, 1, none⟩ = some (.int .i64 s.point) ∧ w'.cell? ⟨r, 2, none⟩ = some (.int .i64 s.mark)) (first | exact ⟨c0, c1, c2⟩ | assumption | exact ⟨hk1.cell c0 (by simp), hk1.cell c1 (by simp), hk1.cell c2 (by simp)⟩ | exact ⟨hk2.cell c0 (by simp), hk2.cell c1 (by simp), hk2.cell c2 (by simp)⟩ | exact ⟨hk3.cell c0 (by simp), hk3.cell c1 (by simp), hk3.cell c2 (by simp)⟩ | exact ⟨hk4.cell c0 (by simp), hk4.cell c1 (by simp), hk4.cell c2 (by simp)⟩ | exact ⟨hk5.cell c0 (by simp), hk5.cell c1 (by simp), hk5.cell c2 (by simp)⟩ | exact ⟨hk6.cell c0 (by simp), hk6.cell c1 (by simp), hk6.cell c2 (by simp)⟩) (first
    | (go_at_call 21
       refine (BLine_calls _ b F s (HB.out _ hkd)).mono ?_
       rintro e w1 ⟨A1, a1, rfl, hrow1, hk1', _⟩
       have hk1 := hkd.trans hk1')
    | (go_at_call 56
       refine (RfLine_calls _ r G s (HR.out _ hk1)).mono ?_
       rintro e w2 ⟨A2, a2, rfl, hrow2, hk2', _⟩
       have hk2 := hk1.trans hk2')
    | (go_at_call 44
       refine (SameLine_true w2 A1 A2 a1 a2 s.l s.point s.mark (row_src (hrow1.keeps hk2' (by simp))) (row_src hrow2) hsh).mono ?_
       rintro e w3 ⟨rfl, hk3'⟩
       have hk3 := hk2.trans hk3')
    | (go_at_call 15
       refine (BText_calls w3 b F s (HB.out _ hk3)).mono ?_
       rintro e w4 ⟨A4, a4, rfl, hrow4, hk4', _⟩
       have hk4 := hk3.trans hk4')
    | (go_at_call 14
       refine (Same_calls w4 A4 L s.l.length s.l.length a4 lc s.l s.l (row_src hrow4) (HS.out _ hk4) rfl rfl hHm hHm).mono ?_
       rintro e w5 ⟨rfl, hk5'⟩
       simp only [decide_true]
       have hk5 := hk4.trans hk5')
    | (go_at_call 45
       refine (BLen_calls w5 b F s (HB.out _ hk5)).mono ?_
       rintro e w6 ⟨rfl, hk6'⟩
       have hk6 := hk5.trans hk6')
    | (go_at_call 23
       refine (BPoint_calls _ b F s (HB.out _ hk6)).mono ?_
       rintro e w' ⟨rfl, rfl⟩)
    | (go_at_call 46
       refine (BMark_calls _ b F s (HB.out _ hk6)).mono ?_
       rintro e w' ⟨rfl, rfl⟩))
  go_wp2
  go_ret
  exact ⟨by simp, hk6⟩
end Go.Proofs.YtmnmdpgckefefaaDoor.Buf
