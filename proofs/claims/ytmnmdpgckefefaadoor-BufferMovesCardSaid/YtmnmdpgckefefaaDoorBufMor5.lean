/- buffer.Buffer.Apply, where the text is looked at. -/
import Derived.Test.YtmnmdpgckefefaaDoorBufMor4
import Derived.IntWalk
namespace Go.Proofs.YtmnmdpgckefefaaDoor.Buf
open Go Go.RowKit Go.Proofs.YtmnmdpgckefefaaDoor.Rw Go.Proofs.YtmnmdpgckefefaaDoor.SlR Go.Proofs.YtmnmdpgckefefaaDoor.Words Go.Proofs.YtmnmdpgckefefaaDoor.OpArg

theorem row_src {w : World} {e : TypeId} {A : Option Addr} {n c sz : Nat} {xs : List Value} (h : Row w e sz (.slice A n c) n xs) : Src w A xs := by
  obtain ⟨_, _, hv, _, _, hs, _⟩ := h.src
  cases hv; exact hs
theorem ns_take_drop (l : List Int) (f n : Nat) : ((ns .i32 l).drop f).take n = ns .i32 ((l.drop f).take n) := by simp [ns, List.map_take, List.map_drop]
theorem turned_of {w w0 w' : World} {b : Nat} {F : List Nat} {s' : BS} {code : Int} {e : Ending} (hk : Keeps [] w w0) (h : Turned w0 b F s' code e w') : Turned w b F s' code e w' := by
  obtain ⟨h1, h2, F', h3, h4⟩ := h
  exact ⟨h1, (hk.mono (fun _ h => by simp at h)).trans h2, F', fun k hk' => (h3 k hk').elim .inl (fun h => .inr (Nat.le_trans hk.size h)), h4⟩
section
variable (w : World) (b : Nat) (F : List Nat) (s : BS) (A B : Option Addr) (c d : Nat) (xs ys : List Int)
set_option maxRecDepth 100000 in
set_option maxHeartbeats 1000000 in
theorem apply_differs (h : BAt w b F s) (a : Nat) (h2 : a ≤ s.l.length) (h3 : a + xs.length ≤ s.l.length) (hA : Src w A (ns .i32 xs)) (hsame : decide ((s.l.drop a).take xs.length = xs) = false) :
    Calls Tryd.prog 24 #[.pointer (some ⟨b, 0, none⟩), .agg #[.int .i64 a, .slice A xs.length c, .slice B ys.length d]] w
      (Turned w b F s 71) := by
  have Hsame := Lib.hid hsame; clear hsame
  have hlt : decide ((a : Int) < 0) = false := by simp
  have hbw := h.lt
  have hk0 := (Keeps.refl [] w).alloc (.cells #[.int .i64 a, .slice A xs.length c, .slice B ys.length d] 24)
  have hq0 := blk_new w (.cells #[.int .i64 a, .slice A xs.length c, .slice B ys.length d] 24)
  have c0 : (w.alloc (.cells #[.int .i64 a, .slice A xs.length c, .slice B ys.length d] 24)).cell? ⟨b, 0, none⟩ = some (.bool true) := by
    obtain ⟨lv, N, fr, ub, xs', hb, _⟩ := h
    exact hk0.cell hb.six.1 (by simp)
  have h0 := h.keeps hk0 (by simp)
  have hsh : s.l.length ≤ 1024 := by obtain ⟨lv, N, fr, ub, xs', hb, _⟩ := h; exact hb.short
  have hg : decide ((s.l.length : Int) - (a : Int) < (xs.length : Int)) = false := by simp; omega
  have ha : a ≤ 1024 := by omega
  have hx : xs.length ≤ 1024 := by omega
  have hax : a + xs.length ≤ 1024 := by omega
  go_enter Tryd.func24, Tryd.ntmps24
  go_wp2_with (go_at_call 51; refine (BNone_calls _ _ true c0).mono ?_; rintro e w' ⟨rfl, rfl⟩)
  go_quiet ((go_at_call 45; exact BLen_quiet _ _ b F s h0))
  have hk1 := hk0.drewN nq
  have h4 := h0.keeps ((Keeps.refl [] _).drewN nq) (by simp)
  have hq1 := ((Keeps.refl [] _).drewN nq).blk hq0 (by simp)
  obtain ⟨q0, q1, q2, _⟩ := three hq1
  go_wp2_with fail
  generalize (w.alloc (.cells #[.int .i64 a, .slice A xs.length c, .slice B ys.length d] 24)).drewN nq = w1 at *
  clear h0 hk0 c0 hq0
  have hA1 := hA.keeps hk1 (by simp)
  have hkd := (Keeps.refl [] w1).drew
  have hT := BLen_calls w1.drew b F s (h4.keeps hkd (by simp))
  have hcl := Lib.hid (show ((s.l.drop a).take xs.length).length = xs.length by simp; omega)
  have hxm : xs.length ≤ maxLen := by unfold maxLen; omega
  have W1 : IntKind.i64.wrap ((s.l.length : Int) - (a : Int)) = (s.l.length : Int) - (a : Int) := IntWalk.i64_in _ (by omega)
  have W2 : IntKind.i64.wrap ((a : Int) + (xs.length : Int)) = (a : Int) + (xs.length : Int) := IntWalk.i64_in _ (by omega)
  have W3 : (0 : Int) ≤ (a : Int) + (xs.length : Int) := by omega
  have W4 : ((a : Int) + (xs.length : Int)).toNat = a + xs.length := by omega
  have W5 : a ≤ a + xs.length := by omega
  have W0 : (a : Int) + (xs.length : Int) ≤ (s.l.length : Int) := by omega
  go_region_held3 (fun w' => w'.cell? ⟨w.heap.size, 0, none⟩ = some (.int .i64 a) ∧ w'.cell? ⟨w.heap.size, 1, none⟩ = some (.slice A xs.length c)) (first | exact ⟨q0, q1⟩ | exact ⟨hkT.cell q0 (by simp), hkT.cell q1 (by simp)⟩ | exact ⟨hkU.cell q0 (by simp), hkU.cell q1 (by simp)⟩ | exact ⟨hkV.cell q0 (by simp), hkV.cell q1 (by simp)⟩) (first
    | (go_at_call 57
       refine (Equal_calls wU _ A _ xs.length _ c ((s.l.drop a).take xs.length) xs (by rw [← ns_take_drop]; exact ((row_src hrT).cut tc a (by rw [ns_length]; exact htc)).take xs.length) (hA1.keeps hkU (by simp)) hcl.out rfl hxm hxm).mono ?_
       rintro e wV ⟨rfl, hkV0⟩
       rw [Hsame.out]
       have hkV := hkU.trans hkV0)
    | (go_at_call 15
       refine (BText_calls wT b F s (h4.keeps hkT (by simp))).mono ?_
       rintro e wU ⟨T, tc, rfl, hrT, hkU0, hfT⟩
       have hkU := hkT.trans hkU0
       obtain ⟨_, _, hvT, htc, htm⟩ := hrT.slice
       cases hvT
       have htc2 : a + xs.length ≤ tc := Nat.le_trans h3 htc
       have W7 : (a : Int) + (xs.length : Int) ≤ (tc : Int) := Int.le_trans W0 (Int.ofNat_le.2 htc)
       have W6 : (if tc = a then T else Option.map (fun x => Addr.add x a) T) = cutA T tc a := rfl)
    | (go_at_call 45
       refine hT.mono ?_
       rintro e wT ⟨rfl, hkT0⟩
       have hkT := hkd.trans hkT0))
  go_wp2
  go_ret
  exact Turned.same h (hk1.trans hkV)
set_option maxRecDepth 100000 in
set_option maxHeartbeats 1000000 in
theorem apply_same (h : BAt w b F s) (a : Nat) (h2 : a ≤ s.l.length) (h3 : a + xs.length ≤ s.l.length) (hA : Src w A (ns .i32 xs)) (hB : Src w B (ns .i32 ys)) (hyl : ys.length ≤ 70368744177664) (hBF : ∀ x, B = some x → 0 < (ns .i32 ys).length → x.block ∉ F) (hsame : decide ((s.l.drop a).take xs.length = xs) = true) :
    Calls Tryd.prog 24 #[.pointer (some ⟨b, 0, none⟩), .agg #[.int .i64 a, .slice A xs.length c, .slice B ys.length d]] w
      (Turned w b F (s.after a ((a : Int) + (xs.length : Int)) ys) (s.err a ((a : Int) + (xs.length : Int)) ys.length)) := by
  have Hsame := Lib.hid hsame; clear hsame
  have hlt : decide ((a : Int) < 0) = false := by simp
  have hbw := h.lt
  have hk0 := (Keeps.refl [] w).alloc (.cells #[.int .i64 a, .slice A xs.length c, .slice B ys.length d] 24)
  have hq0 := blk_new w (.cells #[.int .i64 a, .slice A xs.length c, .slice B ys.length d] 24)
  have c0 : (w.alloc (.cells #[.int .i64 a, .slice A xs.length c, .slice B ys.length d] 24)).cell? ⟨b, 0, none⟩ = some (.bool true) := by
    obtain ⟨lv, N, fr, ub, xs', hb, _⟩ := h
    exact hk0.cell hb.six.1 (by simp)
  have h0 := h.keeps hk0 (by simp)
  have hsh : s.l.length ≤ 1024 := by obtain ⟨lv, N, fr, ub, xs', hb, _⟩ := h; exact hb.short
  have hg : decide ((s.l.length : Int) - (a : Int) < (xs.length : Int)) = false := by simp; omega
  have ha : a ≤ 1024 := by omega
  have hx : xs.length ≤ 1024 := by omega
  have hax : a + xs.length ≤ 1024 := by omega
  go_enter Tryd.func24, Tryd.ntmps24
  go_wp2_with (go_at_call 51; refine (BNone_calls _ _ true c0).mono ?_; rintro e w' ⟨rfl, rfl⟩)
  go_quiet ((go_at_call 45; exact BLen_quiet _ _ b F s h0))
  have hk1 := hk0.drewN nq
  have h4 := h0.keeps ((Keeps.refl [] _).drewN nq) (by simp)
  have hq1 := ((Keeps.refl [] _).drewN nq).blk hq0 (by simp)
  obtain ⟨q0, q1, q2, _⟩ := three hq1
  go_wp2_with fail
  generalize (w.alloc (.cells #[.int .i64 a, .slice A xs.length c, .slice B ys.length d] 24)).drewN nq = w1 at *
  clear h0 hk0 c0 hq0
  have hA1 := hA.keeps hk1 (by simp)
  have hB1 := hB.keeps hk1 (by simp)
  have hkd := (Keeps.refl [] w1).drew
  have hT := BLen_calls w1.drew b F s (h4.keeps hkd (by simp))
  have hcl := Lib.hid (show ((s.l.drop a).take xs.length).length = xs.length by simp; omega)
  have hxm : xs.length ≤ maxLen := by unfold maxLen; omega
  have W1 : IntKind.i64.wrap ((s.l.length : Int) - (a : Int)) = (s.l.length : Int) - (a : Int) := IntWalk.i64_in _ (by omega)
  have W2 : IntKind.i64.wrap ((a : Int) + (xs.length : Int)) = (a : Int) + (xs.length : Int) := IntWalk.i64_in _ (by omega)
  have W3 : (0 : Int) ≤ (a : Int) + (xs.length : Int) := by omega
  have W4 : ((a : Int) + (xs.length : Int)).toNat = a + xs.length := by omega
  have W5 : a ≤ a + xs.length := by omega
  have W0 : (a : Int) + (xs.length : Int) ≤ (s.l.length : Int) := by omega
  go_region_held3 (fun w' => w'.cell? ⟨w.heap.size, 0, none⟩ = some (.int .i64 a) ∧ w'.cell? ⟨w.heap.size, 1, none⟩ = some (.slice A xs.length c)) (first | exact ⟨q0, q1⟩ | exact ⟨hkT.cell q0 (by simp), hkT.cell q1 (by simp)⟩ | exact ⟨hkU.cell q0 (by simp), hkU.cell q1 (by simp)⟩ | exact ⟨hkV.cell q0 (by simp), hkV.cell q1 (by simp)⟩) (first
    | (go_at_call 57
       refine (Equal_calls wU _ A _ xs.length _ c ((s.l.drop a).take xs.length) xs (by rw [← ns_take_drop]; exact ((row_src hrT).cut tc a (by rw [ns_length]; exact htc)).take xs.length) (hA1.keeps hkU (by simp)) hcl.out rfl hxm hxm).mono ?_
       rintro e wV ⟨rfl, hkV0⟩
       rw [Hsame.out]
       have hkV := hkU.trans hkV0)
    | (go_at_call 15
       refine (BText_calls wT b F s (h4.keeps hkT (by simp))).mono ?_
       rintro e wU ⟨T, tc, rfl, hrT, hkU0, hfT⟩
       have hkU := hkT.trans hkU0
       obtain ⟨_, _, hvT, htc, htm⟩ := hrT.slice
       cases hvT
       have htc2 : a + xs.length ≤ tc := Nat.le_trans h3 htc
       have W7 : (a : Int) + (xs.length : Int) ≤ (tc : Int) := Int.le_trans W0 (Int.ofNat_le.2 htc)
       have W6 : (if tc = a then T else Option.map (fun x => Addr.add x a) T) = cutA T tc a := rfl)
    | (go_at_call 45
       refine hT.mono ?_
       rintro e wT ⟨rfl, hkT0⟩
       have hkT := hkd.trans hkT0))
  obtain ⟨v0, v1, v2, _⟩ := three (hkV.blk hq1 (by simp))
  clear W0 W1 W2 W3 W4 W5 W6 W7 hcl hxm hT hA1
  have hk1V := hk1.trans hkV
  have h5 := h4.keeps hkV (by simp)
  have hBV := hB1.keeps hkV (by simp)
  go_wp2_with fail
  refine (BReplace_calls _ b F s a ((a : Int) + (xs.length : Int)) B d ys h5 ⟨by omega, by omega⟩ ⟨by omega, by omega⟩ hyl hBV hBF).mono ?_
  rintro e wX ⟨Ad, cd, Ai, ci, rfl, hd, hi, hk, F', hF', hb', hfd, hfi⟩
  have hkk := (hk1V.mono (fun _ h => by simp at h)).trans hk
  go_wp2
  go_ret
  exact ⟨rfl, hkk.alloc _, F', fun k hk' => (hF' k hk').elim .inl (fun h => .inr (Nat.le_trans hk1V.size h)), hb'.keeps ((Keeps.refl [] wX).alloc _) (by simp)⟩
end
theorem BApply_calls (w : World) (b : Nat) (F : List Nat) (s : BS) (A B : Option Addr) (c e : Nat) (d : ED) (h : BAt w b F s) (ha : In64 d.at_) (hA : Src w A (ns .i32 d.del)) (hB : Src w B (ns .i32 d.ins)) (hyl : d.ins.length ≤ 70368744177664) (hdl : d.del.length ≤ maxLen) (hBF : ∀ x, B = some x → 0 < (ns .i32 d.ins).length → x.block ∉ F) :
    Calls Tryd.prog 24 #[.pointer (some ⟨b, 0, none⟩), .agg #[.int .i64 d.at_, .slice A d.del.length c, .slice B d.ins.length e]] w (Turned w b F (s.apply d) (s.applyErr d)) := by
  obtain ⟨a, xs, ys⟩ := d
  simp only at *
  by_cases h1 : a < 0
  · simp only [BS.apply, BS.applyErr, if_pos h1]
    exact apply_below w b F s a A B c e xs ys h h1 ha
  · by_cases h2 : (s.l.length : Int) < a
    · simp only [BS.apply, BS.applyErr, if_neg h1, if_pos h2]
      exact apply_above w b F s a A B c e xs ys h h1 h2 ha
    · by_cases h3 : (s.l.length : Int) - a < xs.length
      · simp only [BS.apply, BS.applyErr, if_neg h1, if_neg h2, if_pos h3]
        exact apply_long w b F s a A B c e xs ys h h1 h2 h3 ha hdl
      · obtain ⟨a, rfl⟩ : ∃ n : Nat, a = n := ⟨a.toNat, by omega⟩
        simp only [BS.apply, BS.applyErr, if_neg h1, if_neg h2, if_neg h3, Int.toNat_natCast]
        by_cases h4 : (s.l.drop a).take xs.length = xs
        · rw [if_neg (by simpa using h4), if_neg (by simpa using h4)]
          exact apply_same w b F s A B c e xs ys h a (by omega) (by omega) hA hB hyl hBF (by simpa using h4)
        · rw [if_pos h4, if_pos h4]
          exact apply_differs w b F s A B c e xs ys h a (by omega) (by omega) hA (by simpa using h4)
end Go.Proofs.YtmnmdpgckefefaaDoor.Buf
