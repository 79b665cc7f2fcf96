/- lanyardlaw07.BufferStays: what it comes to. -/
import Derived.Test.YtmnmdpgckefefaaDoorDoesLaw
namespace Go.Proofs.YtmnmdpgckefefaaDoor.Buf
open Go Go.RowKit Go.Proofs.YtmnmdpgckefefaaDoor.Rw Go.Proofs.YtmnmdpgckefefaaDoor.SlR Go.Proofs.YtmnmdpgckefefaaDoor.Words Go.Proofs.YtmnmdpgckefefaaDoor.OpArg

theorem after_err (s : BS) (f t : Int) (l : List Int) (h : s.err f t l.length ≠ 0) : s.after f t l = s := by unfold BS.after; rw [if_neg h]
theorem apply_err (s : BS) (d : ED) (h : s.applyErr d ≠ 0) : s.apply d = s := by
  unfold BS.applyErr at h
  unfold BS.apply
  split
  · rfl
  · split
    · rfl
    · split
      · rfl
      · split
        · rfl
        · rename_i h1 h2 h3 h4
          rw [if_neg h1, if_neg h2, if_neg h3, if_neg h4] at h
          exact after_err s _ _ _ h
theorem move_err (s : BS) (a : Int) (h : s.moveErr a ≠ 0) : s.move a = s := by
  unfold BS.moveErr at h
  unfold BS.move
  split
  · rfl
  · split
    · rfl
    · rename_i h1 h2; rw [if_neg h1, if_neg h2] at h; exact absurd rfl h
theorem mark_err (s : BS) (a : Int) (h : s.markErr a ≠ 0) : s.setMark a = s := by
  unfold BS.markErr at h
  unfold BS.setMark
  split
  · rfl
  · split
    · rfl
    · rename_i h1 h2; rw [if_neg h1, if_neg h2] at h; exact absurd rfl h
theorem swap_err (s : BS) (h : s.swapErr ≠ 0) : s.swap = s := by
  unfold BS.swapErr at h
  unfold BS.swap
  split
  · rfl
  · rename_i h1; rw [if_neg h1] at h; exact absurd rfl h

set_option maxRecDepth 100000 in
theorem stays_long (w : World) (A B : Option Addr) (n c m d : Nat) (hn : n ≤ maxLen) (hlong : 1024 < n) :
    Calls Tryd.prog 8 #[.slice A n c, .slice B m d] w (Yea w) := by
  have hn2 := hn
  unfold maxLen at hn2
  go_enter Tryd.func8, Tryd.ntmps8
  go_wp2_with (first
    | (go_at_call 11; refine (New_long _ A n c hlong hn).mono ?_; rintro e w' ⟨rfl, rfl⟩)
    | (go_at_call 12; refine (live07_calls _).mono ?_; rintro e w2 ⟨rfl, hk2⟩))
  go_ret
  exact ⟨by show Ending.returned (Value.bool (decide ((1024 : Int) < (n : Int)))) = _; rw [decide_eq_true (by omega)], hk2⟩

/-- What an operation comes to: a number, and a state that is as it was where the number is not 0. -/
def Opd (w5 : World) (b : Nat) (F : List Nat) (s : BS) (code : Int) (wx : World) : Prop :=
  Keeps F w5 wx ∧ ∃ F' s', (∀ k, k ∈ F' → k ∈ F ∨ w5.heap.size ≤ k) ∧ BAt wx b F' s' ∧ (code ≠ 0 → s' = s)
theorem opd_turned {w5 wx : World} {b : Nat} {F : List Nat} {s s' : BS} {code : Int} {e : Ending} (h : Turned w5 b F s' code e wx) (he : code ≠ 0 → s' = s) : e = .returned (.int .i64 code) ∧ Opd w5 b F s code wx :=
  ⟨h.1, h.2.1, h.2.2.choose, s', h.2.2.choose_spec.1, h.2.2.choose_spec.2, he⟩

set_option maxRecDepth 100000 in
set_option maxHeartbeats 4000000 in
theorem stays_ok (w : World) (A B : Option Addr) (c d : Nat) (l : List Int) (os : List OpV) (hs : Src w A (ns .i32 l)) (hl : l.length ≤ 1024) (ho : OpRow w B os) (hm : os.length ≤ maxLen) :
    Calls Tryd.prog 8 #[.slice A l.length c, .slice B os.length d] w (Yea w) := by
  unfold maxLen at hm
  have Ho := Lib.hid ho; clear ho
  go_enter Tryd.func8, Tryd.ntmps8
  go_wp2_with (first
    | (go_at_call 11; refine (New_ok _ A c l hs hl).mono ?_; rintro e w1 ⟨b, F, rfl, hb1, hk1, hF1⟩)
    | (go_at_call 12; refine (live07_calls _).mono ?_; rintro e w3 ⟨rfl, hk3⟩))
  have hb3 := hb1.keeps hk3 (by simp)
  have hk03 := hk1.trans hk3
  clear hb1 hk1 hk3 hs
  go_loopw [34] (fun i wr => ∃ (k : Nat) (F' : List Nat) (s' : BS), k ≤ os.length ∧ i = .int .i64 k ∧ Keeps [] w wr ∧ BAt wr b F' s' ∧ (∀ k, k ∈ F' → w.heap.size ≤ k)) (fun i _ => os.length - (intOf i).toNat)
  case atStart => exact ⟨0, F, _, Nat.zero_le _, rfl, hk03, hb3, hF1⟩
  case round =>
    obtain ⟨k, F', s', hk, rfl, hkr, hb, hF⟩ := hrel
    clear hb3 hk03 hF1
    by_cases hlt : k < os.length
    · obtain ⟨hok, a, hBa, c0, c1, c2, c3, c4, c5, c6⟩ := op_cells Ho.out hkr k hlt
      subst hBa
      generalize os[k] = o at *
      obtain ⟨w4, rfl⟩ : ∃ w4, w4 = wr := ⟨_, rfl⟩
      obtain ⟨kd, f, t, at_, oA, oc, ol, oAd, ocd, old, oAi, oci, oli⟩ := o
      simp only at c0 c1 c2 c3 c4 c5 c6
      have hkA := (Keeps.refl [] w4).alloc (.cells #[.int .i64 kd, .int .i64 f, .int .i64 t, .slice oA ol.length oc, .int .i64 at_, .slice oAd old.length ocd, .slice oAi oli.length oci] 26)
      have hop := blk_new w4 (.cells #[.int .i64 kd, .int .i64 f, .int .i64 t, .slice oA ol.length oc, .int .i64 at_, .slice oAd old.length ocd, .slice oAi oli.length oci] 26)
      go_upto_region 7 with fail
      generalize w4.alloc (.cells #[.int .i64 kd, .int .i64 f, .int .i64 t, .slice oA ol.length oc, .int .i64 at_, .slice oAd old.length ocd, .slice oAi oli.length oci] 26) = w5 at *
      have hb5 := hb.keeps hkA (by simp)
      obtain ⟨_, hif, hit, hia, hot, hod, hoi, wt, wd, wi⟩ := (hok.keeps hkr).keeps hkA
      obtain ⟨lo0, lo1, lo2⟩ := low_of hok
      simp only at hif hit hia hot hod hoi wt wd wi lo0 lo1 lo2
      unfold reachBytes at wt wd wi
      have z5 := hkr.size
      have hFl := hb5.lt
      have hop' : w4.heap.size < w5.heap.size := blk_lt hop
      have hnF : w4.heap.size ∉ F' := fun hm => by have := hb.lt _ hm; omega
      go_wp2_with fail
      refine (BLine_calls w5 b F' s' hb5).mono ?_
      rintro e w6 ⟨U, uc, rfl, hrU, hk6, hfU⟩
      have hkB := (Keeps.refl [] w6).alloc (.cells #[.slice U s'.l.length uc, .int .i64 s'.point, .int .i64 s'.mark] 46)
      have hln := blk_new w6 (.cells #[.slice U s'.l.length uc, .int .i64 s'.point, .int .i64 s'.mark] 46)
      have hop6 := blk_alloc (hk6.blk hop (by simp)) (.cells #[.slice U s'.l.length uc, .int .i64 s'.point, .int .i64 s'.mark] 46)
      have hk67 := hk6.trans hkB
      have hb7 := hb5.keeps hk67 (by simp)
      have hrU7 := hrU.keeps hkB (by simp)
      have hUl := hrU.fp_lt
      have z6 := hk6.size
      go_upto_region 8 with fail
      generalize w6.alloc (.cells #[.slice U s'.l.length uc, .int .i64 s'.point, .int .i64 s'.mark] 46) = w7 at *
      have hln' : w6.heap.size < w7.heap.size := blk_lt hln
      have z7 := hk67.size
      have o0 := blk_cell hop6 0
      go_upto_block 2 with fail
      go_cut [10] (fun v wx => ∃ code, v = .int .i64 code ∧ Opd w7 b F' s' code wx)
      case first =>
        have ho7 := hot.keeps hk67 (by simp)
        have hd7 := hod.keeps hk67 (by simp)
        have hi7 := hoi.keeps hk67 (by simp)
        have o1 := blk_cell hop6 1
        have o2 := blk_cell hop6 2
        have o3 := blk_cell hop6 3
        have o4 := blk_cell hop6 4
        have o5 := blk_cell hop6 5
        have o6 := blk_cell hop6 6
        clear c0 c1 c2 c3 c4 c5 c6 o0
        by_cases h0 : kd = 0
        · subst h0
          go_wp2_with fail
          refine (BInsert_calls w7 b F' s' oA oc ol hb7 (by omega) ho7 (fun a ha h0 hm => by have := hF _ hm; have := lo0 a ha (by rwa [ns_length] at h0); omega)).mono ?_
          rintro e w8 ⟨_, _, _, _, rfl, _, _, hk8, F8, hF8, hb8, _, _⟩
          go_wp2
          go_meet
          exact ⟨_, rfl, hk8, F8, _, hF8, hb8, fun h => after_err _ _ _ _ h⟩
        by_cases h1 : kd = 1
        · subst h1
          go_wp2_with fail
          refine (BDelete_calls w7 b F' s' f t hb7 hif hit).mono ?_
          rintro e w8 ⟨_, _, _, _, rfl, _, _, hk8, F8, hF8, hb8, _, _⟩
          go_wp2
          go_meet
          exact ⟨_, rfl, hk8, F8, _, hF8, hb8, fun h => after_err _ _ _ _ h⟩
        by_cases h2 : kd = 2
        · subst h2
          go_wp2_with fail
          refine (BReplace_calls w7 b F' s' f t oA oc ol hb7 hif hit (by omega) ho7 (fun a ha h0 hm => by have := hF _ hm; have := lo0 a ha (by rwa [ns_length] at h0); omega)).mono ?_
          rintro e w8 ⟨_, _, _, _, rfl, _, _, hk8, F8, hF8, hb8, _, _⟩
          go_wp2
          go_meet
          exact ⟨_, rfl, hk8, F8, _, hF8, hb8, fun h => after_err _ _ _ _ h⟩
        by_cases h3 : kd = 3
        · subst h3
          go_wp2_with fail
          refine (BApply_calls w7 b F' s' oAd oAi ocd oci ⟨at_, old, oli⟩ hb7 hia hd7 hi7 (by simp only; omega) (by simp only; unfold maxLen; omega) (fun a ha h0 hm => by have := hF _ hm; have := lo2 a ha (by rwa [ns_length] at h0); omega)).mono ?_
          rintro e w8 ⟨rfl, hk8, F8, hF8, hb8⟩
          go_wp2
          go_meet
          exact ⟨_, rfl, hk8, F8, _, hF8, hb8, fun h => apply_err _ _ h⟩
        by_cases h4 : kd = 4
        · subst h4
          go_wp2_with fail
          refine (BMove_calls w7 b F' s' f hb7 hif).mono ?_
          rintro e w8 ⟨rfl, hk8, F8, hF8, hb8⟩
          go_wp2
          go_meet
          exact ⟨_, rfl, hk8, F8, _, hF8, hb8, fun h => move_err _ _ h⟩
        by_cases h5 : kd = 5
        · subst h5
          go_wp2_with fail
          refine (BSetMark_calls w7 b F' s' f hb7 hif).mono ?_
          rintro e w8 ⟨rfl, hk8, F8, hF8, hb8⟩
          go_wp2
          go_meet
          exact ⟨_, rfl, hk8, F8, _, hF8, hb8, fun h => mark_err _ _ h⟩
        by_cases h6 : kd = 6
        · subst h6
          go_wp2_with fail
          refine (BSwap_calls w7 b F' s' hb7).mono ?_
          rintro e w8 ⟨rfl, hk8, F8, hF8, hb8⟩
          go_wp2
          go_meet
          exact ⟨_, rfl, hk8, F8, _, hF8, hb8, fun h => swap_err _ h⟩
        go_wp2
        go_meet
        exact ⟨0, rfl, Keeps.refl _ _, F', s', fun k hk => .inl hk, hb7, fun _ => rfl⟩
      case rest =>
        obtain ⟨w8, rfl⟩ : ∃ w8, w8 = wc := ⟨_, rfl⟩
        obtain ⟨code, rfl, hk8, F8, s8, hF8, hb8, hsame⟩ := hcut
        have hln8 := hk8.blk hln (fun hm => by have := hFl _ hm; omega)
        have hrU8 := row_src (hrU7.keeps hk8 (fun i hi hm => by have := hfU i hi; have := hFl i hm; omega))
        have hkw8 : Keeps [] w w8 := ((hkr.trans hkA).trans hk67).then hk8 (fun i hi => .inr (hF i hi))
        have hF8w : ∀ k, k ∈ F8 → w.heap.size ≤ k := fun i hi => (hF8 i hi).elim (hF i) (fun h => by omega)
        have hsh8 := hb.bounds.1
        clear c0 c1 c2 c3 c4 c5 c6 o0 hop6 hop hb hb5 hb7 hk6 hk67 hkB hkA hln hrU hrU7 hkr hok hot hod hoi hF8 hfU hUl hFl hnF hop' hln' z5 z6 z7 lo0 lo1 lo2
        go_upto_region 24 with fail
        go_cut [105] (fun v wx => v = .bool false ∧ Keeps [] w8 wx)
        case first =>
          by_cases hcz : code = 0
          · subst hcz
            have hkd := (Keeps.refl [] w8)
            go_quiet (fail)
            go_wp2
            go_meet
            exact ⟨rfl, hkd.drewN _⟩
          · have hs8 := hsame hcz
            have hd : (code == 0) = false := by simpa using hcz
            have hd2 : decide (code = 0) = false := by simpa using hcz
            have hd3 : (code != 0) = true := by simpa using hcz
            subst hs8
            obtain ⟨e0, e1, e2, _⟩ := three hln8
            have hkd := (Keeps.refl [] w8).drew
            go_region_held3 (fun w' => w'.cell? ⟨w6.heap.size, 0, none⟩ = some (.slice U s8.l.length uc) ∧ w'.cell? ⟨w6.heap.size, 1, none⟩ = some (.int .i64 s8.point) ∧ w'.cell? ⟨w6.heap.size, 2, none⟩ = some (.int .i64 s8.mark)) (first | exact ⟨e0, e1, e2⟩ | exact ⟨hkL.cell e0 (by simp), hkL.cell e1 (by simp), hkL.cell e2 (by simp)⟩ | exact ⟨hkM.cell e0 (by simp), hkM.cell e1 (by simp), hkM.cell e2 (by simp)⟩) (first
              | (go_at_call 44
                 refine (SameLine_true w9 V U vc uc s8.l s8.point s8.mark (row_src hrV) (hrU8.keeps hkL (by simp)) hsh8).mono ?_
                 rintro e w10 ⟨rfl, hk10⟩
                 have hkM := hkL.trans hk10)
              | (go_at_call 21
                 refine (BLine_calls w8.drew b F8 s8 (hb8.keeps hkd (by simp))).mono ?_
                 rintro e w9 ⟨V, vc, rfl, hrV, hk9, _⟩
                 have hkL := hkd.trans hk9))
            go_wp2
            go_meet
            exact ⟨by simp, hkM⟩
        case rest =>
          obtain ⟨w9, rfl⟩ : ∃ w9, w9 = wc := ⟨_, rfl⟩
          obtain ⟨rfl, hk9⟩ := hcut
          have hb9 := hb8.keeps hk9 (by simp)
          obtain ⟨g1, g2, g3, g4, g5⟩ := hb9.bounds
          have G1 : decide ((1024 : Int) < (s8.l.length : Int)) = false := by simp; omega
          have G2 : decide (s8.point < 0) = false := by simp; omega
          have G3 : decide ((s8.l.length : Int) < s8.point) = false := by simp; omega
          have G4 : decide (s8.mark < -1) = false := by simp; omega
          have G5 : decide ((s8.l.length : Int) < s8.mark) = false := by simp; omega
          have hkw9 := hkw8.trans hk9
          clear hsame hln8 hrU8 hk8 hb8 hk9 hkw8
          have hB9 := Lib.hid hb9
          go_wp2_with fail
          refine (BLen_calls w9 b F8 s8 hB9.out).mono ?_
          rintro e wa ⟨rfl, hka⟩
          have hba := hb9.keeps hka (by simp)
          go_wp2_with fail
          refine (BPoint_calls _ b F8 s8 hba).mono ?_
          rintro e w' ⟨rfl, rfl⟩
          go_wp2_with fail
          refine (BPoint_calls _ b F8 s8 hba).mono ?_
          rintro e w' ⟨rfl, rfl⟩
          go_wp2_with fail
          refine (BLen_calls wa b F8 s8 hba).mono ?_
          rintro e wb ⟨rfl, hkb⟩
          have hbb := hba.keeps hkb (by simp)
          go_wp2_with fail
          refine (BMark_calls _ b F8 s8 hbb).mono ?_
          rintro e w' ⟨rfl, rfl⟩
          go_wp2_with fail
          refine (BMark_calls _ b F8 s8 hbb).mono ?_
          rintro e w' ⟨rfl, rfl⟩
          go_wp2_with fail
          refine (BLen_calls wb b F8 s8 hbb).mono ?_
          rintro e wd ⟨rfl, hkd⟩
          have hbd := hbb.keeps hkd (by simp)
          go_wp2
          go_roundw
          case rel => exact ⟨k + 1, F8, s8, by omega, by go_num, ((hkw9.trans hka).trans hkb).trans hkd, hbd, hF8w⟩
          case measure => simp [intOf]; omega
    · obtain rfl : k = os.length := by omega
      go_wp2
      go_ret
      exact ⟨rfl, hkr⟩
theorem stays_all (w : World) (A B : Option Addr) (n c d : Nat) (l : List Int) (os : List OpV) (hl : Runes w A n c l) (ho : OpRow w B os) (hm : os.length ≤ maxLen) :
    Calls Tryd.prog 8 #[.slice A n c, .slice B os.length d] w (Yea w) := by
  obtain ⟨rfl, hs, hc, hm2, _⟩ := hl
  by_cases hn : 1024 < l.length
  · exact stays_long w A B l.length c os.length d (by omega) hn
  · exact stays_ok w A B c d l os hs (by omega) ho hm
end Go.Proofs.YtmnmdpgckefefaaDoor.Buf
