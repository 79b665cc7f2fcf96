/- lanyardlaw22.MacroPastes: what it comes to. -/
import Derived.Test.YtomdhiphiediaaaDoorPlain
import Derived.Test.YtomdhiphiediaaaDoorRefText
namespace Go.Proofs.YtomdhiphiediaaaDoor.Dec
open Go Go.RowKit Go.Proofs.YtomdhiphiediaaaDoor.Rw

theorem putP_len (l : List UInt8) (x : UInt8) (h : l.length ≤ 16384) : (putP l x).2.2.length ≤ 16384 := by
  unfold putP
  split
  · simp only [List.length_take]; omega
  · split
    · simp only [List.length_take]; omega
    · simp only [List.length_append, List.length_singleton]; omega
/-- Both pastes, after the same bytes. -/
def Both (w wz : World) (p q : Nat) (l : List UInt8) (done : Bool) : Prop :=
  ∃ (F G : List Nat) (l2 : List UInt8) (cut : Nat), PAt wz p F l done ∧ RAt wz q G l2 done cut ∧ cut ≤ l2.length ∧ l2.take cut = l ∧ (done = false → cut = l2.length) ∧ l.length ≤ 16384 ∧ l2.length ≤ 16385 ∧ (∀ j, j ∈ F → w.heap.size ≤ j) ∧ (∀ j, j ∈ G → w.heap.size ≤ j ∧ j ∉ F) ∧ Keeps [] w wz
theorem Both.keeps {w wz wy : World} {p q : Nat} {l : List UInt8} {done : Bool} (h : Both w wz p q l done) (k : Keeps [] wz wy) : Both w wy p q l done := by
  obtain ⟨F, G, l2, cut, h1, h2, h3, h4, h5, h6, h7, h8, h9, h10⟩ := h
  exact ⟨F, G, l2, cut, h1.keeps k (by simp), h2.keeps k (by simp), h3, h4, h5, h6, h7, h8, h9, h10.trans k⟩
theorem Both.put {w wz : World} {p q : Nat} {l : List UInt8} {done : Bool} (h : Both w wz p q l done) (x : UInt8) :
    ∃ d k, Calls Tryd.prog 8 #[.pointer (some ⟨p, 0, none⟩), .int .u8 x.toNat] wz fun e w1 => e = .returned (.tuple #[.bool d, .int .i64 k]) ∧
      Calls Tryd.prog 25 #[.pointer (some ⟨q, 0, none⟩), .int .u8 x.toNat] w1 fun e w2 => e = .returned (.tuple #[.bool d, .int .i64 k]) ∧ ∃ l' done', Both w w2 p q l' done' := by
  obtain ⟨F, G, l2, cut, h1, h2, h3, h4, h5, h6, h7, h8, h9, h10⟩ := h
  cases done with
  | true =>
    refine ⟨false, 6, (PPut_done wz p F l _ h1).mono ?_⟩
    rintro e w1 ⟨rfl, rfl⟩
    refine ⟨rfl, (RPut_done _ q G l2 cut _ h2).mono ?_⟩
    rintro e w2 ⟨rfl, rfl⟩
    exact ⟨rfl, l, true, F, G, l2, cut, h1, h2, h3, h4, h5, h6, h7, h8, h9, h10⟩
  | false =>
    obtain rfl := h5 rfl
    rw [List.take_length] at h4
    subst h4
    have hl := putP_len l2 x h6
    refine ⟨(putP l2 x).1, (putP l2 x).2.1, (PPut_calls wz p F l2 x h1 h6).mono ?_⟩
    rintro e w1 ⟨rfl, k1, F1, p1, f1⟩
    have z := h10.size
    have z1 := k1.size
    have hF : ∀ j, j ∈ F1 → w.heap.size ≤ j := fun j hj => by
      rcases f1 j hj with h | h
      · exact h8 j h
      · omega
    have hG : ∀ j, j ∈ G → j ∉ F1 := fun j hj hk => by
      rcases f1 j hk with h | h
      · exact (h9 j hj).2 h
      · have := h2.lt j hj; omega
    have kw1 : Keeps [] w w1 := h10.then k1 (fun i hi => .inr (h8 i hi))
    refine ⟨rfl, (RPut_calls w1 q G l2 l2.length x (h2.keeps k1 (fun i hi => (h9 i hi).2)) h6).mono ?_⟩
    rintro e w2 ⟨rfl, k2, G2, cut2, r2, c1, c2, c3, g2⟩
    have z2 := k2.size
    refine ⟨rfl, (putP l2 x).2.2, (putP l2 x).1, F1, G2, l2 ++ [x], cut2, p1.keeps k2 (fun i hi hm => hG i hm hi), r2, c1, c2, c3, hl, by simp; omega, hF, fun j hj => ?_, kw1.then k2 (fun i hi => .inr (h9 i hi).1)⟩
    rcases g2 j hj with h | h
    · exact ⟨(h9 j h).1, hG j h⟩
    · exact ⟨by omega, fun hm => by have := p1.lt j hm; omega⟩
theorem Both.text {w wz : World} (hU : UTabs w) (hM : MaxC w) {p q : Nat} {l : List UInt8} {done : Bool} (h : Both w wz p q l done) :
    Calls Tryd.prog 9 #[.pointer (some ⟨p, 0, none⟩)] wz fun e w1 => MadeR wz w1 e (runesOf (crB l)) ∧ Keeps [] wz w1 ∧
      Calls Tryd.prog 26 #[.pointer (some ⟨q, 0, none⟩)] w1 fun e w2 => MadeR w1 w2 e (runesOf (crB l)) := by
  obtain ⟨F, G, l2, cut, h1, h2, h3, h4, h5, h6, h7, h8, h9, h10⟩ := h
  refine (PText_calls wz (UTabs_keeps hU h10) (hM.keeps h10) p F l done h1 (by omega)).mono ?_
  intro e w1 hh
  obtain ⟨A, c, he, hr, hk, hf⟩ := hh
  refine ⟨⟨A, c, he, hr, hk, hf⟩, hk, ?_⟩
  have := RText_calls w1 q G l2 done cut (h2.keeps hk (by simp)) h3 (by omega)
  rwa [h4, ← runes_crB _ l (Nat.le_refl _)] at this
/-- A store into a row of runes that is owned. -/
theorem row_stored {w : World} {A : Option Addr} {n c : Nat} {xs : List Value} (h : Row w 21 1 (.slice A n c) n xs) (k : Nat) (hk : k < n) :
    ∃ g off, A = some ⟨g, off, none⟩ ∧ fp (.slice A n c) = [g] ∧ w.cell? ⟨g, off + k, none⟩ = xs[k]? ∧ w.frozen? ⟨g, off + k, none⟩ = false ∧ ∀ u, Row (w.setCell ⟨g, off + k, none⟩ u) 21 1 (.slice A n c) n (xs.set k u) := by
  have hl : k < xs.length := by rw [h.len]; omega
  obtain ⟨g, off, c', hv, h1, h2, hfp, hc, hfz⟩ := h.cell hl
  cases hv
  exact ⟨g, off, rfl, hfp, by rw [hc, List.getElem?_eq_getElem hl], hfz, fun u => h.set k u hl⟩
set_option maxRecDepth 100000 in
set_option maxHeartbeats 4000000 in
theorem pastes_all (w : World) (hU : UTabs w) (hM : MaxC w) (A : Option Addr) (c : Nat) (ls : List UInt8) (hs : Src w A (bs ls)) (hm : ls.length ≤ 9223372036854775807) :
    Calls Tryd.prog 5 #[.slice A ls.length c] w fun e w' => e = .returned (.bool true) ∧ Keeps [] w w' := by
  have HU := Lib.hid hU
  have HM := Lib.hid hM
  have Hs := Lib.hid hs
  clear hU hM hs
  go_enter Tryd.func5, Tryd.ntmps5
  go_wp2_with fail
  refine (PNew_calls w).mono ?_
  rintro e w1 ⟨rfl, hk1, hP⟩
  obtain ⟨p, hpe⟩ : ∃ p, p = w.heap.size := ⟨_, rfl⟩
  rw [← hpe] at hP ⊢
  have Hpe := Lib.hid hpe
  have Hpl := Lib.hid (hP.lt p (by simp))
  clear hpe
  go_upto_region 3 with fail
  have hQ : RAt (w1.alloc (.cells #[.slice none 0 0, .bool false, .int .i64 0] 55)) w1.heap.size [w1.heap.size] [] false 0 :=
    ⟨.slice none 0 0, ⟨blk_new w1 _, Row.nil _ _ _ _⟩, rfl⟩
  have hB : Both w (w1.alloc (.cells #[.slice none 0 0, .bool false, .int .i64 0] 55)) p w1.heap.size [] false :=
    ⟨[p], [w1.heap.size], [], 0, hP.keeps ((Keeps.refl [] _).alloc _) (by simp), hQ, by simp, rfl, fun _ => rfl, by simp, by simp, fun j hj => by have := Hpe.out; simp at hj; omega, fun j hj => by have := Hpl.out; simp at hj; subst hj; exact ⟨hk1.size, by simp; omega⟩, hk1.alloc _⟩
  have HB := Lib.hid hB
  clear hB hQ hP
  obtain ⟨q, hq⟩ : ∃ q, q = w1.heap.size := ⟨_, rfl⟩
  rw [← hq] at HB ⊢
  clear hq
  generalize w1.alloc (.cells #[.slice none 0 0, .bool false, .int .i64 0] 55) = w2 at *
  clear hk1 Hpl
  go_wp2_with fail
  refine (Mac.begun_calls w2).mono ?_
  rintro e w3 ⟨rfl, hk3⟩
  have HB3 := Lib.hid (HB.out.keeps hk3)
  clear HB hk3 w2
  go_wp2_with fail
  go_loopw [25] (fun i wr => ∃ (k : Nat) (l : List UInt8) (done : Bool), k ≤ ls.length ∧ i = .int .i64 k ∧ Both w wr p q l done) (fun i _ => ls.length - (intOf i).toNat)
  case atStart => exact ⟨0, [], false, Nat.zero_le _, rfl, HB3.out⟩
  case round =>
    clear HB3
    obtain ⟨k, l, done, hk, rfl, hB⟩ := hrel
    have hkr : Keeps [] w wr := by obtain ⟨_, _, _, _, _, _, _, _, _, _, _, _, _, h⟩ := hB; exact h
    by_cases hlt : k < ls.length
    · obtain ⟨ad, rfl, hc⟩ := (Hs.out.keeps hkr (fun _ _ _ => by simp)) k (.int .u8 (ls[k]).toNat) (by simp [bs, hlt])
      obtain ⟨d, n, hput⟩ := hB.put ls[k]
      have hx := (ls[k]).toNat_lt
      generalize (ls[k]).toNat = x at *
      have HP := Lib.hid hput
      have hdd : (d != d) = false := by simp
      have hnn : (n != n) = false := by simp
      clear hput hB hkr
      go_wp2_with (first
        | (go_at_call 8; refine HP.out.mono ?_; rintro e w4 ⟨rfl, hR⟩; have HR := Lib.hid hR; clear hR)
        | (go_at_call 25; refine HR.out.mono ?_; rintro e w5 ⟨rfl, l2, done2, hB2⟩; have HB2 := Lib.hid hB2; clear hB2))
      go_roundw
      case rel => exact ⟨k + 1, l2, done2, by omega, by go_num, HB2.out⟩
      case measure => simp [intOf]; omega
    · obtain rfl : k = ls.length := by omega
      have HB := Lib.hid hB
      clear hB hkr
      go_wp2_with fail
      go_loopw [50] (fun i wz => ∃ (k : Nat), k ≤ 2 ∧ i = .int .i64 k ∧ Both w wz p q l done) (fun i _ => 2 - (intOf i).toNat)
      case atStart => exact ⟨0, by omega, rfl, HB.out⟩
      case round =>
        clear HB
        obtain ⟨k2, hk2, rfl, hB⟩ := hrel
        have hkz : Keeps [] w wr := by obtain ⟨_, _, _, _, _, _, _, _, _, _, _, _, _, h⟩ := hB; exact h
        by_cases hlt2 : k2 < 2
        · have HT := Lib.hid (hB.text HU.out HM.out)
          have HB := Lib.hid hB
          clear hB
          generalize runesOf (crB l) = xs at *
          go_wp2_with (first
            | (go_at_call 9; refine HT.out.mono ?_; rintro e w4 ⟨⟨A1, c1, rfl, hrow1, hk4, hf1⟩, hk4', hR⟩; have HR := Lib.hid hR; clear hR hk4')
            | (go_at_call 26; refine HR.out.mono ?_; rintro e w5 ⟨A2, c2, rfl, hrow2, hk5, hf2⟩))
          have hrow5 := hrow1.keeps hk5 (by simp)
          have k15 := hk4.trans hk5
          obtain ⟨n, hn⟩ : ∃ n, n = xs.length := ⟨_, rfl⟩
          obtain ⟨_, _, he1, hA1, hA2, _⟩ := hrow1.src
          cases he1
          obtain ⟨_, _, he2, hB1, hB2, hs2, hb2⟩ := hrow2.src
          cases he2
          have hdis : ∀ a, A2 = some a → 0 < (ns .i32 xs).length → a.block ∉ fp (.slice A1 xs.length c1) := fun a ha h0 hm => by
            have h1 := hf2 _ (hb2 a ha h0)
            have h2 := hrow1.fp_lt _ hm
            omega
          rw [← hn] at hrow5 hdis hf1 hA1 hB1 ⊢
          unfold maxLen at hA2 hB2
          have HN := Lib.hid hn
          have Hdis := Lib.hid hdis
          have Hs2 := Lib.hid hs2
          have Hf1 := Lib.hid hf1
          have Hrow5 := Lib.hid hrow5
          clear hn hdis hs2 hf1 hf2 hb2 hrow1 hrow2 hrow5 HT HR
          go_loopw [63] (fun i wy => ∃ (k : Nat) (zs : List Value), k ≤ n ∧ i = .int .i64 k ∧ (∀ j, k ≤ j → zs[j]? = (ns .i32 xs)[j]?) ∧ Row wy 21 1 (.slice A1 n c1) n zs ∧ Keeps (fp (.slice A1 n c1)) w5 wy) (fun i _ => n - (intOf i).toNat)
          case atStart => exact ⟨0, ns .i32 xs, Nat.zero_le _, rfl, fun _ _ => rfl, Hrow5.out, Keeps.refl _ _⟩
          case round =>
            obtain ⟨k3, zs, hk3, rfl, hzs, hrow, hky⟩ := hrel
            by_cases hlt3 : k3 < n
            · have hx : k3 < xs.length := by rw [← HN.out]; exact hlt3
              obtain ⟨g, off, rfl, hfp, hc1, hfz, hset⟩ := row_stored hrow k3 hlt3
              have hsetd : ∀ u, Row (wr.drew.setCell ⟨g, off + k3, none⟩ u) 21 1 (.slice (some ⟨g, off, none⟩) n c1) n (zs.set k3 u) := fun u => (hrow.drew).set k3 u (by rw [hrow.len]; omega)
              have Hsetd := Lib.hid hsetd
              obtain ⟨ad, rfl, hc2⟩ := src_num (Hs2.out.keeps hky Hdis.out) k3 hx
              have hc1' : wr.cell? ⟨g, off + k3, none⟩ = some (.int .i32 xs[k3]) := by
                rw [hc1, hzs k3 (Nat.le_refl _), ns, List.getElem?_map, List.getElem?_eq_getElem hx]; rfl
              generalize xs[k3] = x at *
              have hxx : (x != x) = false := by simp
              have Hzs := Lib.hid hzs
              have Hset := Lib.hid hset
              have Hfp := Lib.hid hfp
              have hfin : ∀ (u : Value) (j : Nat), k3 + 1 ≤ j → (zs.set k3 u)[j]? = (ns .i32 xs)[j]? := fun u j hj => by
                rw [List.getElem?_set_ne (by omega)]; exact Hzs.out j (by omega)
              have Hfin := Lib.hid hfin
              have hin : g ∈ fp (.slice (some ⟨g, off, none⟩) n c1) := by rw [Hfp.out]; simp
              have Hin := Lib.hid hin
              have hkd := hky.drew
              clear hzs hset hsetd hfp hc1 hfin hin
              go_wp2_with fail
              go_region
              all_goals go_wp2_with fail
              all_goals go_roundw
              all_goals first
                | (refine ⟨k3 + 1, zs.set k3 (.int .i32 (-9)), by omega, by go_num, Hfin.out _, ?_, ?_⟩ <;> first | exact Hset.out _ | exact Hsetd.out _ | exact hky.setCell _ _ (.inl Hin.out) | exact hkd.setCell _ _ (.inl Hin.out))
                | (simp [intOf]; omega)
            · obtain rfl : k3 = n := by omega
              go_wp2_with fail
              go_roundw
              case rel => exact ⟨k2 + 1, by omega, by go_num, HB.out.keeps ((k15.then hky (fun i hi => .inr (Hf1.out i hi))))⟩
              case measure => simp [intOf]; omega
        · obtain rfl : k2 = 2 := by omega
          go_wp2_with fail
          go_ret
          exact ⟨rfl, hkz⟩
end Go.Proofs.YtomdhiphiediaaaDoor.Dec
