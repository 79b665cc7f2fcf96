/- lanyardlaw07.BufferDoes: what it comes to. -/
import Derived.Test.YtmnmdpgckefefaaDoorDoes2
import Derived.Test.YtmnmdpgckefefaaDoorOwn
namespace Go.Proofs.YtmnmdpgckefefaaDoor.Buf
open Go Go.RowKit Go.Proofs.YtmnmdpgckefefaaDoor.Rw Go.Proofs.YtmnmdpgckefefaaDoor.SlR Go.Proofs.YtmnmdpgckefefaaDoor.Words Go.Proofs.YtmnmdpgckefefaaDoor.OpArg

theorem low_of {w : World} {o : OpV} (h : o.Ok w) : Low w.heap.size o :=
  ⟨fun a ha h0 => Src.lt h.txt a ha (by rwa [ns_length]), fun a ha h0 => Src.lt h.del a ha (by rwa [ns_length]), fun a ha h0 => Src.lt h.ins a ha (by rwa [ns_length])⟩
/-- The seven cells of an op that stands in a slice. -/
theorem op_cells {w wr : World} {A : Option Addr} {os : List OpV} (h : OpRow w A os) (k : Keeps [] w wr) (i : Nat) (hi : i < os.length) :
    os[i].Ok w ∧ ∃ a, A = some a ∧ wr.cell? (a.add (i * 7)) = some (.int .i64 os[i].kd) ∧ wr.cell? ⟨(a.add (i * 7)).block, (a.add (i * 7)).off + 1, none⟩ = some (.int .i64 os[i].f) ∧ wr.cell? ⟨(a.add (i * 7)).block, (a.add (i * 7)).off + 2, none⟩ = some (.int .i64 os[i].t) ∧
      wr.cell? ⟨(a.add (i * 7)).block, (a.add (i * 7)).off + 3, none⟩ = some (.slice os[i].A os[i].l.length os[i].c) ∧ wr.cell? ⟨(a.add (i * 7)).block, (a.add (i * 7)).off + 4, none⟩ = some (.int .i64 os[i].at_) ∧ wr.cell? ⟨(a.add (i * 7)).block, (a.add (i * 7)).off + 5, none⟩ = some (.slice os[i].Ad os[i].ld.length os[i].cd) ∧ wr.cell? ⟨(a.add (i * 7)).block, (a.add (i * 7)).off + 6, none⟩ = some (.slice os[i].Ai os[i].li.length os[i].ci) := by
  obtain ⟨hok, a, ha, hc⟩ := h i os[i] (List.getElem?_eq_getElem hi)
  have g : ∀ j u, os[i].cells[j]? = some u → wr.cell? ((a.add (i * 7)).add j) = some u := fun j u hj => k.cell (hc j u hj) (by simp)
  have g0 : ∀ u, os[i].cells[0]? = some u → wr.cell? (a.add (i * 7)) = some u := fun u hj => by
    have := g 0 u hj
    rwa [show (a.add (i * 7)).add 0 = a.add (i * 7) by simp [Addr.add]] at this
  have gs : ∀ j u, os[i].cells[j + 1]? = some u → wr.cell? ⟨(a.add (i * 7)).block, (a.add (i * 7)).off + (j + 1), none⟩ = some u := fun j u hj => by
    have := g (j + 1) u hj
    rwa [show (a.add (i * 7)).add (j + 1) = ⟨(a.add (i * 7)).block, (a.add (i * 7)).off + (j + 1), none⟩ by generalize a.add (i * 7) = x; simp [Addr.add]] at this
  exact ⟨hok, a, ha, g0 _ rfl, gs 0 _ rfl, gs 1 _ rfl, gs 2 _ rfl, gs 3 _ rfl, gs 4 _ rfl, gs 5 _ rfl⟩

set_option maxRecDepth 100000 in
theorem does_long (w : World) (A B : Option Addr) (n c m d : Nat) (hn : n ≤ maxLen) (hlong : 1024 < n) :
    Calls Tryd.prog 9 #[.slice A n c, .slice B m d] w (Yea w) := by
  go_enter Tryd.func9, Tryd.ntmps9
  go_wp2_with (first
    | (go_at_call 11; refine (New_long _ A n c hlong hn).mono ?_; rintro e w' ⟨rfl, rfl⟩)
    | (go_at_call 16; refine (RfNew_long _ A n c hlong hn).mono ?_; rintro e w' ⟨rfl, rfl⟩)
    | (go_at_call 12; refine (live07_calls _).mono ?_; rintro e w2 ⟨rfl, hk2⟩))
  go_ret
  exact ⟨rfl, hk2⟩

set_option maxRecDepth 100000 in
set_option maxHeartbeats 2000000 in
theorem does_ok (w : World) (A B : Option Addr) (c d : Nat) (l : List Int) (os : List OpV) (hs : Src w A (ns .i32 l)) (hl : l.length ≤ 1024) (ho : OpRow w B os) (hm : os.length ≤ maxLen) :
    Calls Tryd.prog 9 #[.slice A l.length c, .slice B os.length d] w (Yea w) := by
  unfold maxLen at hm
  have Ho := Lib.hid ho; clear ho
  go_enter Tryd.func9, Tryd.ntmps9
  go_wp2_with (first
    | (go_at_call 11; refine (New_ok _ A c l hs hl).mono ?_; rintro e w1 ⟨b, F, rfl, hb1, hk1, hF1⟩)
    | (go_at_call 16; refine (RfNew_ok _ A c l (hs.keeps hk1 (by simp)) hl).mono ?_; rintro e w2 ⟨r, G, rfl, hr2, hk2, hG2⟩)
    | (go_at_call 12; refine (live07_calls _).mono ?_; rintro e w3 ⟨rfl, hk3⟩))
  have hb3 := (hb1.keeps hk2 (by simp)).keeps hk3 (by simp)
  have hr3 := hr2.keeps hk3 (by simp)
  have hk03 := (hk1.trans hk2).trans hk3
  have hd3 : ∀ k, k ∈ F → k ∉ G := fun k hk hg => by have := hb1.lt k hk; have := hG2 k hg; omega
  have hGw : ∀ k, k ∈ G → w.heap.size ≤ k := fun k hk => Nat.le_trans hk1.size (hG2 k hk)
  clear hb1 hr2 hk1 hk2 hk3 hG2 hs
  go_loopw [5, 40] (fun bv i wr => ∃ (k b' : Nat) (F' G' : List Nat) (s' : BS), k ≤ os.length ∧ i = .int .i64 k ∧ bv = .pointer (some ⟨b', 0, none⟩) ∧ Keeps [] w wr ∧ BAt wr b' F' s' ∧ RAt wr r G' s' ∧ (∀ k, k ∈ F' → w.heap.size ≤ k) ∧ (∀ k, k ∈ G' → w.heap.size ≤ k) ∧ (∀ k, k ∈ F' → k ∉ G')) (fun _ i _ => os.length - (intOf i).toNat)
  case atStart => exact ⟨0, b, F, G, _, Nat.zero_le _, rfl, rfl, hk03, hb3, hr3, hF1, hGw, hd3⟩
  case round =>
    obtain ⟨k, b', F', G', s', hk, rfl, rfl, hkr, hb, hr, hF, hG, hFG⟩ := hrel
    clear hb3 hr3 hk03 hd3 hGw hF1
    by_cases hlt : k < os.length
    · obtain ⟨hok, a, hBa, c0, c1, c2, c3, c4, c5, c6⟩ := op_cells Ho.out hkr k hlt
      subst hBa
      generalize os[k] = o at *
      obtain ⟨w4, rfl⟩ : ∃ w4, w4 = wr := ⟨_, rfl⟩
      have hok4 := hok.keeps hkr
      have hlow := low_of hok
      have hkA := (Keeps.refl [] w4).alloc (.cells #[.int .i64 o.kd, .int .i64 o.f, .int .i64 o.t, .slice o.A o.l.length o.c, .int .i64 o.at_, .slice o.Ad o.ld.length o.cd, .slice o.Ai o.li.length o.ci] 26)
      have hop := blk_new w4 (.cells #[.int .i64 o.kd, .int .i64 o.f, .int .i64 o.t, .slice o.A o.l.length o.c, .int .i64 o.at_, .slice o.Ad o.ld.length o.cd, .slice o.Ai o.li.length o.ci] 26)
      by_cases h7 : o.kd = 7
      · obtain ⟨kd, f, t, at_, oA, oc, ol, oAd, ocd, old, oAi, oci, oli⟩ := o
        simp only at h7 c0 c1 c2 c3 c4 c5 c6 hop hkA
        subst h7
        go_upto_region 10 with fail
        generalize w4.alloc (.cells #[.int .i64 7, .int .i64 f, .int .i64 t, .slice oA ol.length oc, .int .i64 at_, .slice oAd old.length ocd, .slice oAi oli.length oci] 26) = w5 at *
        have hb5 := hb.keeps hkA (by simp)
        have hr5 := hr.keeps hkA (by simp)
        have hok5 := hok4.keeps hkA
        obtain ⟨_, hif, hit, _, hot, _, _, wt, _, _⟩ := hok5
        simp only at hif hit hot wt
        obtain ⟨lo0, _, _⟩ := id hlow
        simp only at lo0
        unfold reachBytes at wt
        have o0 := blk_cell hop 0
        have z5 := hkr.size
        have z6 := hkA.size
        have hFl := hb5.lt
        have hGl := hr5.lt
        have hop' : w4.heap.size < w5.heap.size := blk_lt hop
        go_wp2_with fail
        refine (BClone_calls w5 b' F' s' hb5).mono ?_
        rintro e w6 ⟨b2, F2, rfl, hb6, hk6, hF2⟩
        have hbo6 := hb5.keeps hk6 (by simp)
        have hr6 := hr5.keeps hk6 (by simp)
        have hop6 := hk6.blk hop (by simp)
        have ho6 := hot.keeps hk6 (by simp)
        have o1 := blk_cell hop6 1
        have o2 := blk_cell hop6 2
        have o3 := blk_cell hop6 3
        have hF2l := hb6.lt
        have z7 := hk6.size
        clear o0
        go_wp2_with fail
        refine (BReplace_calls w6 b' F' s' f t oA oc ol hbo6 hif hit (by omega) ho6 (fun a ha h0 hm => by have := hF _ hm; have := lo0 a ha (by rwa [ns_length] at h0); omega)).mono ?_
        rintro e w7 ⟨_, _, _, _, rfl, _, _, hk7, F7, hF7, hbo7, _, _⟩
        have hb7 := hb6.keeps hk7 (fun i hi hm => by have := hF2 i hi; have := hFl i hm; omega)
        have hr7 := hr6.keeps hk7 (fun i hi hm => hFG i hm hi)
        have hnF : w4.heap.size ∉ F' := fun hm => by have := hb.lt _ hm; omega
        have hop7 := hk7.blk hop6 hnF
        have z8 := hk7.size
        clear o1 o2 o3
        go_wp2_with fail
        refine (BMove_calls w7 b' F7 _ 0 hbo7 ⟨by omega, by omega⟩).mono ?_
        rintro e w8 ⟨rfl, hk8, F8, hF8, hbo8⟩
        have hd78 : ∀ i, i ∈ F2 → i ∉ F7 := fun i hi hm => by
          rcases hF7 i hm with h | h
          · have := hF2 i hi; have := hFl i h; omega
          · have := hF2l i hi; omega
        have hg78 : ∀ i, i ∈ G' → i ∉ F7 := fun i hi hm => by
          rcases hF7 i hm with h | h
          · exact hFG i h hi
          · have := hGl i hi; omega
        have hb8 := hb7.keeps hk8 hd78
        have hr8 := hr7.keeps hk8 hg78
        have hop8 := hk8.blk hop7 (fun hm => by
          rcases hF7 _ hm with h | h
          · exact hnF h
          · omega)
        have z9 := hk8.size
        have hkw8 : Keeps [] w w8 := (((hkr.trans hkA).trans hk6).then hk7 (fun i hi => .inr (hF i hi))).then hk8 (fun i hi => .inr (by
          rcases hF7 i hi with h | h
          · exact hF i h
          · omega))
        have hokw := hok.keeps hkw8
        have o0 := blk_cell hop8 0
        have o1 := blk_cell hop8 1
        have o2 := blk_cell hop8 2
        have o3 := blk_cell hop8 3
        have o4 := blk_cell hop8 4
        have o5 := blk_cell hop8 5
        have o6 := blk_cell hop8 6
        clear hbo8 hbo7 hbo6 hb5 hr5 hb hr hb6 hb7 hr6 hr7
        go_wp2_with fail
        refine (does_calls w8 b2 r F2 G' s' w.heap.size _ hb8 hr8 (fun i hi hm => by have := hF2 i hi; have := hGl i hm; omega) (fun i hi => by have := hF2 i hi; omega) hG hokw hlow).mono ?_
        rintro e w9 ⟨rfl, hk9, F9, G9, hF9, hG9, hFG9, hb9, hr9⟩
        have hkw9 := hkw8.then hk9 (fun i hi => .inr (by rcases List.mem_append.1 hi with h | h; have := hF2 i h; omega; exact hG i h))
        go_wp2_with fail
        refine (is_calls w9 b2 r F9 G9 _ hb9 hr9).mono ?_
        rintro e w10 ⟨rfl, hk10⟩
        go_wp2
        go_roundw
        case rel => exact ⟨k + 1, b2, F9, G9, _, by omega, by go_num, rfl, hkw9.trans hk10, hb9.keeps hk10 (by simp), hr9.keeps hk10 (by simp), fun i hi => (hF9 i hi).elim (fun h => by have := hF2 i h; omega) (fun h => by omega), fun i hi => (hG9 i hi).elim (hG i) (fun h => by omega), hFG9⟩
        case measure => simp [intOf]; omega
      · go_upto_region 10 with fail
        generalize w4.alloc (.cells #[.int .i64 o.kd, .int .i64 o.f, .int .i64 o.t, .slice o.A o.l.length o.c, .int .i64 o.at_, .slice o.Ad o.ld.length o.cd, .slice o.Ai o.li.length o.ci] 26) = w5 at *
        have hb5 := hb.keeps hkA (by simp)
        have hr5 := hr.keeps hkA (by simp)
        have o0 := blk_cell hop 0
        have o1 := blk_cell hop 1
        have o2 := blk_cell hop 2
        have o3 := blk_cell hop 3
        have o4 := blk_cell hop 4
        have o5 := blk_cell hop 5
        have o6 := blk_cell hop 6
        go_wp2_with fail
        refine (does_calls w5 b' r F' G' s' w.heap.size o hb5 hr5 hFG hF hG (hok4.keeps hkA) hlow).mono ?_
        rintro e w6 ⟨rfl, hk6, F6, G6, hF6, hG6, hFG6, hb6, hr6⟩
        have z5 := hkr.size
        have z6 := hkA.size
        have hkw6 := (hkr.trans hkA).then hk6 (fun i hi => .inr (by rcases List.mem_append.1 hi with h | h; exact hF i h; exact hG i h))
        go_wp2_with fail
        refine (is_calls w6 b' r F6 G6 _ hb6 hr6).mono ?_
        rintro e w7 ⟨rfl, hk7⟩
        go_wp2
        go_roundw
        case rel => exact ⟨k + 1, b', F6, G6, _, by omega, by go_num, rfl, hkw6.trans hk7, hb6.keeps hk7 (by simp), hr6.keeps hk7 (by simp), fun i hi => (hF6 i hi).elim (hF i) (fun h => by omega), fun i hi => (hG6 i hi).elim (hG i) (fun h => by omega), hFG6⟩
        case measure => simp [intOf]; omega
    · obtain rfl : k = os.length := by omega
      go_wp2
      go_ret
      exact ⟨rfl, hkr⟩
theorem does_all (w : World) (A B : Option Addr) (n c d : Nat) (l : List Int) (os : List OpV) (hl : Runes w A n c l) (ho : OpRow w B os) (hm : os.length ≤ maxLen) :
    Calls Tryd.prog 9 #[.slice A n c, .slice B os.length d] w (Yea w) := by
  obtain ⟨rfl, hs, hc, hm2, _⟩ := hl
  by_cases hn : 1024 < l.length
  · exact does_long w A B l.length c os.length d (by omega) hn
  · exact does_ok w A B c d l os hs (by omega) ho hm
end Go.Proofs.YtmnmdpgckefefaaDoor.Buf
