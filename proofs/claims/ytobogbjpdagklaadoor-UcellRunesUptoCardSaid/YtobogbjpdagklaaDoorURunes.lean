/- lanyardlaw01.UcellRunes: what it comes to. -/
import Derived.Test.YtobogbjpdagklaaDoorRefRunes
import Derived.Test.YtobogbjpdagklaaDoorRefBytes
import Derived.Test.YtobogbjpdagklaaDoorBEq
import Derived.Test.YtobogbjpdagklaaDoorLive
namespace Go.Proofs.YtobogbjpdagklaaDoor.Uc
open Go Go.RowKit Go.Proofs.YtobogbjpdagklaaDoor.Rw Go.Proofs.YtobogbjpdagklaaDoor.Dec Go.Proofs.YtobogbjpdagklaaDoor.Kinds

theorem enc_all_len' (l : List Int) : (encAll l).length ≤ 4 * l.length := by
  induction l with
  | nil => simp [encAll]
  | cons r l ih =>
    have := enc_len r
    simp only [encAll, List.flatMap_cons, List.length_append, List.length_cons] at ih ⊢
    omega
set_option maxRecDepth 100000 in
set_option maxHeartbeats 2000000 in
theorem runes_all (w : World) (hU : UTabs w) (hT : Tabs w) (A : Option Addr) (c : Nat) (b : List UInt8) (B : Option Addr) (d : Nat) (l : List Int) (hb : Src w A (bs b)) (hl : Src w B (ns .i32 l)) (hnb : b.length ≤ 1048576) (hnl : l.length ≤ 1048576) (hc : b.length ≤ c) (hm : c ≤ 9223372036854775807)
    (hr : ∀ r ∈ l, -2147483648 ≤ r ∧ r ≤ 2147483647) :
    Calls Tryd.prog 11 #[.slice A b.length c, .slice B l.length d] w fun e w' => e = .returned (.bool true) ∧ Keeps [] w w' := by
  have hL := live01_calls w hU hT
  have HU := Lib.hid hU; clear hU hT
  have Hb := Lib.hid hb; clear hb
  have Hl := Lib.hid hl; clear hl
  have Hr := Lib.hid hr; clear hr
  have hlen := runesOf_length b
  have hlen2 := enc_all_len' l
  go_enter Tryd.func11, Tryd.ntmps11
  go_wp2_with fail
  refine hL.mono ?_
  rintro e w1 ⟨rfl, k1⟩
  clear hL
  go_wp2_with fail
  refine (Runes_calls w1 (UTabs_keeps HU.out k1) A c b (Hb.out.keeps k1 (by simp)) hc hm (by omega)).mono ?_
  rintro e w2 ⟨A2, c2, rfl, hrow2, hk2, _⟩
  have k2 := k1.trans hk2
  go_wp2_with fail
  refine (RfRunes_calls w2 A c b (Hb.out.keeps k2 (by simp)) hc hm (by omega)).mono ?_
  rintro e w3 ⟨A3, c3, rfl, hrow3, hk3, _⟩
  have k3 := k2.trans hk3
  obtain ⟨_, _, he, _, hm2, hs2, _⟩ := (hrow2.keeps hk3 (by simp)).src
  cases he
  obtain ⟨_, _, he, _, hm3, hs3, _⟩ := hrow3.src
  cases he
  clear hrow2 hrow3
  go_wp2_with fail
  refine (Equal_calls w3 A2 A3 _ _ c2 c3 _ _ hs2 hs3 rfl rfl (by unfold maxLen; omega) (by unfold maxLen; omega)).mono ?_
  rintro e w4 ⟨he, hk4⟩
  obtain rfl : e = .returned (.bool true) := by rw [he]; simp
  have k4 := k3.trans hk4
  clear he hs2 hs3
  go_wp2_with fail
  refine (Bytes_calls w4 B d l (Hl.out.keeps k4 (by simp)) (by omega) Hr.out).mono ?_
  rintro e w5 ⟨v5, rfl, ho5, hk5⟩
  have k5 := k4.trans hk5
  obtain ⟨A5, c5, rfl, _, hm5, hs5, _⟩ := own_src ho5
  clear ho5
  go_wp2_with fail
  refine (RfBytes_calls w5 B d l (Hl.out.keeps k5 (by simp)) (by omega) Hr.out).mono ?_
  rintro e w6 ⟨A6, c6, rfl, hrow6, hk6, _⟩
  have k6 := k5.trans hk6
  obtain ⟨_, _, he, _, hm6, hs6, _⟩ := hrow6.src
  cases he
  clear hrow6
  go_wp2_with fail
  refine (BytesEqual_calls w6 A5 A6 c5 c6 _ _ (hs5.keeps hk6 (by simp)) hs6).mono ?_
  rintro e w7 ⟨he, rfl⟩
  obtain rfl : e = .returned (.bool true) := by rw [he]; simp
  clear he hs5 hs6
  go_wp2
  go_ret
  exact ⟨rfl, k6⟩
end Go.Proofs.YtobogbjpdagklaaDoor.Uc
