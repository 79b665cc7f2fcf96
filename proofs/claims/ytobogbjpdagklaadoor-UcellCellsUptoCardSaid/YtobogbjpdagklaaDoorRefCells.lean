/- lanyardref01: one, joins. -/
import Derived.Test.YtobogbjpdagklaaDoorCellsX
import Derived.Test.YtobogbjpdagklaaDoorRefForm
import Derived.Test.YtobogbjpdagklaaDoorRefKind2
import Derived.Test.YtobogbjpdagklaaDoorBEq
import Derived.Test.YtobogbjpdagklaaDoorEncP
namespace Go.Proofs.YtobogbjpdagklaaDoor.Dec
open Go Go.RowKit Go.Proofs.YtobogbjpdagklaaDoor.Rw Go.Proofs.YtobogbjpdagklaaDoor.Kinds

theorem ROne_calls (w : World) (s : ByteArray) : Calls Tryd.prog 43 #[.string s] w fun e w' => e = .returned (.agg #[.string s, .int .i64 1, .int .i64 0]) ∧ Keeps [] w w' := by
  go_enter Tryd.func43, Tryd.ntmps43
  go_wp2
  exact bodyPost_ret (v := .agg #[.string s, .int .i64 1, .int .i64 0]) (by simp [results, Tryd.results43, go_sem]) rfl ⟨rfl, (Keeps.refl _ _).alloc _⟩
/-- A rune's form, as a string. -/
def FormS (w w' : World) (e : Ending) (r : Int) : Prop := ∃ A n c, e = .returned (.slice A n c) ∧ Keeps [] w w' ∧ ∀ wx, Keeps [] w' wx → (convert 39 9 (.slice A n c)).run Tryd.prog wx = .ok (.string (Utf8.encode r)) wx
theorem FormS_calls (w : World) (r : Int) (hr0 : -2147483648 ≤ r) (hr1 : r ≤ 2147483647) : Calls Tryd.prog 44 #[.int .i32 r] w fun e w' => FormS w w' e r :=
  (Form_calls w r hr0 hr1).mono fun _ _ ⟨A, c, he, hrow, hk, _⟩ => by
    obtain ⟨_, _, he2, _, _, hs, _⟩ := hrow.src
    cases he2
    refine ⟨A, _, c, he, hk, fun wx kx => ?_⟩
    rw [enc_same]
    exact conv_src wx _ _ 5 A c _ Tryd.underlying39 Tryd.underlying5 Tryd.underlying9 (hs.keeps kx (fun _ _ _ => by simp))
set_option maxRecDepth 100000 in
set_option maxHeartbeats 1000000 in
theorem RJoin_calls (w : World) (v : Value) (cs : List CellV) (h : Row w 26 3 v cs.length (cvs cs)) (r : Int) (hr0 : -2147483648 ≤ r) (hr1 : r ≤ 2147483647) (hb : (cs.length + 1) * 32 ≤ 140737488355328) :
    Calls Tryd.prog 45 #[v, .int .i32 r] w fun e w' => CellsR w w' (fp v) e (joinC cs (Utf8.encode r)) := by
  obtain ⟨A, c, rfl, h1, h2⟩ := h.slice
  unfold maxLen at h2
  have hsz := encode_size r
  have hF := FormS_calls w r hr0 hr1
  go_enter Tryd.func45, Tryd.ntmps45
  go_wp2_with (go_at_call 44; refine hF.mono ?_; rintro e w0 ⟨A0, n0, c0, rfl, hk0, hcv0⟩; have hcv := hcv0 w0 (Keeps.refl _ _))
  have h0 := h.keeps hk0 (by simp)
  clear hcv hcv0 hF h
  have hz0 := hk0.size
  have hk0' := Lib.hid hk0; clear hk0
  go_loopw [6] (fun i wr => wr = w0 ∧ ∃ k : Nat, k ≤ cs.length ∧ i = .int .i64 ((k : Int) - 1) ∧ Hid (joinC cs (Utf8.encode r) = joinAt cs (Utf8.encode r) k)) (fun i _ => ((intOf i) + 1).toNat)
  case atStart => exact ⟨rfl, cs.length, Nat.le_refl _, rfl, rfl⟩
  case round =>
    obtain ⟨rfl, k, hk, rfl, hj⟩ := hrel
    cases k with
    | zero =>
      rw [show ((0 : Nat) : Int) - 1 = -1 from rfl]
      have hov : ¬ 9223372036854775807 < 1 + (Utf8.encode r).size := by omega
      go_wp2_with (first
        | (go_at_call 43; refine (ROne_calls _ _).mono ?_; rintro e w5 ⟨rfl, hk5⟩)
        | (at_builtin; refine wpList_append_row rfl _ _ 23 rfl elC _ _ _ rfl ((h0.keeps hk5 (by simp)).keeps ((Keeps.refl [] _).alloc _) (fun _ _ => by simp)) _ 1 1 [.string (⟨#[32]⟩ ++ Utf8.encode r), .int .i64 1, .int .i64 0] rfl rfl (Src.new _ _ _) (by intro u hu; simp at hu; rcases hu with rfl | rfl | rfl <;> rfl) (by unfold maxLen; omega) (by omega) ?_; intro A3 c3 w3 hrow3 hk3 hf3))
      have hz5 := hk5.size
      go_ret
      have hj2 := hj.out
      have hl : (joinC cs (Utf8.encode r)).length = cs.length + 1 := by rw [hj2]; simp [joinAt]
      refine ⟨A3, c3, by rw [hl]; rfl, ?_, (((hk0'.out.trans hk5).alloc _).mono (fun i hi => by simp at hi)).trans hk3, fun k hk => ?_⟩
      · rw [hl, hj2]
        unfold joinAt
        rw [cvs_append]
        exact hrow3
      · rw [hl] at hk
        rcases hf3 k hk with h | h
        · exact .inl h
        · simp at h; exact .inr (by omega)
    | succ k =>
      rw [show ((k + 1 : Nat) : Int) - 1 = (k : Int) by omega]
      obtain ⟨g, off, c', he, _, _, hf, hc, hfz⟩ := h0.cell (i := k * 3) (by rw [cvs_length]; omega)
      cases he
      rw [List.getElem_eq_iff (by rw [cvs_length]; omega) |>.2 (cvs_at cs k (by omega))] at hc
      have h0k : (0 : Int) ≤ k := by omega
      have hset := fun u => cvs_set cs k (by omega) u
      have Hset := Lib.hid hset; clear hset
      have hj2 := hj.out
      unfold joinAt at hj2
      rw [List.getElem?_eq_getElem (by omega : k < cs.length)] at hj2
      simp only at hj2
      clear hj
      obtain ⟨t, ht⟩ : ∃ t, t = cs[k].text := ⟨_, rfl⟩
      rw [← ht] at hc hj2
      have Hj2 := Lib.hid hj2; clear hj2
      have Ht := Lib.hid ht; clear ht
      have hkk := (hk0'.out.mono (fun i hi => by simp at hi) : Keeps (fp (.slice (some ⟨g, off, none⟩) cs.length c)) w wr)
      go_wp2_with fail
      · rename_i he
        have he' : t.toList.isEmpty = true := he
        refine ⟨⟨trivial, k, by omega, rfl, ?_⟩, ?_⟩
        · have := Hj2.out
          rw [if_pos he'] at this
          exact this
        · simp [intOf]
      · rename_i he hs
        go_ret
        have he' : ¬ t.toList.isEmpty = true := by simpa using he
        have hs' : t.size ≤ 32 := by omega
        have hj3 := Hj2.out
        rw [if_neg he', if_pos hs'] at hj3
        have hrow := h0.set (k * 3) (.string (t ++ Utf8.encode r)) (by rw [cvs_length]; omega)
        rw [Hset.out] at hrow
        have hlen : (cs.set k ⟨t ++ Utf8.encode r, cs[k].width⟩).length = cs.length := by simp
        rw [hj3]
        exact ⟨_, c, by rw [hlen]; rfl, by rw [hlen]; exact hrow, hkk.setCell _ _ (.inl (by rw [hf]; simp)), fun j hj => .inl (by rw [hlen] at hj; exact hj)⟩
      · rename_i he hs
        go_ret
        have he' : ¬ t.toList.isEmpty = true := by simpa using he
        have hs' : ¬ t.size ≤ 32 := by omega
        have hj3 := Hj2.out
        rw [if_neg he', if_neg hs'] at hj3
        rw [hj3]
        exact ⟨_, c, rfl, h0, hkk, fun j hj => .inl hj⟩
end Go.Proofs.YtobogbjpdagklaaDoor.Dec
