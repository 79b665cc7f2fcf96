/- lanyardlaw07.does: the operations that answer a number; all of them. -/
import Derived.Test.YtmnmdpgckefefaaDoorDoes
namespace Go.Proofs.YtmnmdpgckefefaaDoor.Buf
open Go Go.RowKit Go.Proofs.YtmnmdpgckefefaaDoor.Rw Go.Proofs.YtmnmdpgckefefaaDoor.SlR Go.Proofs.YtmnmdpgckefefaaDoor.Words Go.Proofs.YtmnmdpgckefefaaDoor.OpArg
section
variable (w : World) (b r : Nat) (F G : List Nat) (s : BS) (base : Nat)

set_option maxRecDepth 100000 in
set_option maxHeartbeats 4000000 in
theorem does_apply (f t a : Int) (A : Option Addr) (c : Nat) (l : List Int) (Ad : Option Addr) (cd : Nat) (ld : List Int) (Ai : Option Addr) (ci : Nat) (li : List Int) (hb : BAt w b F s) (hr : RAt w r G s) (hFG : ∀ k, k ∈ F → k ∉ G) (hFb : ∀ k, k ∈ F → base ≤ k) (hGb : ∀ k, k ∈ G → base ≤ k) (ho : (OpV.mk 3 f t a A c l Ad cd ld Ai ci li).Ok w) (hlo : Low base (OpV.mk 3 f t a A c l Ad cd ld Ai ci li)) :
    Calls Tryd.prog 48 #[.pointer (some ⟨b, 0, none⟩), .pointer (some ⟨r, 0, none⟩), .agg #[.int .i64 3, .int .i64 f, .int .i64 t, .slice A l.length c, .int .i64 a, .slice Ad ld.length cd, .slice Ai li.length ci]] w (Both w b r F G (s.apply ⟨a, ld, li⟩)) := by
  obtain ⟨_, hf, ht, ha, s0, s1, s2, wt, wd, wi⟩ := ho
  obtain ⟨l0, l1, l2⟩ := hlo
  simp only at hf ht ha s0 s1 s2 wt wd wi l0 l1 l2
  unfold reachBytes at wt wd wi
  have hlt := hb.lt
  have hltr := hr.lt
  have hk0 := (((Keeps.refl [] w).alloc (.cells #[.int .i64 3, .int .i64 f, .int .i64 t, .slice A l.length c, .int .i64 a, .slice Ad ld.length cd, .slice Ai li.length ci] 26)).alloc (.cells #[.int .i64 0, .slice none 0 0, .slice none 0 0] 24)).alloc (.cells #[.int .i64 0, .slice none 0 0, .slice none 0 0] 24)
  have hop := blk_alloc (blk_alloc (blk_new w (.cells #[.int .i64 3, .int .i64 f, .int .i64 t, .slice A l.length c, .int .i64 a, .slice Ad ld.length cd, .slice Ai li.length ci] 26)) (.cells #[.int .i64 0, .slice none 0 0, .slice none 0 0] 24)) (.cells #[.int .i64 0, .slice none 0 0, .slice none 0 0] 24)
  have hx := blk_alloc (blk_new (w.alloc (.cells #[.int .i64 3, .int .i64 f, .int .i64 t, .slice A l.length c, .int .i64 a, .slice Ad ld.length cd, .slice Ai li.length ci] 26)) (.cells #[.int .i64 0, .slice none 0 0, .slice none 0 0] 24)) (.cells #[.int .i64 0, .slice none 0 0, .slice none 0 0] 24)
  have hy := blk_new ((w.alloc (.cells #[.int .i64 3, .int .i64 f, .int .i64 t, .slice A l.length c, .int .i64 a, .slice Ad ld.length cd, .slice Ai li.length ci] 26)).alloc (.cells #[.int .i64 0, .slice none 0 0, .slice none 0 0] 24)) (.cells #[.int .i64 0, .slice none 0 0, .slice none 0 0] 24)
  have e1 : (w.alloc (.cells #[.int .i64 3, .int .i64 f, .int .i64 t, .slice A l.length c, .int .i64 a, .slice Ad ld.length cd, .slice Ai li.length ci] 26)).heap.size = w.heap.size + 1 := by simp
  have e2 : ((w.alloc (.cells #[.int .i64 3, .int .i64 f, .int .i64 t, .slice A l.length c, .int .i64 a, .slice Ad ld.length cd, .slice Ai li.length ci] 26)).alloc (.cells #[.int .i64 0, .slice none 0 0, .slice none 0 0] 24)).heap.size = w.heap.size + 2 := by simp
  rw [e1] at hx
  rw [e2] at hy
  have hz0 : w.heap.size + 3 ≤ (((w.alloc (.cells #[.int .i64 3, .int .i64 f, .int .i64 t, .slice A l.length c, .int .i64 a, .slice Ad ld.length cd, .slice Ai li.length ci] 26)).alloc (.cells #[.int .i64 0, .slice none 0 0, .slice none 0 0] 24)).alloc (.cells #[.int .i64 0, .slice none 0 0, .slice none 0 0] 24)).heap.size := by simp
  clear e1 e2
  go_enter Tryd.func48, Tryd.ntmps48
  go_wp2_with fail
  generalize (((w.alloc (.cells #[.int .i64 3, .int .i64 f, .int .i64 t, .slice A l.length c, .int .i64 a, .slice Ad ld.length cd, .slice Ai li.length ci] 26)).alloc (.cells #[.int .i64 0, .slice none 0 0, .slice none 0 0] 24)).alloc (.cells #[.int .i64 0, .slice none 0 0, .slice none 0 0] 24)) = w0 at *
  have hb0 := hb.keeps hk0 (by simp)
  have hr0 := hr.keeps hk0 (by simp)
  have qo := fun i => blk_cell hop i
  have o0 := qo 0
  have o1 := qo 1
  have o2 := qo 2
  have o3 := qo 3
  have o4 := qo 4
  have o5 := qo 5
  have o6 := qo 6
  clear qo
  obtain ⟨x0, x1, x2, xf0, xf1, xf2⟩ := three hx
  obtain ⟨y0, y1, y2, yf0, yf1, yf2⟩ := three hy
  have nF : ∀ n, w.heap.size ≤ n → n ∉ F := fun n hn hm => by have := hlt n hm; omega
  have nG : ∀ n, w.heap.size ≤ n → n ∉ G := fun n hn hm => by have := hltr n hm; omega
  have hkd := (Keeps.refl [] w0).drew
  have z0 := hk0.size
  have hDa := s1.keeps hk0 (by simp)
  have hDi := s2.keeps hk0 (by simp)
  have hlF1 : ∀ a, Ai = some a → 0 < (ns .i32 li).length → a.block ∉ F := fun a ha h0 hm => by have := hFb _ hm; have := l2 a ha (by rwa [ns_length] at h0); omega
  have hlG1 : ∀ a, Ai = some a → 0 < (ns .i32 li).length → a.block ∉ G := fun a ha h0 hm => by have := hGb _ hm; have := l2 a ha (by rwa [ns_length] at h0); omega
  have hlF0 : ∀ a, Ad = some a → 0 < (ns .i32 ld).length → a.block ∉ F := fun a ha h0 hm => by have := hFb _ hm; have := l1 a ha (by rwa [ns_length] at h0); omega
  have hdm : ld.length ≤ maxLen := by unfold maxLen; omega
  have him : li.length ≤ 70368744177664 := by omega
  go_region_held3 (fun w' => w'.cell? ⟨w.heap.size, 4, none⟩ = some (.int .i64 a) ∧ w'.cell? ⟨w.heap.size, 5, none⟩ = some (.slice Ad ld.length cd) ∧ w'.cell? ⟨w.heap.size, 6, none⟩ = some (.slice Ai li.length ci)) (first | exact ⟨o4, o5, o6⟩ | exact ⟨a4, a5, a6⟩ | exact ⟨b4, b5, b6⟩) (first
    | (go_at_call 69; refine (RfApply_calls w1 r G s Ad Ai cd ci ⟨a, ld, li⟩ hr1 (hDa.keeps hk1 hlF0) (hDi.keeps hk1 hlF1) him hdm hlG1).mono ?_
       rintro e w2 ⟨rfl, hk2, G2, hG2, hr2⟩
       have hop2 := hk2.blk hop1 (nG _ (by omega))
       have hx2 := hk2.blk hx1 (nG _ (by omega))
       have hy2 := hk2.blk hy1 (nG _ (by omega))
       have b1 := blk_cell hop2 1
       have b4 := blk_cell hop2 4
       have b5 := blk_cell hop2 5
       have b6 := blk_cell hop2 6)
    | (go_at_call 24; refine (BApply_calls w0.drew b F s Ad Ai cd ci ⟨a, ld, li⟩ (hb0.keeps hkd (by simp)) ha (hDa.keeps hkd (by simp)) (hDi.keeps hkd (by simp)) him hdm hlF1).mono ?_
       rintro e w1 ⟨rfl, hk1', F1, hF1, hb1⟩
       have hk1 := (hkd.mono (fun _ h => by cases h) : Keeps F w0 w0.drew).trans hk1'
       have hr1 := hr0.keeps hk1 (fun i hi hm => hFG i hm hi)
       have hop1 := hk1.blk hop (nF _ (by omega))
       have hx1 := hk1.blk hx (nF _ (by omega))
       have hy1 := hk1.blk hy (nF _ (by omega))
       have a1 := blk_cell hop1 1
       have a4 := blk_cell hop1 4
       have a5 := blk_cell hop1 5
       have a6 := blk_cell hop1 6))
  have z1 := hk1.size
  have z2 := hk2.size
  have hb2 := hb1.keeps hk2 (fun i hi hm => by
    rcases hF1 i hi with h | h
    · exact hFG i h hm
    · have h9 : w0.heap.size ≤ w0.drew.heap.size := Nat.le_refl _
      have := hltr i hm; omega)
  obtain ⟨x0, x1, x2, xf0, xf1, xf2⟩ := three hx2
  obtain ⟨y0, y1, y2, yf0, yf1, yf2⟩ := three hy2
  have hE := Lib.hid (both_mk hFG hlt hltr hk0 hF1 hk1 hb1 (.inl (Keeps.refl [] w1)) hG2 hk2 hb2 hr2 (.inl (Keeps.refl [] w2)) (W2 := w2) (Keeps.refl [] w2))
  go_wp2_with fail
  refine (SameEdit_true w2 none none none none 0 0 0 0 [] [] 0 (Src.nil _ _) (Src.nil _ _) (Src.nil _ _) (Src.nil _ _) (by simp) (by simp)).mono ?_
  rintro e w6 ⟨rfl, hk6⟩
  go_wp2
  go_ret
  exact both_mk hFG hlt hltr hk0 hF1 hk1 hb1 (.inl (Keeps.refl [] w1)) hG2 hk2 hb2 hr2 (.inl (Keeps.refl [] w2)) hk6

set_option maxRecDepth 100000 in
set_option maxHeartbeats 4000000 in
theorem does_move (f t a : Int) (A : Option Addr) (c : Nat) (l : List Int) (Ad : Option Addr) (cd : Nat) (ld : List Int) (Ai : Option Addr) (ci : Nat) (li : List Int) (hb : BAt w b F s) (hr : RAt w r G s) (hFG : ∀ k, k ∈ F → k ∉ G) (hFb : ∀ k, k ∈ F → base ≤ k) (hGb : ∀ k, k ∈ G → base ≤ k) (ho : (OpV.mk 4 f t a A c l Ad cd ld Ai ci li).Ok w) (hlo : Low base (OpV.mk 4 f t a A c l Ad cd ld Ai ci li)) :
    Calls Tryd.prog 48 #[.pointer (some ⟨b, 0, none⟩), .pointer (some ⟨r, 0, none⟩), .agg #[.int .i64 4, .int .i64 f, .int .i64 t, .slice A l.length c, .int .i64 a, .slice Ad ld.length cd, .slice Ai li.length ci]] w (Both w b r F G (s.move f)) := by
  obtain ⟨_, hf, ht, ha, s0, s1, s2, wt, wd, wi⟩ := ho
  obtain ⟨l0, l1, l2⟩ := hlo
  simp only at hf ht ha s0 s1 s2 wt wd wi l0 l1 l2
  unfold reachBytes at wt wd wi
  have hlt := hb.lt
  have hltr := hr.lt
  have hk0 := (((Keeps.refl [] w).alloc (.cells #[.int .i64 4, .int .i64 f, .int .i64 t, .slice A l.length c, .int .i64 a, .slice Ad ld.length cd, .slice Ai li.length ci] 26)).alloc (.cells #[.int .i64 0, .slice none 0 0, .slice none 0 0] 24)).alloc (.cells #[.int .i64 0, .slice none 0 0, .slice none 0 0] 24)
  have hop := blk_alloc (blk_alloc (blk_new w (.cells #[.int .i64 4, .int .i64 f, .int .i64 t, .slice A l.length c, .int .i64 a, .slice Ad ld.length cd, .slice Ai li.length ci] 26)) (.cells #[.int .i64 0, .slice none 0 0, .slice none 0 0] 24)) (.cells #[.int .i64 0, .slice none 0 0, .slice none 0 0] 24)
  have hx := blk_alloc (blk_new (w.alloc (.cells #[.int .i64 4, .int .i64 f, .int .i64 t, .slice A l.length c, .int .i64 a, .slice Ad ld.length cd, .slice Ai li.length ci] 26)) (.cells #[.int .i64 0, .slice none 0 0, .slice none 0 0] 24)) (.cells #[.int .i64 0, .slice none 0 0, .slice none 0 0] 24)
  have hy := blk_new ((w.alloc (.cells #[.int .i64 4, .int .i64 f, .int .i64 t, .slice A l.length c, .int .i64 a, .slice Ad ld.length cd, .slice Ai li.length ci] 26)).alloc (.cells #[.int .i64 0, .slice none 0 0, .slice none 0 0] 24)) (.cells #[.int .i64 0, .slice none 0 0, .slice none 0 0] 24)
  have e1 : (w.alloc (.cells #[.int .i64 4, .int .i64 f, .int .i64 t, .slice A l.length c, .int .i64 a, .slice Ad ld.length cd, .slice Ai li.length ci] 26)).heap.size = w.heap.size + 1 := by simp
  have e2 : ((w.alloc (.cells #[.int .i64 4, .int .i64 f, .int .i64 t, .slice A l.length c, .int .i64 a, .slice Ad ld.length cd, .slice Ai li.length ci] 26)).alloc (.cells #[.int .i64 0, .slice none 0 0, .slice none 0 0] 24)).heap.size = w.heap.size + 2 := by simp
  rw [e1] at hx
  rw [e2] at hy
  have hz0 : w.heap.size + 3 ≤ (((w.alloc (.cells #[.int .i64 4, .int .i64 f, .int .i64 t, .slice A l.length c, .int .i64 a, .slice Ad ld.length cd, .slice Ai li.length ci] 26)).alloc (.cells #[.int .i64 0, .slice none 0 0, .slice none 0 0] 24)).alloc (.cells #[.int .i64 0, .slice none 0 0, .slice none 0 0] 24)).heap.size := by simp
  clear e1 e2
  go_enter Tryd.func48, Tryd.ntmps48
  go_wp2_with fail
  generalize (((w.alloc (.cells #[.int .i64 4, .int .i64 f, .int .i64 t, .slice A l.length c, .int .i64 a, .slice Ad ld.length cd, .slice Ai li.length ci] 26)).alloc (.cells #[.int .i64 0, .slice none 0 0, .slice none 0 0] 24)).alloc (.cells #[.int .i64 0, .slice none 0 0, .slice none 0 0] 24)) = w0 at *
  have hb0 := hb.keeps hk0 (by simp)
  have hr0 := hr.keeps hk0 (by simp)
  have qo := fun i => blk_cell hop i
  have o0 := qo 0
  have o1 := qo 1
  have o2 := qo 2
  have o3 := qo 3
  have o4 := qo 4
  have o5 := qo 5
  have o6 := qo 6
  clear qo
  obtain ⟨x0, x1, x2, xf0, xf1, xf2⟩ := three hx
  obtain ⟨y0, y1, y2, yf0, yf1, yf2⟩ := three hy
  have nF : ∀ n, w.heap.size ≤ n → n ∉ F := fun n hn hm => by have := hlt n hm; omega
  have nG : ∀ n, w.heap.size ≤ n → n ∉ G := fun n hn hm => by have := hltr n hm; omega
  have hkd := (Keeps.refl [] w0).drew
  have z0 := hk0.size
  have hDa := s1.keeps hk0 (by simp)
  have hDi := s2.keeps hk0 (by simp)
  have hlF1 : ∀ a, Ai = some a → 0 < (ns .i32 li).length → a.block ∉ F := fun a ha h0 hm => by have := hFb _ hm; have := l2 a ha (by rwa [ns_length] at h0); omega
  have hlG1 : ∀ a, Ai = some a → 0 < (ns .i32 li).length → a.block ∉ G := fun a ha h0 hm => by have := hGb _ hm; have := l2 a ha (by rwa [ns_length] at h0); omega
  have hlF0 : ∀ a, Ad = some a → 0 < (ns .i32 ld).length → a.block ∉ F := fun a ha h0 hm => by have := hFb _ hm; have := l1 a ha (by rwa [ns_length] at h0); omega
  have hdm : ld.length ≤ maxLen := by unfold maxLen; omega
  have him : li.length ≤ 70368744177664 := by omega
  go_region_held3 (fun w' => w'.cell? ⟨w.heap.size, 1, none⟩ = some (.int .i64 f)) (first | exact o1 | exact a1 | exact b1) (first
    | (go_at_call 18; refine (RfMove_calls w1 r G s f hr1).mono ?_
       rintro e w2 ⟨rfl, hk2, G2, hG2, hr2⟩
       have hop2 := hk2.blk hop1 (nG _ (by omega))
       have hx2 := hk2.blk hx1 (nG _ (by omega))
       have hy2 := hk2.blk hy1 (nG _ (by omega))
       have b1 := blk_cell hop2 1
       have b4 := blk_cell hop2 4
       have b5 := blk_cell hop2 5
       have b6 := blk_cell hop2 6)
    | (go_at_call 17; refine (BMove_calls w0.drew b F s f (hb0.keeps hkd (by simp)) hf).mono ?_
       rintro e w1 ⟨rfl, hk1', F1, hF1, hb1⟩
       have hk1 := (hkd.mono (fun _ h => by cases h) : Keeps F w0 w0.drew).trans hk1'
       have hr1 := hr0.keeps hk1 (fun i hi hm => hFG i hm hi)
       have hop1 := hk1.blk hop (nF _ (by omega))
       have hx1 := hk1.blk hx (nF _ (by omega))
       have hy1 := hk1.blk hy (nF _ (by omega))
       have a1 := blk_cell hop1 1
       have a4 := blk_cell hop1 4
       have a5 := blk_cell hop1 5
       have a6 := blk_cell hop1 6))
  have z1 := hk1.size
  have z2 := hk2.size
  have hb2 := hb1.keeps hk2 (fun i hi hm => by
    rcases hF1 i hi with h | h
    · exact hFG i h hm
    · have h9 : w0.heap.size ≤ w0.drew.heap.size := Nat.le_refl _
      have := hltr i hm; omega)
  obtain ⟨x0, x1, x2, xf0, xf1, xf2⟩ := three hx2
  obtain ⟨y0, y1, y2, yf0, yf1, yf2⟩ := three hy2
  have hE := Lib.hid (both_mk hFG hlt hltr hk0 hF1 hk1 hb1 (.inl (Keeps.refl [] w1)) hG2 hk2 hb2 hr2 (.inl (Keeps.refl [] w2)) (W2 := w2) (Keeps.refl [] w2))
  go_wp2_with fail
  refine (SameEdit_true w2 none none none none 0 0 0 0 [] [] 0 (Src.nil _ _) (Src.nil _ _) (Src.nil _ _) (Src.nil _ _) (by simp) (by simp)).mono ?_
  rintro e w6 ⟨rfl, hk6⟩
  go_wp2
  go_ret
  exact both_mk hFG hlt hltr hk0 hF1 hk1 hb1 (.inl (Keeps.refl [] w1)) hG2 hk2 hb2 hr2 (.inl (Keeps.refl [] w2)) hk6

set_option maxRecDepth 100000 in
set_option maxHeartbeats 4000000 in
theorem does_mark (f t a : Int) (A : Option Addr) (c : Nat) (l : List Int) (Ad : Option Addr) (cd : Nat) (ld : List Int) (Ai : Option Addr) (ci : Nat) (li : List Int) (hb : BAt w b F s) (hr : RAt w r G s) (hFG : ∀ k, k ∈ F → k ∉ G) (hFb : ∀ k, k ∈ F → base ≤ k) (hGb : ∀ k, k ∈ G → base ≤ k) (ho : (OpV.mk 5 f t a A c l Ad cd ld Ai ci li).Ok w) (hlo : Low base (OpV.mk 5 f t a A c l Ad cd ld Ai ci li)) :
    Calls Tryd.prog 48 #[.pointer (some ⟨b, 0, none⟩), .pointer (some ⟨r, 0, none⟩), .agg #[.int .i64 5, .int .i64 f, .int .i64 t, .slice A l.length c, .int .i64 a, .slice Ad ld.length cd, .slice Ai li.length ci]] w (Both w b r F G (s.setMark f)) := by
  obtain ⟨_, hf, ht, ha, s0, s1, s2, wt, wd, wi⟩ := ho
  obtain ⟨l0, l1, l2⟩ := hlo
  simp only at hf ht ha s0 s1 s2 wt wd wi l0 l1 l2
  unfold reachBytes at wt wd wi
  have hlt := hb.lt
  have hltr := hr.lt
  have hk0 := (((Keeps.refl [] w).alloc (.cells #[.int .i64 5, .int .i64 f, .int .i64 t, .slice A l.length c, .int .i64 a, .slice Ad ld.length cd, .slice Ai li.length ci] 26)).alloc (.cells #[.int .i64 0, .slice none 0 0, .slice none 0 0] 24)).alloc (.cells #[.int .i64 0, .slice none 0 0, .slice none 0 0] 24)
  have hop := blk_alloc (blk_alloc (blk_new w (.cells #[.int .i64 5, .int .i64 f, .int .i64 t, .slice A l.length c, .int .i64 a, .slice Ad ld.length cd, .slice Ai li.length ci] 26)) (.cells #[.int .i64 0, .slice none 0 0, .slice none 0 0] 24)) (.cells #[.int .i64 0, .slice none 0 0, .slice none 0 0] 24)
  have hx := blk_alloc (blk_new (w.alloc (.cells #[.int .i64 5, .int .i64 f, .int .i64 t, .slice A l.length c, .int .i64 a, .slice Ad ld.length cd, .slice Ai li.length ci] 26)) (.cells #[.int .i64 0, .slice none 0 0, .slice none 0 0] 24)) (.cells #[.int .i64 0, .slice none 0 0, .slice none 0 0] 24)
  have hy := blk_new ((w.alloc (.cells #[.int .i64 5, .int .i64 f, .int .i64 t, .slice A l.length c, .int .i64 a, .slice Ad ld.length cd, .slice Ai li.length ci] 26)).alloc (.cells #[.int .i64 0, .slice none 0 0, .slice none 0 0] 24)) (.cells #[.int .i64 0, .slice none 0 0, .slice none 0 0] 24)
  have e1 : (w.alloc (.cells #[.int .i64 5, .int .i64 f, .int .i64 t, .slice A l.length c, .int .i64 a, .slice Ad ld.length cd, .slice Ai li.length ci] 26)).heap.size = w.heap.size + 1 := by simp
  have e2 : ((w.alloc (.cells #[.int .i64 5, .int .i64 f, .int .i64 t, .slice A l.length c, .int .i64 a, .slice Ad ld.length cd, .slice Ai li.length ci] 26)).alloc (.cells #[.int .i64 0, .slice none 0 0, .slice none 0 0] 24)).heap.size = w.heap.size + 2 := by simp
  rw [e1] at hx
  rw [e2] at hy
  have hz0 : w.heap.size + 3 ≤ (((w.alloc (.cells #[.int .i64 5, .int .i64 f, .int .i64 t, .slice A l.length c, .int .i64 a, .slice Ad ld.length cd, .slice Ai li.length ci] 26)).alloc (.cells #[.int .i64 0, .slice none 0 0, .slice none 0 0] 24)).alloc (.cells #[.int .i64 0, .slice none 0 0, .slice none 0 0] 24)).heap.size := by simp
  clear e1 e2
  go_enter Tryd.func48, Tryd.ntmps48
  go_wp2_with fail
  generalize (((w.alloc (.cells #[.int .i64 5, .int .i64 f, .int .i64 t, .slice A l.length c, .int .i64 a, .slice Ad ld.length cd, .slice Ai li.length ci] 26)).alloc (.cells #[.int .i64 0, .slice none 0 0, .slice none 0 0] 24)).alloc (.cells #[.int .i64 0, .slice none 0 0, .slice none 0 0] 24)) = w0 at *
  have hb0 := hb.keeps hk0 (by simp)
  have hr0 := hr.keeps hk0 (by simp)
  have qo := fun i => blk_cell hop i
  have o0 := qo 0
  have o1 := qo 1
  have o2 := qo 2
  have o3 := qo 3
  have o4 := qo 4
  have o5 := qo 5
  have o6 := qo 6
  clear qo
  obtain ⟨x0, x1, x2, xf0, xf1, xf2⟩ := three hx
  obtain ⟨y0, y1, y2, yf0, yf1, yf2⟩ := three hy
  have nF : ∀ n, w.heap.size ≤ n → n ∉ F := fun n hn hm => by have := hlt n hm; omega
  have nG : ∀ n, w.heap.size ≤ n → n ∉ G := fun n hn hm => by have := hltr n hm; omega
  have hkd := (Keeps.refl [] w0).drew
  have z0 := hk0.size
  have hDa := s1.keeps hk0 (by simp)
  have hDi := s2.keeps hk0 (by simp)
  have hlF1 : ∀ a, Ai = some a → 0 < (ns .i32 li).length → a.block ∉ F := fun a ha h0 hm => by have := hFb _ hm; have := l2 a ha (by rwa [ns_length] at h0); omega
  have hlG1 : ∀ a, Ai = some a → 0 < (ns .i32 li).length → a.block ∉ G := fun a ha h0 hm => by have := hGb _ hm; have := l2 a ha (by rwa [ns_length] at h0); omega
  have hlF0 : ∀ a, Ad = some a → 0 < (ns .i32 ld).length → a.block ∉ F := fun a ha h0 hm => by have := hFb _ hm; have := l1 a ha (by rwa [ns_length] at h0); omega
  have hdm : ld.length ≤ maxLen := by unfold maxLen; omega
  have him : li.length ≤ 70368744177664 := by omega
  go_region_held3 (fun w' => w'.cell? ⟨w.heap.size, 1, none⟩ = some (.int .i64 f)) (first | exact o1 | exact a1 | exact b1) (first
    | (go_at_call 70; refine (RfSetMark_calls w1 r G s f hr1 hf).mono ?_
       rintro e w2 ⟨rfl, hk2, G2, hG2, hr2⟩
       have hop2 := hk2.blk hop1 (nG _ (by omega))
       have hx2 := hk2.blk hx1 (nG _ (by omega))
       have hy2 := hk2.blk hy1 (nG _ (by omega))
       have b1 := blk_cell hop2 1
       have b4 := blk_cell hop2 4
       have b5 := blk_cell hop2 5
       have b6 := blk_cell hop2 6)
    | (go_at_call 42; refine (BSetMark_calls w0.drew b F s f (hb0.keeps hkd (by simp)) hf).mono ?_
       rintro e w1 ⟨rfl, hk1', F1, hF1, hb1⟩
       have hk1 := (hkd.mono (fun _ h => by cases h) : Keeps F w0 w0.drew).trans hk1'
       have hr1 := hr0.keeps hk1 (fun i hi hm => hFG i hm hi)
       have hop1 := hk1.blk hop (nF _ (by omega))
       have hx1 := hk1.blk hx (nF _ (by omega))
       have hy1 := hk1.blk hy (nF _ (by omega))
       have a1 := blk_cell hop1 1
       have a4 := blk_cell hop1 4
       have a5 := blk_cell hop1 5
       have a6 := blk_cell hop1 6))
  have z1 := hk1.size
  have z2 := hk2.size
  have hb2 := hb1.keeps hk2 (fun i hi hm => by
    rcases hF1 i hi with h | h
    · exact hFG i h hm
    · have h9 : w0.heap.size ≤ w0.drew.heap.size := Nat.le_refl _
      have := hltr i hm; omega)
  obtain ⟨x0, x1, x2, xf0, xf1, xf2⟩ := three hx2
  obtain ⟨y0, y1, y2, yf0, yf1, yf2⟩ := three hy2
  have hE := Lib.hid (both_mk hFG hlt hltr hk0 hF1 hk1 hb1 (.inl (Keeps.refl [] w1)) hG2 hk2 hb2 hr2 (.inl (Keeps.refl [] w2)) (W2 := w2) (Keeps.refl [] w2))
  go_wp2_with fail
  refine (SameEdit_true w2 none none none none 0 0 0 0 [] [] 0 (Src.nil _ _) (Src.nil _ _) (Src.nil _ _) (Src.nil _ _) (by simp) (by simp)).mono ?_
  rintro e w6 ⟨rfl, hk6⟩
  go_wp2
  go_ret
  exact both_mk hFG hlt hltr hk0 hF1 hk1 hb1 (.inl (Keeps.refl [] w1)) hG2 hk2 hb2 hr2 (.inl (Keeps.refl [] w2)) hk6

set_option maxRecDepth 100000 in
set_option maxHeartbeats 4000000 in
theorem does_swap (f t a : Int) (A : Option Addr) (c : Nat) (l : List Int) (Ad : Option Addr) (cd : Nat) (ld : List Int) (Ai : Option Addr) (ci : Nat) (li : List Int) (hb : BAt w b F s) (hr : RAt w r G s) (hFG : ∀ k, k ∈ F → k ∉ G) (hFb : ∀ k, k ∈ F → base ≤ k) (hGb : ∀ k, k ∈ G → base ≤ k) (ho : (OpV.mk 6 f t a A c l Ad cd ld Ai ci li).Ok w) (hlo : Low base (OpV.mk 6 f t a A c l Ad cd ld Ai ci li)) :
    Calls Tryd.prog 48 #[.pointer (some ⟨b, 0, none⟩), .pointer (some ⟨r, 0, none⟩), .agg #[.int .i64 6, .int .i64 f, .int .i64 t, .slice A l.length c, .int .i64 a, .slice Ad ld.length cd, .slice Ai li.length ci]] w (Both w b r F G (s.swap)) := by
  obtain ⟨_, hf, ht, ha, s0, s1, s2, wt, wd, wi⟩ := ho
  obtain ⟨l0, l1, l2⟩ := hlo
  simp only at hf ht ha s0 s1 s2 wt wd wi l0 l1 l2
  unfold reachBytes at wt wd wi
  have hlt := hb.lt
  have hltr := hr.lt
  have hk0 := (((Keeps.refl [] w).alloc (.cells #[.int .i64 6, .int .i64 f, .int .i64 t, .slice A l.length c, .int .i64 a, .slice Ad ld.length cd, .slice Ai li.length ci] 26)).alloc (.cells #[.int .i64 0, .slice none 0 0, .slice none 0 0] 24)).alloc (.cells #[.int .i64 0, .slice none 0 0, .slice none 0 0] 24)
  have hop := blk_alloc (blk_alloc (blk_new w (.cells #[.int .i64 6, .int .i64 f, .int .i64 t, .slice A l.length c, .int .i64 a, .slice Ad ld.length cd, .slice Ai li.length ci] 26)) (.cells #[.int .i64 0, .slice none 0 0, .slice none 0 0] 24)) (.cells #[.int .i64 0, .slice none 0 0, .slice none 0 0] 24)
  have hx := blk_alloc (blk_new (w.alloc (.cells #[.int .i64 6, .int .i64 f, .int .i64 t, .slice A l.length c, .int .i64 a, .slice Ad ld.length cd, .slice Ai li.length ci] 26)) (.cells #[.int .i64 0, .slice none 0 0, .slice none 0 0] 24)) (.cells #[.int .i64 0, .slice none 0 0, .slice none 0 0] 24)
  have hy := blk_new ((w.alloc (.cells #[.int .i64 6, .int .i64 f, .int .i64 t, .slice A l.length c, .int .i64 a, .slice Ad ld.length cd, .slice Ai li.length ci] 26)).alloc (.cells #[.int .i64 0, .slice none 0 0, .slice none 0 0] 24)) (.cells #[.int .i64 0, .slice none 0 0, .slice none 0 0] 24)
  have e1 : (w.alloc (.cells #[.int .i64 6, .int .i64 f, .int .i64 t, .slice A l.length c, .int .i64 a, .slice Ad ld.length cd, .slice Ai li.length ci] 26)).heap.size = w.heap.size + 1 := by simp
  have e2 : ((w.alloc (.cells #[.int .i64 6, .int .i64 f, .int .i64 t, .slice A l.length c, .int .i64 a, .slice Ad ld.length cd, .slice Ai li.length ci] 26)).alloc (.cells #[.int .i64 0, .slice none 0 0, .slice none 0 0] 24)).heap.size = w.heap.size + 2 := by simp
  rw [e1] at hx
  rw [e2] at hy
  have hz0 : w.heap.size + 3 ≤ (((w.alloc (.cells #[.int .i64 6, .int .i64 f, .int .i64 t, .slice A l.length c, .int .i64 a, .slice Ad ld.length cd, .slice Ai li.length ci] 26)).alloc (.cells #[.int .i64 0, .slice none 0 0, .slice none 0 0] 24)).alloc (.cells #[.int .i64 0, .slice none 0 0, .slice none 0 0] 24)).heap.size := by simp
  clear e1 e2
  go_enter Tryd.func48, Tryd.ntmps48
  go_wp2_with fail
  generalize (((w.alloc (.cells #[.int .i64 6, .int .i64 f, .int .i64 t, .slice A l.length c, .int .i64 a, .slice Ad ld.length cd, .slice Ai li.length ci] 26)).alloc (.cells #[.int .i64 0, .slice none 0 0, .slice none 0 0] 24)).alloc (.cells #[.int .i64 0, .slice none 0 0, .slice none 0 0] 24)) = w0 at *
  have hb0 := hb.keeps hk0 (by simp)
  have hr0 := hr.keeps hk0 (by simp)
  have qo := fun i => blk_cell hop i
  have o0 := qo 0
  have o1 := qo 1
  have o2 := qo 2
  have o3 := qo 3
  have o4 := qo 4
  have o5 := qo 5
  have o6 := qo 6
  clear qo
  obtain ⟨x0, x1, x2, xf0, xf1, xf2⟩ := three hx
  obtain ⟨y0, y1, y2, yf0, yf1, yf2⟩ := three hy
  have nF : ∀ n, w.heap.size ≤ n → n ∉ F := fun n hn hm => by have := hlt n hm; omega
  have nG : ∀ n, w.heap.size ≤ n → n ∉ G := fun n hn hm => by have := hltr n hm; omega
  have hkd := (Keeps.refl [] w0).drew
  have z0 := hk0.size
  have hDa := s1.keeps hk0 (by simp)
  have hDi := s2.keeps hk0 (by simp)
  have hlF1 : ∀ a, Ai = some a → 0 < (ns .i32 li).length → a.block ∉ F := fun a ha h0 hm => by have := hFb _ hm; have := l2 a ha (by rwa [ns_length] at h0); omega
  have hlG1 : ∀ a, Ai = some a → 0 < (ns .i32 li).length → a.block ∉ G := fun a ha h0 hm => by have := hGb _ hm; have := l2 a ha (by rwa [ns_length] at h0); omega
  have hlF0 : ∀ a, Ad = some a → 0 < (ns .i32 ld).length → a.block ∉ F := fun a ha h0 hm => by have := hFb _ hm; have := l1 a ha (by rwa [ns_length] at h0); omega
  have hdm : ld.length ≤ maxLen := by unfold maxLen; omega
  have him : li.length ≤ 70368744177664 := by omega
  refine (BSwap_calls w0 b F s hb0).mono ?_
  rintro e w1 ⟨rfl, hk1, F1, hF1, hb1⟩
  have hr1 := hr0.keeps hk1 (fun i hi hm => hFG i hm hi)
  have hx1 := hk1.blk hx (nF _ (by omega))
  have hy1 := hk1.blk hy (nF _ (by omega))
  go_wp2_with fail
  refine (RfSwap_calls w1 r G s hr1).mono ?_
  rintro e w2 ⟨rfl, hk2, G2, hG2, hr2⟩
  have hx2 := hk2.blk hx1 (nG _ (by omega))
  have hy2 := hk2.blk hy1 (nG _ (by omega))
  have z1 := hk1.size
  have z2 := hk2.size
  have hb2 := hb1.keeps hk2 (fun i hi hm => by
    rcases hF1 i hi with h | h
    · exact hFG i h hm
    · have h9 : w0.heap.size ≤ w0.drew.heap.size := Nat.le_refl _
      have := hltr i hm; omega)
  obtain ⟨x0, x1, x2, xf0, xf1, xf2⟩ := three hx2
  obtain ⟨y0, y1, y2, yf0, yf1, yf2⟩ := three hy2
  have hE := Lib.hid (both_mk hFG hlt hltr hk0 hF1 hk1 hb1 (.inl (Keeps.refl [] w1)) hG2 hk2 hb2 hr2 (.inl (Keeps.refl [] w2)) (W2 := w2) (Keeps.refl [] w2))
  go_wp2_with fail
  refine (SameEdit_true w2 none none none none 0 0 0 0 [] [] 0 (Src.nil _ _) (Src.nil _ _) (Src.nil _ _) (Src.nil _ _) (by simp) (by simp)).mono ?_
  rintro e w6 ⟨rfl, hk6⟩
  go_wp2
  go_ret
  exact both_mk hFG hlt hltr hk0 hF1 hk1 hb1 (.inl (Keeps.refl [] w1)) hG2 hk2 hb2 hr2 (.inl (Keeps.refl [] w2)) hk6

set_option maxRecDepth 100000 in
set_option maxHeartbeats 4000000 in
theorem does_other (kd : Int) (n0 : kd ≠ 0) (n1 : kd ≠ 1) (n2 : kd ≠ 2) (n3 : kd ≠ 3) (n4 : kd ≠ 4) (n5 : kd ≠ 5) (n6 : kd ≠ 6) (f t a : Int) (A : Option Addr) (c : Nat) (l : List Int) (Ad : Option Addr) (cd : Nat) (ld : List Int) (Ai : Option Addr) (ci : Nat) (li : List Int) (hb : BAt w b F s) (hr : RAt w r G s) (hFG : ∀ k, k ∈ F → k ∉ G) (_hFb : ∀ k, k ∈ F → base ≤ k) (_hGb : ∀ k, k ∈ G → base ≤ k) (ho : (OpV.mk kd f t a A c l Ad cd ld Ai ci li).Ok w) (hlo : Low base (OpV.mk kd f t a A c l Ad cd ld Ai ci li)) :
    Calls Tryd.prog 48 #[.pointer (some ⟨b, 0, none⟩), .pointer (some ⟨r, 0, none⟩), .agg #[.int .i64 kd, .int .i64 f, .int .i64 t, .slice A l.length c, .int .i64 a, .slice Ad ld.length cd, .slice Ai li.length ci]] w (Both w b r F G (s)) := by
  obtain ⟨_, hf, ht, ha, s0, s1, s2, wt, wd, wi⟩ := ho
  obtain ⟨l0, l1, l2⟩ := hlo
  simp only at hf ht ha s0 s1 s2 wt wd wi l0 l1 l2
  unfold reachBytes at wt wd wi
  have hlt := hb.lt
  have hltr := hr.lt
  have hk0 := (((Keeps.refl [] w).alloc (.cells #[.int .i64 kd, .int .i64 f, .int .i64 t, .slice A l.length c, .int .i64 a, .slice Ad ld.length cd, .slice Ai li.length ci] 26)).alloc (.cells #[.int .i64 0, .slice none 0 0, .slice none 0 0] 24)).alloc (.cells #[.int .i64 0, .slice none 0 0, .slice none 0 0] 24)
  have hop := blk_alloc (blk_alloc (blk_new w (.cells #[.int .i64 kd, .int .i64 f, .int .i64 t, .slice A l.length c, .int .i64 a, .slice Ad ld.length cd, .slice Ai li.length ci] 26)) (.cells #[.int .i64 0, .slice none 0 0, .slice none 0 0] 24)) (.cells #[.int .i64 0, .slice none 0 0, .slice none 0 0] 24)
  have hx := blk_alloc (blk_new (w.alloc (.cells #[.int .i64 kd, .int .i64 f, .int .i64 t, .slice A l.length c, .int .i64 a, .slice Ad ld.length cd, .slice Ai li.length ci] 26)) (.cells #[.int .i64 0, .slice none 0 0, .slice none 0 0] 24)) (.cells #[.int .i64 0, .slice none 0 0, .slice none 0 0] 24)
  have hy := blk_new ((w.alloc (.cells #[.int .i64 kd, .int .i64 f, .int .i64 t, .slice A l.length c, .int .i64 a, .slice Ad ld.length cd, .slice Ai li.length ci] 26)).alloc (.cells #[.int .i64 0, .slice none 0 0, .slice none 0 0] 24)) (.cells #[.int .i64 0, .slice none 0 0, .slice none 0 0] 24)
  have e1 : (w.alloc (.cells #[.int .i64 kd, .int .i64 f, .int .i64 t, .slice A l.length c, .int .i64 a, .slice Ad ld.length cd, .slice Ai li.length ci] 26)).heap.size = w.heap.size + 1 := by simp
  have e2 : ((w.alloc (.cells #[.int .i64 kd, .int .i64 f, .int .i64 t, .slice A l.length c, .int .i64 a, .slice Ad ld.length cd, .slice Ai li.length ci] 26)).alloc (.cells #[.int .i64 0, .slice none 0 0, .slice none 0 0] 24)).heap.size = w.heap.size + 2 := by simp
  rw [e1] at hx
  rw [e2] at hy
  have hz0 : w.heap.size + 3 ≤ (((w.alloc (.cells #[.int .i64 kd, .int .i64 f, .int .i64 t, .slice A l.length c, .int .i64 a, .slice Ad ld.length cd, .slice Ai li.length ci] 26)).alloc (.cells #[.int .i64 0, .slice none 0 0, .slice none 0 0] 24)).alloc (.cells #[.int .i64 0, .slice none 0 0, .slice none 0 0] 24)).heap.size := by simp
  clear e1 e2
  go_enter Tryd.func48, Tryd.ntmps48
  go_wp2_with fail
  generalize (((w.alloc (.cells #[.int .i64 kd, .int .i64 f, .int .i64 t, .slice A l.length c, .int .i64 a, .slice Ad ld.length cd, .slice Ai li.length ci] 26)).alloc (.cells #[.int .i64 0, .slice none 0 0, .slice none 0 0] 24)).alloc (.cells #[.int .i64 0, .slice none 0 0, .slice none 0 0] 24)) = w0 at *
  have hb0 := hb.keeps hk0 (by simp)
  have hr0 := hr.keeps hk0 (by simp)
  have qo := fun i => blk_cell hop i
  have o0 := qo 0
  have o1 := qo 1
  have o2 := qo 2
  have o3 := qo 3
  have o4 := qo 4
  have o5 := qo 5
  have o6 := qo 6
  clear qo
  obtain ⟨x0, x1, x2, xf0, xf1, xf2⟩ := three hx
  obtain ⟨y0, y1, y2, yf0, yf1, yf2⟩ := three hy
  refine (SameEdit_true w0 none none none none 0 0 0 0 [] [] 0 (Src.nil _ _) (Src.nil _ _) (Src.nil _ _) (Src.nil _ _) (by simp) (by simp)).mono ?_
  rintro e w6 ⟨rfl, hk6⟩
  go_wp2
  go_ret
  exact both_mk hFG hlt hltr hk0 (fun k hk => .inl hk) (Keeps.refl F w0) hb0 (.inl (Keeps.refl [] w0)) (fun k hk => .inl hk) (Keeps.refl G w0) hb0 hr0 (.inl (Keeps.refl [] w0)) hk6

theorem does_calls (o : OpV) (hb : BAt w b F s) (hr : RAt w r G s) (hFG : ∀ k, k ∈ F → k ∉ G) (hFb : ∀ k, k ∈ F → base ≤ k) (hGb : ∀ k, k ∈ G → base ≤ k) (ho : o.Ok w) (hlo : Low base o) :
    Calls Tryd.prog 48 #[.pointer (some ⟨b, 0, none⟩), .pointer (some ⟨r, 0, none⟩), o.v] w (Both w b r F G (s.step o)) := by
  obtain ⟨kd, f, t, a, A, c, l, Ad, cd, ld, Ai, ci, li⟩ := o
  by_cases h0 : kd = 0
  · subst h0; exact does_insert w b r F G s base f t a A c l Ad cd ld Ai ci li hb hr hFG hFb hGb ho hlo
  by_cases h1 : kd = 1
  · subst h1; exact does_delete w b r F G s base f t a A c l Ad cd ld Ai ci li hb hr hFG hFb hGb ho hlo
  by_cases h2 : kd = 2
  · subst h2; exact does_replace w b r F G s base f t a A c l Ad cd ld Ai ci li hb hr hFG hFb hGb ho hlo
  by_cases h3 : kd = 3
  · subst h3; exact does_apply w b r F G s base f t a A c l Ad cd ld Ai ci li hb hr hFG hFb hGb ho hlo
  by_cases h4 : kd = 4
  · subst h4; exact does_move w b r F G s base f t a A c l Ad cd ld Ai ci li hb hr hFG hFb hGb ho hlo
  by_cases h5 : kd = 5
  · subst h5; exact does_mark w b r F G s base f t a A c l Ad cd ld Ai ci li hb hr hFG hFb hGb ho hlo
  by_cases h6 : kd = 6
  · subst h6; exact does_swap w b r F G s base f t a A c l Ad cd ld Ai ci li hb hr hFG hFb hGb ho hlo
  have e : s.step ⟨kd, f, t, a, A, c, l, Ad, cd, ld, Ai, ci, li⟩ = s := by simp only [BS.step]; rw [if_neg h0, if_neg h1, if_neg h2, if_neg h3, if_neg h4, if_neg h5, if_neg h6]
  rw [e]
  exact does_other w b r F G s base kd h0 h1 h2 h3 h4 h5 h6 f t a A c l Ad cd ld Ai ci li hb hr hFG hFb hGb ho hlo
end
end Go.Proofs.YtmnmdpgckefefaaDoor.Buf
