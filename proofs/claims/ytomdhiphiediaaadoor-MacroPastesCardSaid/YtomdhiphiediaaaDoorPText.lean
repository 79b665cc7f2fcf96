/- bytes.ReplaceAll; macro.Paste.Text. -/
import Derived.Test.YtomdhiphiediaaaDoorRepl
import Derived.Test.YtomdhiphiediaaaDoorPaste
namespace Go.Proofs.YtomdhiphiediaaaDoor.Dec
open Go Go.RowKit Go.Proofs.YtomdhiphiediaaaDoor.Rw

theorem ReplaceAll_calls (w : World) (A B C : Option Addr) (c d e2 : Nat) (s old : List UInt8) (F : List UInt8 → List UInt8) (hM : MaxC w) (hs : Src w A (bs s)) (hold : Src w B (bs old)) (hnew : Src w C (bs [10])) (k : Nat) (hk : old.length = k) (ho2 : k = 1 ∨ k = 2) (hz : A = none → c = 0) (hc : s.length ≤ c) (hcm : c ≤ 9223372036854775807) (hl : s.length ≤ 1048576) (hF : Repl old [10] F) :
    Calls Tryd.prog 29 #[.slice A s.length c, .slice B k d, .slice C 1 e2] w fun e w' => MadeB w w' e (F s) := by
  have hR : Calls Tryd.prog 39 #[.slice A s.length c, .slice B k d, .slice C 1 e2, .int .i64 (-1)] w fun e w' => MadeB w w' e (F s) := by
    by_cases h0 : Lib.count s old = 0
    · subst hk
      exact Replace_none w A B C c d e2 s old F hM hs hold (by omega) (by omega) hz hc hl hF h0
    · exact Replace_some w A B C c d e2 s old F hM hs hold hnew k hk ho2 hz hc hcm hl hF _ rfl (by omega)
  have HR := Lib.hid hR
  clear hR
  go_enter Tryd.func29, Tryd.ntmps29
  go_wp2_with fail
  refine HR.out.mono ?_
  rintro e w1 ⟨A1, c1, rfl, h1, h2, h3⟩
  go_wp2
  go_ret
  exact ⟨A1, c1, rfl, h1, h2, h3⟩
theorem row_nil {w : World} {e : TypeId} {sz n c : Nat} {A : Option Addr} {xs : List Value} (h : Row w e sz (.slice A n c) n xs) : A = none → c = 0 := by
  rintro rfl
  rcases h.2 with ⟨A', hA, _⟩ | ⟨g, off, cap, cur, hv, _⟩
  · injection hA
  · injection hv with hv1; cases hv1
theorem crlf_le : ∀ (n : Nat) (l : List UInt8), l.length ≤ n → (crlf l).length ≤ l.length := fun n l h => by
  have := repl_length repl_crlf (by decide) n l h
  omega
theorem conv2 (w : World) (O : Obj) (C : Array Value) (n c : Nat) : (convert 22 22 (.slice (some ⟨w.heap.size + 1, 0, none⟩) n c)).run Tryd.prog ((w.alloc O).alloc (.cells C 5)) = .ok (.slice (some ⟨w.heap.size + 1, 0, none⟩) n c) ((w.alloc O).alloc (.cells C 5 (C.size, C.size + 1))) := by
  have := Lib.run_convert_bytes_const (P := Tryd.prog) (w.alloc O) 22 5 C n c Tryd.underlying22 Tryd.underlying5
  rw [World.size_alloc] at this
  exact this
theorem src_second (w : World) (O : Obj) (C : Array Value) (f : Nat × Nat) : Src ((w.alloc O).alloc (.cells C 5 f)) (some ⟨w.heap.size + 1, 0, none⟩) C.toList := by
  have := src_newF (w.alloc O) C 5 f
  rw [World.size_alloc] at this
  exact this
set_option maxRecDepth 100000 in
set_option maxHeartbeats 2000000 in
theorem PText_calls (w : World) (hU : UTabs w) (hM : MaxC w) (b : Nat) (F : List Nat) (l : List UInt8) (done : Bool) (h : PAt w b F l done) (hl : l.length ≤ 1048576) :
    Calls Tryd.prog 9 #[.pointer (some ⟨b, 0, none⟩)] w fun e w' => MadeR w w' e (runesOf (crB l)) := by
  have HU := Lib.hid hU
  have HM := Lib.hid hM
  obtain ⟨bv, h, rfl⟩ := h
  have hz := fun A c (e : bv = .slice A l.length c) => row_nil (e ▸ h.row)
  obtain ⟨A, c, rfl, h1, h2, hs, _⟩ := h.row.src
  have hz := hz A c rfl
  have c0 := blk_cell h.blk 0
  have c2 := blk_cell h.blk 2
  unfold maxLen at h2
  have Hs := Lib.hid hs
  have Hz := Lib.hid hz
  have kc := fun (w : World) (C : Array Value) (n c : Nat) => Lib.run_convert_bytes_const (P := Tryd.prog) w 22 5 C n c Tryd.underlying22 Tryd.underlying5
  have kd := conv2
  clear hs hz h hU hM
  rw [show crB l = cr1 (crlf l) from rfl]
  go_enter Tryd.func9, Tryd.ntmps9
  go_wp2_with fail
  have k0 := ((Keeps.refl [] w).alloc (.cells #[.int .u8 13, .int .u8 10] 5 (2, 3))).alloc (.cells #[.int .u8 10] 5 (1, 2))
  refine (ReplaceAll_calls _ A (some ⟨w.heap.size, 0, none⟩) (some ⟨w.heap.size + 1, 0, none⟩) c 2 1 l [13, 10] crlf (HM.out.keeps k0) (Hs.out.keeps k0 (fun _ _ _ => by simp)) ((src_newF w #[.int .u8 13, .int .u8 10] 5 (2, 3)).keeps ((Keeps.refl [] _).alloc _) (fun _ _ _ => by simp)) (src_second w _ #[.int .u8 10] (1, 2)) 2 rfl (.inr rfl) Hz.out h1 h2 hl repl_crlf).mono ?_
  rintro e w1 ⟨A1, c1, rfl, hrow1, hk1, hf1⟩
  have k1 := k0.trans hk1
  have hle := crlf_le _ l (Nat.le_refl _)
  have hcl : (cr1 (crlf l)).length ≤ (crlf l).length := by simp [cr1]
  have hrl := runesOf_length (cr1 (crlf l))
  have hz1 := row_nil hrow1
  obtain ⟨_, _, he, hA1, hA2, hs1, _⟩ := hrow1.src
  cases he
  unfold maxLen at hA2
  have Hs1 := Lib.hid hs1
  have Hz1 := Lib.hid hz1
  clear hs1 hz1 hrow1 hf1
  go_wp2_with fail
  have k2 := ((Keeps.refl [] w1).alloc (.cells #[.int .u8 13] 5 (1, 2))).alloc (.cells #[.int .u8 10] 5 (1, 2))
  refine (ReplaceAll_calls _ A1 (some ⟨w1.heap.size, 0, none⟩) (some ⟨w1.heap.size + 1, 0, none⟩) c1 1 1 (crlf l) [13] cr1 (HM.out.keeps (k1.trans k2)) (Hs1.out.keeps k2 (fun _ _ _ => by simp)) ((src_newF w1 #[.int .u8 13] 5 (1, 2)).keeps ((Keeps.refl [] _).alloc _) (fun _ _ _ => by simp)) (src_second w1 _ #[.int .u8 10] (1, 2)) 1 rfl (.inl rfl) Hz1.out hA1 hA2 (by omega) repl_cr1).mono ?_
  rintro e w3 ⟨A3, c3, rfl, hrow3, hk3, hf3⟩
  have k3 := (k1.trans k2).trans hk3
  obtain ⟨_, _, he, hB1, hB2, hs3, _⟩ := hrow3.src
  cases he
  unfold maxLen at hB2
  go_wp2_with fail
  refine (Runes_calls w3 (UTabs_keeps HU.out k3) A3 c3 (cr1 (crlf l)) hs3 hB1 hB2 (by omega)).mono ?_
  rintro e w4 ⟨A4, c4, rfl, hrow4, hk4, hf4⟩
  have z3 := k3.size
  clear hrow3 hf3 hs3
  go_wp2
  go_ret
  exact ⟨A4, c4, rfl, hrow4, k3.trans hk4, fun k hk => by have := hf4 k hk; omega⟩
end Go.Proofs.YtomdhiphiediaaaDoor.Dec
