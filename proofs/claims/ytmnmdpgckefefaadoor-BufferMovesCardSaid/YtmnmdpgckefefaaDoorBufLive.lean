/- lanyardlaw07.live. -/
import Derived.Test.YtmnmdpgckefefaaDoorBufNew
import Derived.Test.YtmnmdpgckefefaaDoorWords
namespace Go.Proofs.YtmnmdpgckefefaaDoor.Buf
open Go Go.RowKit Go.Proofs.YtmnmdpgckefefaaDoor.Rw Go.Proofs.YtmnmdpgckefefaaDoor.SlR Go.Proofs.YtmnmdpgckefefaaDoor.Words

def foobar : List Int := [102, 111, 111, 32, 32, 98, 97, 114]
theorem runesOf_conv (w : World) (s : ByteArray) (l : List Int) (hl : l.length ≤ 1024) (hr : Conv.runesFrom s s.size 0 #[] = (ns .i32 l).toArray) : ∃ c w1, (convert 9 22 (.string s)).run Tryd.prog w = .ok (.slice (some ⟨w.heap.size, 0, none⟩) l.length c) w1 ∧ Src w1 (some ⟨w.heap.size, 0, none⟩) (ns .i32 l) ∧ Keeps [] w w1 := by
  have h := run_runes_of_string (P := Tryd.prog) w 9 22 21 s (by kernel_rfl) (by kernel_rfl) (by kernel_rfl) (by rw [hr]; simp [ns_length]; omega)
  have hz : (ns .i32 l).toArray.size = l.length := by simp [ns_length]
  rw [hr, hz] at h
  refine ⟨grownCap w l.length 0 21, _, h, ?_, ((Keeps.refl [] w).drew).alloc _⟩
  have h2 := (Src.new w.drew ((ns .i32 l).toArray ++ Array.replicate (grownCap w l.length 0 21 - l.length) (.int .i32 0)) 21).take l.length
  simp only [Array.toList_append, List.take_append_of_le_length (show l.length ≤ (ns .i32 l).toArray.toList.length by simp [ns_length])] at h2
  rw [List.take_of_length_le (by simp [ns_length])] at h2
  exact h2
theorem runesOf_calls (w : World) (s : ByteArray) (l : List Int) (hl : l.length ≤ 1024) (hr : Conv.runesFrom s s.size 0 #[] = (ns .i32 l).toArray) : Calls Tryd.prog 50 #[.string s] w fun e w' => ∃ A c, e = .returned (.slice A l.length c) ∧ Src w' A (ns .i32 l) ∧ Keeps [] w w' := by
  obtain ⟨c, w1, hconv, hsrc, hk⟩ := runesOf_conv w s l hl hr
  go_enter Tryd.func50, Tryd.ntmps50
  go_wp2
  go_ret
  exact ⟨_, _, rfl, hsrc, hk⟩
theorem foobar_runes : Conv.runesFrom { data := #[102, 111, 111, 32, 32, 98, 97, 114] } (ByteArray.size { data := #[102, 111, 111, 32, 32, 98, 97, 114] }) 0 #[] = (ns .i32 foobar).toArray := by kernel_rfl

set_option maxRecDepth 100000 in
theorem live07_calls (w : World) : Calls Tryd.prog 12 #[] w fun e w' => e = .returned (.bool true) ∧ Keeps [] w w' := by
  go_enter Tryd.func12, Tryd.ntmps12
  go_wp2_with fail
  refine (New_ok _ _ 2 [97, 98] (Src.new w #[.int .i32 97, .int .i32 98] 21) (by decide)).mono ?_
  rintro e w1 ⟨b, F, rfl, hb, hk1, hF⟩
  have hkw1 := ((Keeps.refl [] w).alloc (.cells #[.int .i32 97, .int .i32 98] 21)).trans hk1
  have hlt := hb.lt
  go_wp2_with fail
  have hk2 := (Keeps.refl [] w1).alloc (.cells #[.int .i32 99] 21)
  refine (BInsert_ok _ b F _ 2 rfl _ 1 [99] (hb.keeps hk2 (by simp)) (by decide) (Src.new w1 #[.int .i32 99] 21) (fun a ha _ hh => by cases ha; have := hlt _ hh; simp at this)).mono ?_
  rintro e w3 ⟨Ad, cd, Ai, ci, rfl, hd, hi, hk3, F', hF', hb', _, _⟩
  have hkw3 : Keeps [] w w3 := (hkw1.trans hk2).then hk3 (fun i hi => .inr (by have := hF i hi; have := hkw1.size; simp at *; omega))
  have hspl : BS.splice ⟨[97, 98], 2, -1⟩ 2 2 [99] = ⟨[97, 98, 99], 3, -1⟩ := by simp [BS.splice, moved, markMoved]
  rw [show ((([97, 98] : List Int).length : Nat) : Int) = 2 from rfl, hspl] at hb'
  have hk4 := (Keeps.refl [] w3).alloc (.cells #[.int .i64 2, .slice Ad 0 cd, .slice Ai 1 ci] 24)
  have hb4 := hb'.keeps hk4 (by simp)
  have hkw4 := hkw3.trans hk4
  have he4 := blk_new w3 (.cells #[.int .i64 2, .slice Ad 0 cd, .slice Ai 1 ci] 24)
  obtain ⟨e0, e1, e2, _⟩ := three he4
  go_wp2_with fail
  generalize w3.alloc (.cells #[.int .i64 2, .slice Ad 0 cd, .slice Ai 1 ci] 24) = w4 at *
  refine (BLen_calls _ b F' _ hb4).mono ?_
  rintro e w5 ⟨rfl, hk5⟩
  have hb5 := hb4.keeps hk5 (by simp)
  have hkw5 := hkw4.trans hk5
  have e05 := hk5.cell e0 (by simp)
  go_wp2_with fail
  refine (BPoint_calls _ b F' _ hb5).mono ?_
  rintro e w' ⟨rfl, rfl⟩
  go_wp2_with fail
  refine (BMark_calls _ b F' _ hb5).mono ?_
  rintro e w' ⟨rfl, rfl⟩
  go_wp2_with fail
  refine (runesOf_calls w5 _ foobar (by decide) foobar_runes).mono ?_
  rintro e w6 ⟨A6, c6, rfl, hs6, hk6⟩
  go_wp2_with fail
  refine (WordEnd_calls w6 A6 8 c6 3 _ small _ foobar letter_yes trivial hs6 rfl (by decide) (by decide) (by decide)).mono ?_
  rintro e w7 ⟨rfl, hk7⟩
  rw [show overN small foobar (overN (fun r => !small r) foobar 3) = 8 by decide]
  have hkf := (hkw5.trans hk6).trans hk7
  go_wp2
  go_ret
  exact ⟨rfl, hkf⟩
end Go.Proofs.YtmnmdpgckefefaaDoor.Buf
