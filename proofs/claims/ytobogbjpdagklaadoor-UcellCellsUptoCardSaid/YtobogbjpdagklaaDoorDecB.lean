/- ucell.Decoder: New, Pending, Put, Flush. -/
import Derived.Test.YtobogbjpdagklaaDoorFull2
import Derived.Deep.RegionHeld3
import Derived.Deep.RegionWith
namespace Go.Proofs.YtobogbjpdagklaaDoor.Dec
open Go Go.RowKit Go.Proofs.YtobogbjpdagklaaDoor.Rw

/-- A decoder at block b that holds bytes. -/
structure DIn (w : World) (b : Nat) (bv : Value) (l : List UInt8) : Prop where
  blk : w.heap[b]? = some (.cells #[.bool true, bv] 68 (0, 0))
  row : Row w 5 1 bv l.length (bs l)
def DAt (w : World) (b : Nat) (F : List Nat) (l : List UInt8) : Prop := ∃ bv, DIn w b bv l ∧ F = b :: fp bv
theorem DIn.b_row {w : World} {b : Nat} {bv : Value} {l : List UInt8} (h : DIn w b bv l) : b ∉ fp bv := fun hk => by
  obtain ⟨cur, hc⟩ := h.row.fp_type b hk
  exact blk_ne h.blk hc (by decide) rfl
theorem DIn.keeps {w w' : World} {b : Nat} {bv : Value} {l : List UInt8} (h : DIn w b bv l) {G : List Nat} (k : Keeps G w w') (hb : b ∉ G) (hd : ∀ i, i ∈ fp bv → i ∉ G) : DIn w' b bv l :=
  ⟨k.blk h.blk hb, h.row.keeps k hd⟩
theorem DAt.keeps {w w' : World} {b : Nat} {F G : List Nat} {l : List UInt8} (h : DAt w b F l) (k : Keeps G w w') (hd : ∀ i, i ∈ F → i ∉ G) : DAt w' b F l := by
  obtain ⟨bv, h, rfl⟩ := h
  exact ⟨bv, h.keeps k (hd b (by simp)) (fun i hi => hd i (by simp [hi])), rfl⟩
theorem DAt.lt {w : World} {b : Nat} {F : List Nat} {l : List UInt8} (h : DAt w b F l) : ∀ k, k ∈ F → k < w.heap.size := by
  obtain ⟨bv, h, rfl⟩ := h
  intro k hk
  rcases List.mem_cons.1 hk with rfl | hk
  · exact blk_lt h.blk
  · exact h.row.fp_lt k hk
theorem DNew_calls (w : World) : Calls Tryd.prog 20 #[] w fun e w' => e = .returned (.pointer (some ⟨w.heap.size, 0, none⟩)) ∧ Keeps [] w w' ∧ DAt w' w.heap.size [w.heap.size] [] := by
  have h1 := blk_new w (.cells #[.bool true, .slice none 0 0] 68)
  go_enter Tryd.func20, Tryd.ntmps20
  go_wp2
  go_ret
  exact ⟨rfl, (Keeps.refl _ _).alloc _, .slice none 0 0, ⟨h1, Row.nil _ _ _ _⟩, rfl⟩
theorem DNone_calls (w : World) (b : Nat) (x : Bool) (h : w.cell? ⟨b, 0, none⟩ = some (.bool x)) : Calls Tryd.prog 47 #[.pointer (some ⟨b, 0, none⟩)] w fun e w' => e = .returned (.bool (!x)) ∧ w = w' := by
  go_enter Tryd.func47, Tryd.ntmps47
  go_wp2
  go_ret
  exact ⟨rfl, rfl⟩
theorem DNone_nil (w : World) : Calls Tryd.prog 47 #[.pointer none] w fun e w' => e = .returned (.bool true) ∧ w = w' := by
  go_enter Tryd.func47, Tryd.ntmps47
  go_wp2
  go_ret
  exact ⟨rfl, rfl⟩
theorem DPending_nil (w : World) : Calls Tryd.prog 24 #[.pointer none] w fun e w' => e = .returned (.int .i64 0) ∧ w = w' := by
  go_enter Tryd.func24, Tryd.ntmps24
  go_wp2_with (go_at_call 47; refine (DNone_nil _).mono ?_; rintro e w' ⟨rfl, rfl⟩)
  go_ret
  exact ⟨rfl, rfl⟩
theorem DFlush_nil (w : World) : Calls Tryd.prog 25 #[.pointer none] w fun e w' => e = .returned (.slice none 0 0) ∧ w = w' := by
  go_enter Tryd.func25, Tryd.ntmps25
  go_wp2_with (go_at_call 47; refine (DNone_nil _).mono ?_; rintro e w' ⟨rfl, rfl⟩)
  go_ret
  exact ⟨rfl, rfl⟩
theorem DPut_nil (w : World) (A : Option Addr) (n c : Nat) : Calls Tryd.prog 22 #[.pointer none, .slice A n c] w fun e w' => e = .returned (.slice none 0 0) ∧ w = w' := by
  go_enter Tryd.func22, Tryd.ntmps22
  go_wp2_with (go_at_call 47; refine (DNone_nil _).mono ?_; rintro e w' ⟨rfl, rfl⟩)
  go_ret
  exact ⟨rfl, rfl⟩
theorem DPending_calls (w : World) (b : Nat) (F : List Nat) (l : List UInt8) (h : DAt w b F l) : Calls Tryd.prog 24 #[.pointer (some ⟨b, 0, none⟩)] w fun e w' => e = .returned (.int .i64 l.length) ∧ w = w' := by
  obtain ⟨bv, h, rfl⟩ := h
  obtain ⟨A, c, rfl, h1, h2⟩ := h.row.slice
  have c0 := blk_cell h.blk 0
  have c1 := blk_cell h.blk 1
  go_enter Tryd.func24, Tryd.ntmps24
  go_wp2_with (go_at_call 47; refine (DNone_calls _ b true c0).mono ?_; rintro e w' ⟨rfl, rfl⟩)
  go_ret
  exact ⟨rfl, rfl⟩

/-- What is told of bytes at once, and what is held. -/
def drainF : Nat → List UInt8 → List Int × List UInt8
  | 0, l => ([], l)
  | n + 1, l => if full l = true then (((dec l).1 : Int) :: (drainF n (l.drop (dec l).2)).1, (drainF n (l.drop (dec l).2)).2) else ([], l)
def drain (l : List UInt8) : List Int × List UInt8 := drainF l.length l
theorem full_ne {l : List UInt8} (h : full l = true) : l ≠ [] := fun e => by subst e; simp [full] at h
theorem drainF_enough : ∀ (n m : Nat) (l : List UInt8), l.length ≤ n → l.length ≤ m → drainF n l = drainF m l
  | 0, 0, _, _, _ => rfl
  | 0, m + 1, l, h, _ => by
    obtain rfl : l = [] := List.eq_nil_of_length_eq_zero (by omega)
    simp [drainF, full]
  | n + 1, 0, l, _, h => by
    obtain rfl : l = [] := List.eq_nil_of_length_eq_zero (by omega)
    simp [drainF, full]
  | n + 1, m + 1, l, h1, h2 => by
    have hp := dec_pos l
    simp only [drainF]
    rw [drainF_enough n m _ (by simp only [List.length_drop]; omega) (by simp only [List.length_drop]; omega)]
theorem drain_full (l : List UInt8) (h : full l = true) : drain l = (((dec l).1 : Int) :: (drain (l.drop (dec l).2)).1, (drain (l.drop (dec l).2)).2) := by
  have hne := full_ne h
  have hp := dec_pos l
  have hlen : 0 < l.length := List.length_pos_iff.2 hne
  unfold drain
  obtain ⟨n, hn⟩ : ∃ n, l.length = n + 1 := ⟨l.length - 1, by omega⟩
  rw [hn]
  simp only [drainF, if_pos h]
  rw [drainF_enough n (l.drop (dec l).2).length _ (by simp only [List.length_drop]; omega) (Nat.le_refl _)]
theorem drain_not (l : List UInt8) (h : full l = false) : drain l = ([], l) := by
  unfold drain
  cases l with
  | nil => rfl
  | cons x l => simp only [List.length_cons, drainF, h]; rfl
theorem drain_length (l : List UInt8) : (drain l).1.length ≤ l.length := by
  have : ∀ n l, (drainF n l).1.length ≤ n := by
    intro n
    induction n with
    | zero => intro l; simp [drainF]
    | succ n ih =>
      intro l
      simp only [drainF]
      split
      · simp only [List.length_cons]; have := ih (l.drop (dec l).2); omega
      · simp
  exact this _ _
end Go.Proofs.YtobogbjpdagklaaDoor.Dec
