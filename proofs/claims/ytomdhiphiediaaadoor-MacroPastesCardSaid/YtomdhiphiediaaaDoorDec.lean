/- utf8.DecodeRune: the shelf's contract laid at this dump, over lists of bytes, in whatever memory. -/
import Derived.Shelf.Spec.DecodeRune
import Derived.Lib.LaidU8T
import Derived.Test.YtomdhiphiediaaaDoorRowOps
import Derived.Test.YtomdhiphiediaaaDoorProg
import Derived.KernelRfl
namespace Go.Proofs.YtomdhiphiediaaaDoor.Dec
open Go Go.RowKit Go.Shelf Go.Proofs.YtomdhiphiediaaaDoor.Rw
def ren32 : Go.Shelf.Ren := ⟨fun | 32 => 40 | 49 => 46 | n => n, fun | 30 => 22 | 21 => 21 | 3 => 3 | 0 => 0 | 5 => 5 | 4 => 4 | 33 => 63 | 66 => 76 | 25 => 72 | 69 => 79 | 68 => 78 | n => n, fun | 2 => 1 | 3 => 2 | n => n⟩
theorem lays32 : Go.Proofs.Lays7.n32 Tryd.prog ren32 := {
  mixed := by kernel_rfl
  f32 := Tryd.func40.trans (congrArg some (by kernel_rfl))
  f49 := Tryd.func46.trans (congrArg some (by kernel_rfl))
  t0 := Tryd.underlying0
  a0 := Tryd.isAgg0
  z0 := Tryd.sizeOf0
  v0 := Tryd.zeroValue0
  i0 := by kernel_rfl
  t3 := Tryd.underlying3
  a3 := Tryd.isAgg3
  z3 := Tryd.sizeOf3
  v3 := Tryd.zeroValue3
  i3 := by kernel_rfl
  t4 := Tryd.underlying4
  a4 := Tryd.isAgg4
  z4 := Tryd.sizeOf4
  v4 := Tryd.zeroValue4
  i4 := by kernel_rfl
  t5 := Tryd.underlying5
  a5 := Tryd.isAgg5
  z5 := Tryd.sizeOf5
  v5 := Tryd.zeroValue5
  i5 := by kernel_rfl
  t21 := Tryd.underlying21
  a21 := Tryd.isAgg21
  z21 := Tryd.sizeOf21
  v21 := Tryd.zeroValue21
  i21 := by kernel_rfl
  t25 := Tryd.underlying72
  a25 := Tryd.isAgg72
  z25 := Tryd.sizeOf72
  v25 := Tryd.zeroValue72
  i25 := by kernel_rfl
  t30 := Tryd.underlying22
  a30 := Tryd.isAgg22
  z30 := Tryd.sizeOf22
  v30 := Tryd.zeroValue22
  i30 := by kernel_rfl
  t33 := Tryd.underlying63
  a33 := Tryd.isAgg63
  z33 := Tryd.sizeOf63
  v33 := Tryd.zeroValue63
  i33 := by kernel_rfl
  t66 := Tryd.underlying76
  a66 := Tryd.isAgg76
  z66 := Tryd.sizeOf76
  t68 := Tryd.underlying78
  a68 := Tryd.isAgg78
  z68 := Tryd.sizeOf78
  v68 := Tryd.zeroValue78
  i68 := by kernel_rfl
  t69 := Tryd.underlying79
  a69 := Tryd.isAgg79
  z69 := Tryd.sizeOf79
  v69 := Tryd.zeroValue79
  i69 := by kernel_rfl
  g2 := by kernel_rfl
  g3 := by kernel_rfl }

abbrev UTabs (w : World) : Prop := Lib.Utf8Tabs 1 2 w
theorem UTabs_keeps {w w' : World} (h : UTabs w) (k : Keeps [] w w') : UTabs w' :=
  ⟨fun c hc => k.cell (h.1 c hc) (by simp), fun i hi => ⟨k.cell (h.2 i hi).1 (by simp), k.cell (h.2 i hi).2 (by simp)⟩⟩

/-- The rune at the head of bytes, and how many bytes it takes. -/
def dec (l : List UInt8) : Nat × Nat := Lib.decodeN l.length (l.getD 0 0).toNat (l.getD 1 0).toNat (l.getD 2 0).toNat (l.getD 3 0).toNat
theorem dec_go (l : List UInt8) (h : l ≠ []) : Lib.decodeGo ⟨l.toArray⟩ = dec l := by
  have hs : (⟨l.toArray⟩ : ByteArray).size = l.length := by simp [ByteArray.size]
  have hg : ∀ j, (⟨l.toArray⟩ : ByteArray).get! j = l.getD j 0 := by
    intro j
    show (l.toArray)[j]! = l.getD j 0
    simp [List.getD_eq_getElem?_getD, getElem!_def]
    cases l[j]? <;> rfl
  have h0 : ¬ l.length = 0 := fun e => h (List.eq_nil_of_length_eq_zero e)
  unfold Lib.decodeGo dec
  rw [hs, if_neg h0, Lib.decode_at, hs]
  simp only [hg, Nat.sub_zero, Nat.zero_add]
theorem dec_pos (l : List UInt8) : 1 ≤ (dec l).2 := by
  unfold dec Lib.decodeN
  repeat' split
  all_goals simp
theorem dec_le (l : List UInt8) (h : l ≠ []) : (dec l).2 ≤ l.length := by
  have h0 : 0 < l.length := List.length_pos_iff.2 h
  unfold dec Lib.decodeN
  repeat' split
  all_goals (try simp only)
  all_goals omega
theorem dec_rune (l : List UInt8) : (dec l).1 ≤ 1114111 := by
  unfold dec Lib.decodeN
  repeat' split
  all_goals (try simp only)
  all_goals omega
theorem Dec_calls (w : World) (hT : UTabs w) (A : Option Addr) (c : Nat) (l : List UInt8) (hl : l ≠ []) (hs : Src w A (bs l)) :
    Calls Tryd.prog 40 #[.slice A l.length c] w fun e w' => e = .returned (.tuple #[.int .i32 ((dec l).1 : Nat), .int .i64 ((dec l).2 : Nat)]) ∧ Keeps [] w w' := by
  have h0 : 0 < l.length := List.length_pos_iff.2 hl
  obtain ⟨ad, rfl, hc⟩ := hs 0 (.int .u8 (l[0]).toNat) (by simp [bs, h0])
  obtain ⟨b, off, spot⟩ := ad
  have hsp : spot = none := by
    unfold World.cell? at hc
    split at hc
    · split at hc
      · cases hc
      · rename_i h; simp [Addr.add] at h; exact h
    · cases hc
  subst hsp
  have hsz : (⟨l.toArray⟩ : ByteArray).size = l.length := by simp [ByteArray.size]
  have := Any7.utf8_DecodeRune lays32 ⟨l.toArray⟩ b off c w hT (fun j hj => by
    rw [hsz] at hj
    obtain ⟨ad, he, hc⟩ := hs j (.int .u8 (l[j]).toNat) (by simp [bs, hj])
    cases he
    rw [add_at] at hc
    rw [hc]
    show some (Value.int IntKind.u8 ((l[j]).toNat : Int)) = some (Value.int IntKind.u8 (((l.toArray)[j]!).toNat : Int))
    simp [hj])
  rw [hsz, dec_go l hl] at this
  exact this.mono fun e w' h => ⟨h.1, Keeps.of_below h.2⟩
end Go.Proofs.YtomdhiphiediaaaDoor.Dec
