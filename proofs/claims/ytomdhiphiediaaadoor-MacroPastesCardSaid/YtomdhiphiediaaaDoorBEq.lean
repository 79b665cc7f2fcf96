/- string(b) of bytes that are read; bytes.Equal. -/
import Derived.Test.YtomdhiphiediaaaDoorRunes
import Derived.Lib.ConvBytes
namespace Go.Proofs.YtomdhiphiediaaaDoor.Dec
open Go Go.RowKit Go.Proofs.YtomdhiphiediaaaDoor.Rw

/-- string(b): the bytes as a string. -/
theorem conv_src {P : Program} (w : World) (src dst e : TypeId) (A : Option Addr) (c : Nat) (l : List UInt8) (hs : P.underlying src = some (.slice e)) (he : P.underlying e = some (.int .u8)) (hd : P.underlying dst = some .string) (h : Src w A (bs l)) :
    (convert src dst (.slice A l.length c)).run P w = .ok (.string ⟨l.toArray⟩) w := by
  cases A with
  | none =>
    have : l = [] := by
      cases l with
      | nil => rfl
      | cons x r => obtain ⟨ad, h, _⟩ := h 0 (.int .u8 x.toNat) rfl; cases h
    subst this
    exact run_convert_bytes_nil w src e hs he 0 c dst hd
  | some a =>
    refine run_convert_bytes_back w src dst e a c l hs he hd fun j hj => ?_
    obtain ⟨ad, h, hc⟩ := h j (.int .u8 l[j].toNat) (by simp [bs, hj])
    cases h; exact hc
theorem str_list (a : List UInt8) : (⟨a.toArray⟩ : ByteArray).toList = a := by
  rw [ByteArray.toList_eq]
set_option maxRecDepth 100000 in
theorem BytesEqual_calls (w : World) (A B : Option Addr) (c d : Nat) (xs ys : List UInt8) (hA : Src w A (bs xs)) (hB : Src w B (bs ys)) :
    Calls Tryd.prog 38 #[.slice A xs.length c, .slice B ys.length d] w fun e w' => e = .returned (.bool (decide (xs = ys))) ∧ w' = w := by
  have r1 := conv_src (P := Tryd.prog) w 22 9 5 A c xs Tryd.underlying22 Tryd.underlying5 Tryd.underlying9 hA
  have r2 := conv_src (P := Tryd.prog) w 22 9 5 B d ys Tryd.underlying22 Tryd.underlying5 Tryd.underlying9 hB
  have hx := str_list xs
  have hy := str_list ys
  generalize (⟨xs.toArray⟩ : ByteArray) = s at *
  generalize (⟨ys.toArray⟩ : ByteArray) = t at *
  have Hx := Lib.hid hx
  have Hy := Lib.hid hy
  clear hx hy hA hB
  go_enter Tryd.func38, Tryd.ntmps38
  go_wp2
  go_ret
  refine ⟨congrArg (fun b => Ending.returned (.bool b)) ?_, rfl⟩
  show (s.toList == t.toList) = _
  rw [Hx.out, Hy.out, Bool.eq_iff_iff]
  simp
end Go.Proofs.YtomdhiphiediaaaDoor.Dec
