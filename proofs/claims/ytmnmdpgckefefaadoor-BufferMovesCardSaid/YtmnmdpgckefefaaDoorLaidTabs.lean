/- From what a row lists to the two tables of ucell. -/
import Derived.Test.YtmnmdpgckefefaaDoorKinds
import Derived.KernelRfl
namespace Go.Proofs.YtmnmdpgckefefaaDoor.Kinds
open Go Go.RowKit Go.Proofs.YtmnmdpgckefefaaDoor.Rw
theorem gNone : Tryd.prog.globalNamed "lanyard/ucell.none" = some 0 := by kernel_rfl
theorem gWide : Tryd.prog.globalNamed "lanyard/ucell.wide" = some 1 := by kernel_rfl
theorem tNone : (Tryd.prog.globals[0]?).map (·.type) = some 87 := by kernel_rfl
theorem tWide : (Tryd.prog.globals[1]?).map (·.type) = some 88 := by kernel_rfl
theorem cSpan : Tryd.prog.cellsOf 86 = 2 := by kernel_rfl
theorem cRune : Tryd.prog.cellsOf 21 = 1 := by kernel_rfl
theorem tabs_of {W : World} (h : laidMetH Tryd.prog Rows.bufferSplicesRow.laid W) : Tabs W :=
  have h' : laidMet Tryd.prog Rows.bufferSplicesRow.laid W := h
  ⟨tabAt_of gNone tNone Tryd.underlying87 rfl cSpan cRune (Lib.laidMet.reads h' (n := "lanyard/ucell.none") (d := Rows.laid_lanyard_ucell_none) (.head _)),
   tabAt_of gWide tWide Tryd.underlying88 rfl cSpan cRune (Lib.laidMet.reads h' (n := "lanyard/ucell.wide") (d := Rows.laid_lanyard_ucell_wide) (.tail _ (.head _)))⟩
end Go.Proofs.YtmnmdpgckefefaaDoor.Kinds
