/- From what a row lists to ucell's two tables and utf8's two. -/
import Derived.Test.YtobogbjpdagklaaDoorLive
import Derived.Test.YtobogbjpdagklaaDoorRows
import Derived.KernelRfl
namespace Go.Proofs.YtobogbjpdagklaaDoor.Kinds
open Go Go.RowKit Go.Proofs.YtobogbjpdagklaaDoor.Rw
theorem gNone : Tryd.prog.globalNamed "lanyard/ucell.none" = some 0 := by kernel_rfl
theorem gWide : Tryd.prog.globalNamed "lanyard/ucell.wide" = some 1 := by kernel_rfl
theorem tNone : (Tryd.prog.globals[0]?).map (·.type) = some 65 := by kernel_rfl
theorem tWide : (Tryd.prog.globals[1]?).map (·.type) = some 66 := by kernel_rfl
theorem cSpan : Tryd.prog.cellsOf 64 = 2 := by kernel_rfl
theorem cRune : Tryd.prog.cellsOf 21 = 1 := by kernel_rfl
def renU : Go.Shelf.Ren := ⟨fun n => n, fun | 5 => 5 | 119 => 77 | 138 => 79 | 139 => 80 | n => n, fun | 3 => 2 | 4 => 3 | n => n⟩
theorem u8t : U8Types Tryd.prog renU := ⟨Tryd.underlying5, Tryd.underlying77, Tryd.underlying79, Tryd.underlying80⟩
theorem u8x : U8Extra Tryd.prog renU := ⟨by kernel_rfl, by kernel_rfl, by kernel_rfl, by kernel_rfl, by kernel_rfl, by kernel_rfl, by kernel_rfl⟩
theorem first_eq : Rows.laid_unicode_utf8_first = Lib.firstData := by kernel_rfl
theorem accept_eq : (Rows.laid_unicode_utf8_acceptRanges : DataW Unit) = Lib.acceptData := by kernel_rfl
theorem tabs_of {W : World} (h : laidMetH Tryd.prog Rows.ucellKindsRow.laid W) : Tabs W ∧ Dec.UTabs W :=
  have h' : laidMet Tryd.prog Rows.ucellKindsRow.laid W := h
  ⟨⟨tabAt_of gNone tNone Tryd.underlying65 rfl cSpan cRune (Lib.laidMet.reads h' (n := "lanyard/ucell.none") (d := Rows.laid_lanyard_ucell_none) (.tail _ (.head _))),
    tabAt_of gWide tWide Tryd.underlying66 rfl cSpan cRune (Lib.laidMet.reads h' (n := "lanyard/ucell.wide") (d := Rows.laid_lanyard_ucell_wide) (.tail _ (.tail _ (.head _))))⟩,
   utf8Tabs_of_readsT u8t u8x (first_eq ▸ Lib.laidMet.reads h' (n := "unicode/utf8.first") (d := Rows.laid_unicode_utf8_first) (.tail _ (.tail _ (.tail _ (.head _)))))
     (accept_eq ▸ Lib.laidMet.reads h' (n := "unicode/utf8.acceptRanges") (d := Rows.laid_unicode_utf8_acceptRanges) (.head _))⟩
end Go.Proofs.YtobogbjpdagklaaDoor.Kinds
