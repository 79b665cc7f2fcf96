/- From what a row lists to utf8's two tables, from the open variables to bytealg.MaxLen. -/
import Derived.Test.YtomdhiphiediaaaDoorSearch
import Derived.Test.YtomdhiphiediaaaDoorRows
import Derived.Shelf.Vars
import Derived.KernelRfl
namespace Go.Proofs.YtomdhiphiediaaaDoor.Dec
open Go Go.RowKit Go.Proofs.YtomdhiphiediaaaDoor.Rw
def renU : Go.Shelf.Ren := ⟨fun n => n, fun | 5 => 5 | 119 => 76 | 138 => 78 | 139 => 79 | n => n, fun | 3 => 1 | 4 => 2 | n => n⟩
theorem u8t : U8Types Tryd.prog renU := ⟨Tryd.underlying5, Tryd.underlying76, Tryd.underlying78, Tryd.underlying79⟩
theorem u8x : U8Extra Tryd.prog renU := ⟨by kernel_rfl, by kernel_rfl, by kernel_rfl, by kernel_rfl, by kernel_rfl, by kernel_rfl, by kernel_rfl⟩
theorem first_eq : Rows.laid_unicode_utf8_first = Lib.firstData := by kernel_rfl
theorem accept_eq : (Rows.laid_unicode_utf8_acceptRanges : DataW Unit) = Lib.acceptData := by kernel_rfl
theorem utabs_of {W : World} (h : laidMetH Tryd.prog Rows.macroPlainRow.laid W) : UTabs W :=
  have h' : laidMet Tryd.prog Rows.macroPlainRow.laid W := h
  utf8Tabs_of_readsT u8t u8x (first_eq ▸ Lib.laidMet.reads h' (n := "unicode/utf8.first") (d := Rows.laid_unicode_utf8_first) (.tail _ (.head _)))
     (accept_eq ▸ Lib.laidMet.reads h' (n := "unicode/utf8.acceptRanges") (d := Rows.laid_unicode_utf8_acceptRanges) (.head _))
theorem maxC_of {W : World} (h : W.ShapedOpen Tryd.prog) : MaxC W :=
  cell_of_shapedOpen_int (t := 3) (zero := #[.int .i64 0]) h (of_decide_eq_true (by kernel_rfl)) (by kernel_rfl) rfl (by kernel_rfl) (by kernel_rfl) Tryd.underlying3
end Go.Proofs.YtomdhiphiediaaaDoor.Dec
