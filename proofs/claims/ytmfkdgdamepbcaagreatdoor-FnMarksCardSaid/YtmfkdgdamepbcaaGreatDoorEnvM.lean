/- What a row's listed variables give: the tables of utf8, MaxLen. -/
import Derived.Test.YtmfkdgdamepbcaaGreatDoorSgnImpl
import Derived.Test.YtmfkdgdamepbcaaGreatDoorRows
import Derived.Lib.LaidU8T
import Derived.Lib.LaidTab
import Derived.HandedShaped
namespace Go.Proofs.YtmfkdgdamepbcaaGreatDoor
open Go.RowKit Go.Lib
set_option linter.unusedVariables false
set_option maxRecDepth 100000
theorem first_eq : (Rows.laid_unicode_utf8_first : DataW Unit) = firstData := by kernel_rfl
theorem accept_eq : (Rows.laid_unicode_utf8_acceptRanges : DataW Unit) = acceptData := by kernel_rfl
theorem utf_of {W : World} {l : List (String × DataW Unit)} (h : laidMet Tryz.prog l W) (h1 : ("unicode/utf8.first", Rows.laid_unicode_utf8_first) ∈ l) (h2 : ("unicode/utf8.acceptRanges", Rows.laid_unicode_utf8_acceptRanges) ∈ l) :
    Lib.Utf8Tabs 0 1 W :=
  utf8Tabs_of_readsT (ρ := Tryz.lays197_ren) { Tryz.lays197 with } (by constructor <;> kernel_rfl) (by rw [← first_eq]; exact Lib.laidMet.reads h h1) (by rw [← accept_eq]; exact Lib.laidMet.reads h h2)
theorem len_of {W : World} (h : W.ShapedOpen Tryz.prog) : ∃ m, W.cell? ⟨2, 0, none⟩ = some (.int .i64 m) :=
  Go.Proofs.cell_of_shapedOpen_int (zero := #[.int .i64 0]) (t := 3) h (of_decide_eq_true (by kernel_rfl)) (by kernel_rfl) rfl (by kernel_rfl) (by kernel_rfl) Tryz.underlying3
end Go.Proofs.YtmfkdgdamepbcaaGreatDoor
