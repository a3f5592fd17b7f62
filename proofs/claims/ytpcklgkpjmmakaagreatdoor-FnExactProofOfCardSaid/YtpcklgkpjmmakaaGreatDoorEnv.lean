/- What a row's listed variables give. -/
import Derived.Test.YtpcklgkpjmmakaaGreatDoorFold
import Derived.Test.YtpcklgkpjmmakaaGreatDoorRows
import Derived.Lib.LaidU8T
import Derived.Lib.LaidTab
import Derived.HandedShaped
namespace Go.Proofs.YtpcklgkpjmmakaaGreatDoor
open Go.RowKit Go.Lib
set_option linter.unusedVariables false
set_option maxRecDepth 100000
def intsOf : DataW Unit → List Int
  | .agg l => l.map fun d => match d with | .lit (.int _ n) => n | _ => 0
  | _ => []
def foldZ : List Int := intsOf Rows.laid_unicode_asciiFold
theorem fold_tab : (Rows.laid_unicode_asciiFold : DataW Unit) = tabData .u16 foldZ := by kernel_rfl
theorem first_eq : (Rows.laid_unicode_utf8_first : DataW Unit) = firstData := by kernel_rfl
theorem accept_eq : (Rows.laid_unicode_utf8_acceptRanges : DataW Unit) = acceptData := by kernel_rfl
theorem utf_of {W : World} {l : List (String × DataW Unit)} (h : laidMet Tryz.prog l W) (h1 : ("unicode/utf8.first", Rows.laid_unicode_utf8_first) ∈ l) (h2 : ("unicode/utf8.acceptRanges", Rows.laid_unicode_utf8_acceptRanges) ∈ l) :
    Lib.Utf8Tabs 3 4 W :=
  utf8Tabs_of_readsT (ρ := Tryz.lays197_ren) { Tryz.lays197 with } (by constructor <;> kernel_rfl) (by rw [← first_eq]; exact Lib.laidMet.reads h h1) (by rw [← accept_eq]; exact Lib.laidMet.reads h h2)
theorem len_of {W : World} (h : W.ShapedOpen Tryz.prog) : ∃ m, W.cell? ⟨5, 0, none⟩ = some (.int .i64 m) :=
  Go.Proofs.cell_of_shapedOpen_int (zero := #[.int .i64 0]) (t := 3) h (of_decide_eq_true (by kernel_rfl)) (by kernel_rfl) rfl (by kernel_rfl) (by kernel_rfl) Tryz.underlying3
theorem folds_of {W : World} {l : List (String × DataW Unit)} (h : laidMet Tryz.prog l W) (h1 : ("unicode.asciiFold", Rows.laid_unicode_asciiFold) ∈ l) : Folds W := by
  obtain ⟨g, t, cs, fuel, p, hg, hty, hvar, hd⟩ := Lib.laidMet.reads h h1
  rw [fold_tab] at hd
  have hg0 : Tryz.prog.globalNamed "unicode.asciiFold" = some 0 := by kernel_rfl
  obtain rfl := Option.some.inj (hg0.symm.trans hg)
  have hty0 : (Tryz.prog.globals[0]?).map (·.type) = some 188 := by kernel_rfl
  obtain rfl := Option.some.inj (hty0.symm.trans hty)
  have hcs := cells_of_tab Tryz.underlying188 Tryz.underlying187 (by kernel_rfl) (by kernel_rfl) hd
  have k : ∀ i v, foldZ[i]? = some v → W.cell? ⟨0, i, none⟩ = some (.int .u16 v) := fun i v hv => by
    rw [World.var?_cell hg hvar i, ← Array.getElem?_toList, hcs, List.getElem?_map, hv]; rfl
  exact ⟨⟨k 120 88 (by kernel_rfl), k 88 120 (by kernel_rfl)⟩, ⟨k 109 77 (by kernel_rfl), k 77 109 (by kernel_rfl)⟩, ⟨k 108 76 (by kernel_rfl), k 76 108 (by kernel_rfl)⟩⟩
end Go.Proofs.YtpcklgkpjmmakaaGreatDoor
