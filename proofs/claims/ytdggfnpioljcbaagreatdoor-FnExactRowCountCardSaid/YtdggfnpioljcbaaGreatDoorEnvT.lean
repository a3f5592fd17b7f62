/- The table of powers of ten, from a row's listed variables. -/
import Derived.Test.YtdggfnpioljcbaaGreatDoorEnv
import Derived.Test.YtdggfnpioljcbaaGreatDoorRowsA
namespace Go.Proofs.YtdggfnpioljcbaaGreatDoor
open Go.RowKit Go.Lib
set_option linter.unusedVariables false
set_option maxRecDepth 100000
theorem pow_tab : (Rows.laid_internal_strconv_uint64pow10 : DataW Unit) = tabData .u64 Lib.pow10Tab := by kernel_rfl
theorem tab_of {W : World} {l : List (String × DataW Unit)} (h : laidMet Tryz.prog l W) (h1 : ("internal/strconv.uint64pow10", Rows.laid_internal_strconv_uint64pow10) ∈ l) : Tab W := by
  obtain ⟨g, t, cs, fuel, p, hg, hty, hvar, hd⟩ := Lib.laidMet.reads h h1
  rw [pow_tab] at hd
  have hg0 : Tryz.prog.globalNamed "internal/strconv.uint64pow10" = some 5 := by kernel_rfl
  obtain rfl := Option.some.inj (hg0.symm.trans hg)
  have hty0 : (Tryz.prog.globals[5]?).map (·.type) = some 301 := by kernel_rfl
  obtain rfl := Option.some.inj (hty0.symm.trans hty)
  have hcs := cells_of_tab Tryz.underlying301 Tryz.underlying264 (by kernel_rfl) (by kernel_rfl) hd
  unfold Tab Lib.TabIs
  rw [hvar, ← hcs]
end Go.Proofs.YtdggfnpioljcbaaGreatDoor
