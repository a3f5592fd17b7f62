/- FnExactRowCount: the card. -/
import Derived.Test.YtdggfnpioljcbaaGreatDoorRCntLaw
import Derived.Test.YtdggfnpioljcbaaGreatDoorTie
import Derived.Test.YtdggfnpioljcbaaGreatDoorCards
namespace Go.Proofs.YtdggfnpioljcbaaGreatDoor
open Go.RowKit
set_option maxRecDepth 100000
theorem fnExactRowCount_wf : Rows.fnExactRowCountRow.wfByText (OpenSpec.ofChange Rows.fnExactRowCountSpec) = true := by kernel_rfl
theorem fnExactRowCount_goes : false = Rows.fnExactRowCountRow.goesBy Tryz.pinned.checked.prog := by kernel_rfl
theorem fnExactRowCount_card : Rows.FnExactRowCountCardSaid :=
  Claim7.holds_tied_plain_at .later [] _ _ _ _ fnExactRowCount_said (fun _ h => by cases h) fnExactRowCount_wf (fun _ h => by cases h) fnExactRowCount_row_tie rfl ⟨rfl, rfl⟩ (by kernel_rfl) rfl fnExactRowCount_plain fnExactRowCount_goes
#print axioms fnExactRowCount_card
end Go.Proofs.YtdggfnpioljcbaaGreatDoor
