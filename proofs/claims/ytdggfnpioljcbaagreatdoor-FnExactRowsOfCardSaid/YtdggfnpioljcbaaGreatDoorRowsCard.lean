/- FnExactRowsOf: the card. -/
import Derived.Test.YtdggfnpioljcbaaGreatDoorRowsLaw
import Derived.Test.YtdggfnpioljcbaaGreatDoorTie
import Derived.Test.YtdggfnpioljcbaaGreatDoorCards
namespace Go.Proofs.YtdggfnpioljcbaaGreatDoor
open Go.RowKit
set_option maxRecDepth 100000
theorem fnExactRowsOf_wf : Rows.fnExactRowsOfRow.wfByText (OpenSpec.ofChange Rows.fnExactRowsOfSpec) = true := by kernel_rfl
theorem fnExactRowsOf_goes : false = Rows.fnExactRowsOfRow.goesBy Tryz.pinned.checked.prog := by kernel_rfl
theorem fnExactRowsOf_card : Rows.FnExactRowsOfCardSaid :=
  Claim7.holds_tied_plain_at .later [] _ _ _ _ fnExactRowsOf_said (fun _ h => by cases h) fnExactRowsOf_wf (fun _ h => by cases h) fnExactRowsOf_row_tie rfl ⟨rfl, rfl⟩ (by kernel_rfl) rfl fnExactRowsOf_plain fnExactRowsOf_goes
#print axioms fnExactRowsOf_card
end Go.Proofs.YtdggfnpioljcbaaGreatDoor
