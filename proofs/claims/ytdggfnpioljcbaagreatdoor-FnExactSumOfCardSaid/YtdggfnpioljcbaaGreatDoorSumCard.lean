/- FnExactSumOf: the card. -/
import Derived.Test.YtdggfnpioljcbaaGreatDoorSumLaw
import Derived.Test.YtdggfnpioljcbaaGreatDoorTie
import Derived.Test.YtdggfnpioljcbaaGreatDoorCards
namespace Go.Proofs.YtdggfnpioljcbaaGreatDoor
open Go.RowKit
set_option maxRecDepth 100000
theorem fnExactSumOf_wf : Rows.fnExactSumOfRow.wfByText (OpenSpec.ofChange Rows.fnExactSumOfSpec) = true := by kernel_rfl
theorem fnExactSumOf_goes : false = Rows.fnExactSumOfRow.goesBy Tryz.pinned.checked.prog := by kernel_rfl
theorem fnExactSumOf_card : Rows.FnExactSumOfCardSaid :=
  Claim7.holds_tied_plain_at .later [] _ _ _ _ fnExactSumOf_said (fun _ h => by cases h) fnExactSumOf_wf (fun _ h => by cases h) fnExactSumOf_row_tie rfl ⟨rfl, rfl⟩ (by kernel_rfl) rfl fnExactSumOf_plain fnExactSumOf_goes
#print axioms fnExactSumOf_card
end Go.Proofs.YtdggfnpioljcbaaGreatDoor
