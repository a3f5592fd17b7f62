/- FnExactProven: the card. -/
import Derived.Test.YtdggfnpioljcbaaGreatDoorPvLaw
import Derived.Test.YtdggfnpioljcbaaGreatDoorTie
import Derived.Test.YtdggfnpioljcbaaGreatDoorCards
namespace Go.Proofs.YtdggfnpioljcbaaGreatDoor
open Go.RowKit
set_option maxRecDepth 100000
theorem fnExactProven_wf : Rows.fnExactProvenRow.wfByText (OpenSpec.ofChange Rows.fnExactProvenSpec) = true := by kernel_rfl
theorem fnExactProven_goes : false = Rows.fnExactProvenRow.goesBy Tryz.pinned.checked.prog := by kernel_rfl
theorem fnExactProven_card : Rows.FnExactProvenCardSaid :=
  Claim7.holds_tied_plain_at .later [] _ _ _ _ fnExactProven_said (fun _ h => by cases h) fnExactProven_wf (fun _ h => by cases h) fnExactProven_row_tie rfl ⟨rfl, rfl⟩ (by kernel_rfl) rfl fnExactProven_plain fnExactProven_goes
#print axioms fnExactProven_card
end Go.Proofs.YtdggfnpioljcbaaGreatDoor
