/- FnExactHeadAt: the card. -/
import Derived.Test.YtmfkdgdamepbcaaGreatDoorHdLw
import Derived.Test.YtmfkdgdamepbcaaGreatDoorTie
import Derived.Test.YtmfkdgdamepbcaaGreatDoorCards
namespace Go.Proofs.YtmfkdgdamepbcaaGreatDoor
open Go.RowKit
set_option maxRecDepth 100000
theorem fnExactHeadAt_wf : Rows.fnExactHeadAtRow.wfByText (OpenSpec.ofChange Rows.fnExactHeadAtSpec) = true := by kernel_rfl
theorem fnExactHeadAt_goes : false = Rows.fnExactHeadAtRow.goesBy Tryz.pinned.checked.prog := by kernel_rfl
theorem fnExactHeadAt_card : Rows.FnExactHeadAtCardSaid :=
  Claim7.holds_tied_plain_at .later [] _ _ _ _ fnExactHeadAt_said (fun _ h => by cases h) fnExactHeadAt_wf (fun _ h => by cases h) fnExactHeadAt_row_tie rfl ⟨rfl, rfl⟩ (by kernel_rfl) rfl fnExactHeadAt_plain fnExactHeadAt_goes
#print axioms fnExactHeadAt_card
end Go.Proofs.YtmfkdgdamepbcaaGreatDoor
