/- FnHeads: the card. -/
import Derived.Test.YtmfkdgdamepbcaaGreatDoorHdsLw
import Derived.Test.YtmfkdgdamepbcaaGreatDoorTie
import Derived.Test.YtmfkdgdamepbcaaGreatDoorCards
namespace Go.Proofs.YtmfkdgdamepbcaaGreatDoor
open Go.RowKit
set_option maxRecDepth 100000
theorem fnHeads_wf : Rows.fnHeadsRow.wfByText (OpenSpec.ofChange Rows.fnHeadsSpec) = true := by kernel_rfl
theorem fnHeads_goes : false = Rows.fnHeadsRow.goesBy Tryz.pinned.checked.prog := by kernel_rfl
theorem fnHeads_card : Rows.FnHeadsCardSaid :=
  Claim7.holds_tied_plain_at .later [] _ _ _ _ fnHeads_said (fun _ h => by cases h) fnHeads_wf (fun _ h => by cases h) fnHeads_row_tie rfl ⟨rfl, rfl⟩ (by kernel_rfl) rfl fnHeads_plain fnHeads_goes
#print axioms fnHeads_card
end Go.Proofs.YtmfkdgdamepbcaaGreatDoor
