/- FnExactMarkAt: the card. -/
import Derived.Test.YtmfkdgdamepbcaaGreatDoorMaLaw
import Derived.Test.YtmfkdgdamepbcaaGreatDoorTie
import Derived.Test.YtmfkdgdamepbcaaGreatDoorCards
namespace Go.Proofs.YtmfkdgdamepbcaaGreatDoor
open Go.RowKit
set_option maxRecDepth 100000
theorem fnExactMarkAt_wf : Rows.fnExactMarkAtRow.wfByText (OpenSpec.ofChange Rows.fnExactMarkAtSpec) = true := by kernel_rfl
theorem fnExactMarkAt_goes : false = Rows.fnExactMarkAtRow.goesBy Tryz.pinned.checked.prog := by kernel_rfl
theorem fnExactMarkAt_card : Rows.FnExactMarkAtCardSaid :=
  Claim7.holds_tied_plain_at .later [] _ _ _ _ fnExactMarkAt_said (fun _ h => by cases h) fnExactMarkAt_wf (fun _ h => by cases h) fnExactMarkAt_row_tie rfl ⟨rfl, rfl⟩ (by kernel_rfl) rfl fnExactMarkAt_plain fnExactMarkAt_goes
#print axioms fnExactMarkAt_card
end Go.Proofs.YtmfkdgdamepbcaaGreatDoor
