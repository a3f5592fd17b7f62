/- FnExactProofOf: the card. -/
import Derived.Test.YtpcklgkpjmmakaaGreatDoorPofLaw
import Derived.Test.YtpcklgkpjmmakaaGreatDoorTie
import Derived.Test.YtpcklgkpjmmakaaGreatDoorCards
namespace Go.Proofs.YtpcklgkpjmmakaaGreatDoor
open Go.RowKit
set_option maxRecDepth 100000
theorem fnExactProofOf_wf : Rows.fnExactProofOfRow.wfByText (OpenSpec.ofChange Rows.fnExactProofOfSpec) = true := by kernel_rfl
theorem fnExactProofOf_goes : false = Rows.fnExactProofOfRow.goesBy Tryz.pinned.checked.prog := by kernel_rfl
theorem fnExactProofOf_card : Rows.FnExactProofOfCardSaid :=
  Claim7.holds_tied_plain_at .later [] _ _ _ _ fnExactProofOf_said (fun _ h => by cases h) fnExactProofOf_wf (fun _ h => by cases h) fnExactProofOf_row_tie rfl ⟨rfl, rfl⟩ (by kernel_rfl) rfl fnExactProofOf_plain fnExactProofOf_goes
#print axioms fnExactProofOf_card
end Go.Proofs.YtpcklgkpjmmakaaGreatDoor
