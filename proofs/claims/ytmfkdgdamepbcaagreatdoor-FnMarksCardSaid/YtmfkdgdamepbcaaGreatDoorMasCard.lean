/- FnMarks: the card. -/
import Derived.Test.YtmfkdgdamepbcaaGreatDoorMasLaw
import Derived.Test.YtmfkdgdamepbcaaGreatDoorTie
import Derived.Test.YtmfkdgdamepbcaaGreatDoorCards
namespace Go.Proofs.YtmfkdgdamepbcaaGreatDoor
open Go.RowKit
set_option maxRecDepth 100000
theorem fnMarks_wf : Rows.fnMarksRow.wfByText (OpenSpec.ofChange Rows.fnMarksSpec) = true := by kernel_rfl
theorem fnMarks_goes : false = Rows.fnMarksRow.goesBy Tryz.pinned.checked.prog := by kernel_rfl
theorem fnMarks_card : Rows.FnMarksCardSaid :=
  Claim7.holds_tied_plain_at .later [] _ _ _ _ fnMarks_said (fun _ h => by cases h) fnMarks_wf (fun _ h => by cases h) fnMarks_row_tie rfl ⟨rfl, rfl⟩ (by kernel_rfl) rfl fnMarks_plain fnMarks_goes
#print axioms fnMarks_card
end Go.Proofs.YtmfkdgdamepbcaaGreatDoor
