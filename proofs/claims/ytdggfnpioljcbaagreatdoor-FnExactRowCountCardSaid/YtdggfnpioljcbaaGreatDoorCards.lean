/-
  DERIVED. GIVEN WITH THE SEED: THE CARDS: each row of YtdggfnpioljcbaaGreatDoorRows.lean that lists a variable, with what it lists TIED to the program's text (the seventh form; the later family's looks); each row that meets fmt, with fmt's text TOLD by the authors' own Lean function (tested against real Go, not proved from fmt's source: count such statements apart). THE CARD IS WHAT COUNTS. Prove the row's statement (the work); the ties are given (YtdggfnpioljcbaaGreatDoorTie.lean); close each card by the builder's one call (the guide's Derived/Test/ToyasCard.lean, 'card_holds'). Laid BY PROGRAM, IN A SANDBOX (cutbox-door.mjs). By AI agents, Wed Nov 11 2026. No macro, syntax, notation, axiom, sorry.
-/
import Derived.Test.YtdggfnpioljcbaaGreatDoorRows
import GoSem.ClaimSeven
namespace Go.Proofs.YtdggfnpioljcbaaGreatDoor
namespace Rows

/-- THE TIED CARD OF 'laws.FnExactSumOf'. -/
def fnExactSumOfCard : Claim7 := { stood := { row := fnExactSumOfRow, standIns := [], harness := (true, "52eabcb316dfa37d63b25daafa444daab120c35e2b6c3bd0d3816452805fe6c9"), looks := true }, kinds := [], alts := [], laidByText := true, laidKinds := [.data, .data, .data, .pinned, .pinned], laidTests := true, laidLooks := .later }
def FnExactSumOfCardSaid : Prop := Claim7.holds Tryz.pinned (.plain (OpenSpec.ofChange fnExactSumOfSpec)) fnExactSumOfCard

/-- THE TIED CARD OF 'laws.FnMarks'. -/
def fnMarksCard : Claim7 := { stood := { row := fnMarksRow, standIns := [], harness := (true, "52eabcb316dfa37d63b25daafa444daab120c35e2b6c3bd0d3816452805fe6c9"), looks := true }, kinds := [], alts := [], laidByText := true, laidKinds := [.data, .data, .data, .data, .sentinel, .sentinel, .pinned], laidTests := true, laidLooks := .later }
def FnMarksCardSaid : Prop := Claim7.holds Tryz.pinned (.plain (OpenSpec.ofChange fnMarksSpec)) fnMarksCard

/-- THE TIED CARD OF 'laws.FnExactProven'. -/
def fnExactProvenCard : Claim7 := { stood := { row := fnExactProvenRow, standIns := [], harness := (true, "52eabcb316dfa37d63b25daafa444daab120c35e2b6c3bd0d3816452805fe6c9"), looks := true }, kinds := [], alts := [], laidByText := true, laidKinds := [.data, .data, .data, .pinned, .pinned], laidTests := true, laidLooks := .later }
def FnExactProvenCardSaid : Prop := Claim7.holds Tryz.pinned (.plain (OpenSpec.ofChange fnExactProvenSpec)) fnExactProvenCard

/-- THE TIED CARD OF 'laws.FnExactMarkAt'. -/
def fnExactMarkAtCard : Claim7 := { stood := { row := fnExactMarkAtRow, standIns := [], harness := (true, "52eabcb316dfa37d63b25daafa444daab120c35e2b6c3bd0d3816452805fe6c9"), looks := true }, kinds := [], alts := [], laidByText := true, laidKinds := [.data, .data, .data, .data, .sentinel, .sentinel, .pinned], laidTests := true, laidLooks := .later }
def FnExactMarkAtCardSaid : Prop := Claim7.holds Tryz.pinned (.plain (OpenSpec.ofChange fnExactMarkAtSpec)) fnExactMarkAtCard

/-- THE TIED CARD OF 'laws.FnExactRowsOf'. -/
def fnExactRowsOfCard : Claim7 := { stood := { row := fnExactRowsOfRow, standIns := [], harness := (true, "52eabcb316dfa37d63b25daafa444daab120c35e2b6c3bd0d3816452805fe6c9"), looks := true }, kinds := [], alts := [], laidByText := true, laidKinds := [.data, .data, .data, .data, .data, .data, .pinned, .pinned], laidTests := true, laidLooks := .later }
def FnExactRowsOfCardSaid : Prop := Claim7.holds Tryz.pinned (.plain (OpenSpec.ofChange fnExactRowsOfSpec)) fnExactRowsOfCard

/-- THE TIED CARD OF 'laws.FnExactRowCount'. -/
def fnExactRowCountCard : Claim7 := { stood := { row := fnExactRowCountRow, standIns := [], harness := (true, "52eabcb316dfa37d63b25daafa444daab120c35e2b6c3bd0d3816452805fe6c9"), looks := true }, kinds := [], alts := [], laidByText := true, laidKinds := [.data, .data, .data, .data, .data, .data, .pinned, .pinned], laidTests := true, laidLooks := .later }
def FnExactRowCountCardSaid : Prop := Claim7.holds Tryz.pinned (.plain (OpenSpec.ofChange fnExactRowCountSpec)) fnExactRowCountCard

/-- THE TIED CARD OF 'laws.FnProofs'. -/
def fnProofsCard : Claim7 := { stood := { row := fnProofsRow, standIns := [], harness := (true, "52eabcb316dfa37d63b25daafa444daab120c35e2b6c3bd0d3816452805fe6c9"), looks := true }, kinds := [], alts := [], laidByText := true, laidKinds := [.data, .data, .data, .pinned, .pinned], laidTests := true, laidLooks := .later }
def FnProofsCardSaid : Prop := Claim7.holds Tryz.pinned (.plain (OpenSpec.ofChange fnProofsSpec)) fnProofsCard

/-- THE TIED CARD OF 'laws.FnUnproven'. -/
def fnUnprovenCard : Claim7 := { stood := { row := fnUnprovenRow, standIns := [], harness := (true, "52eabcb316dfa37d63b25daafa444daab120c35e2b6c3bd0d3816452805fe6c9"), looks := true }, kinds := [], alts := [], laidByText := true, laidKinds := [.data, .data, .data, .pinned, .pinned], laidTests := true, laidLooks := .later }
def FnUnprovenCardSaid : Prop := Claim7.holds Tryz.pinned (.plain (OpenSpec.ofChange fnUnprovenSpec)) fnUnprovenCard

/-- THE TIED CARD OF 'laws.FnExactProofOf'. -/
def fnExactProofOfCard : Claim7 := { stood := { row := fnExactProofOfRow, standIns := [], harness := (true, "52eabcb316dfa37d63b25daafa444daab120c35e2b6c3bd0d3816452805fe6c9"), looks := true }, kinds := [], alts := [], laidByText := true, laidKinds := [.data, .data, .data, .pinned, .pinned], laidTests := true, laidLooks := .later }
def FnExactProofOfCardSaid : Prop := Claim7.holds Tryz.pinned (.plain (OpenSpec.ofChange fnExactProofOfSpec)) fnExactProofOfCard

/-- THE TIED CARD OF 'laws.FnExactDeepest'. -/
def fnExactDeepestCard : Claim7 := { stood := { row := fnExactDeepestRow, standIns := [], harness := (true, "52eabcb316dfa37d63b25daafa444daab120c35e2b6c3bd0d3816452805fe6c9"), looks := true }, kinds := [], alts := [], laidByText := true, laidKinds := [.data, .data, .data, .data, .sentinel, .sentinel, .data, .data, .pinned, .pinned], laidTests := true, laidLooks := .later }
def FnExactDeepestCardSaid : Prop := Claim7.holds Tryz.pinned (.plain (OpenSpec.ofChange fnExactDeepestSpec)) fnExactDeepestCard

/-- THE TIED CARD OF 'laws.FnRowsBent'. -/
def fnRowsBentCard : Claim7 := { stood := { row := fnRowsBentRow, standIns := [], harness := (true, "52eabcb316dfa37d63b25daafa444daab120c35e2b6c3bd0d3816452805fe6c9"), looks := true }, kinds := [], alts := [], laidByText := true, laidKinds := [.data, .data, .data, .data, .sentinel, .sentinel, .data, .data, .pinned, .pinned], laidTests := true, laidLooks := .later }
def FnRowsBentCardSaid : Prop := Claim7.holds Tryz.pinned (.plain (OpenSpec.ofChange fnRowsBentSpec)) fnRowsBentCard

/-- THE SECOND FORM's CARD OF 'laws.FnExactSumOf'. -/
def fnExactSumOfUptoCard : Claim7 := { stood := { row := fnExactSumOfUptoRow, standIns := [], harness := (true, "52eabcb316dfa37d63b25daafa444daab120c35e2b6c3bd0d3816452805fe6c9"), looks := true }, kinds := [], alts := [], laidByText := true, laidKinds := [.data, .data, .data, .pinned, .pinned], laidTests := true, laidLooks := .later }
def FnExactSumOfUptoCardSaid : Prop := Claim7.holds Tryz.pinned (.plain (OpenSpec.upto fnExactSumOfSpec)) fnExactSumOfUptoCard

/-- THE SECOND FORM's CARD OF 'laws.FnMarks'. -/
def fnMarksUptoCard : Claim7 := { stood := { row := fnMarksUptoRow, standIns := [], harness := (true, "52eabcb316dfa37d63b25daafa444daab120c35e2b6c3bd0d3816452805fe6c9"), looks := true }, kinds := [], alts := [], laidByText := true, laidKinds := [.data, .data, .data, .data, .sentinel, .sentinel, .pinned], laidTests := true, laidLooks := .later }
def FnMarksUptoCardSaid : Prop := Claim7.holds Tryz.pinned (.plain (OpenSpec.upto fnMarksSpec)) fnMarksUptoCard

/-- THE SECOND FORM's CARD OF 'laws.FnExactProven'. -/
def fnExactProvenUptoCard : Claim7 := { stood := { row := fnExactProvenUptoRow, standIns := [], harness := (true, "52eabcb316dfa37d63b25daafa444daab120c35e2b6c3bd0d3816452805fe6c9"), looks := true }, kinds := [], alts := [], laidByText := true, laidKinds := [.data, .data, .data, .pinned, .pinned], laidTests := true, laidLooks := .later }
def FnExactProvenUptoCardSaid : Prop := Claim7.holds Tryz.pinned (.plain (OpenSpec.upto fnExactProvenSpec)) fnExactProvenUptoCard

/-- THE SECOND FORM's CARD OF 'laws.FnExactMarkAt'. -/
def fnExactMarkAtUptoCard : Claim7 := { stood := { row := fnExactMarkAtUptoRow, standIns := [], harness := (true, "52eabcb316dfa37d63b25daafa444daab120c35e2b6c3bd0d3816452805fe6c9"), looks := true }, kinds := [], alts := [], laidByText := true, laidKinds := [.data, .data, .data, .data, .sentinel, .sentinel, .pinned], laidTests := true, laidLooks := .later }
def FnExactMarkAtUptoCardSaid : Prop := Claim7.holds Tryz.pinned (.plain (OpenSpec.upto fnExactMarkAtSpec)) fnExactMarkAtUptoCard

/-- THE SECOND FORM's CARD OF 'laws.FnExactRowsOf'. -/
def fnExactRowsOfUptoCard : Claim7 := { stood := { row := fnExactRowsOfUptoRow, standIns := [], harness := (true, "52eabcb316dfa37d63b25daafa444daab120c35e2b6c3bd0d3816452805fe6c9"), looks := true }, kinds := [], alts := [], laidByText := true, laidKinds := [.data, .data, .data, .data, .data, .data, .pinned, .pinned], laidTests := true, laidLooks := .later }
def FnExactRowsOfUptoCardSaid : Prop := Claim7.holds Tryz.pinned (.plain (OpenSpec.upto fnExactRowsOfSpec)) fnExactRowsOfUptoCard

/-- THE SECOND FORM's CARD OF 'laws.FnExactRowCount'. -/
def fnExactRowCountUptoCard : Claim7 := { stood := { row := fnExactRowCountUptoRow, standIns := [], harness := (true, "52eabcb316dfa37d63b25daafa444daab120c35e2b6c3bd0d3816452805fe6c9"), looks := true }, kinds := [], alts := [], laidByText := true, laidKinds := [.data, .data, .data, .data, .data, .data, .pinned, .pinned], laidTests := true, laidLooks := .later }
def FnExactRowCountUptoCardSaid : Prop := Claim7.holds Tryz.pinned (.plain (OpenSpec.upto fnExactRowCountSpec)) fnExactRowCountUptoCard

/-- THE SECOND FORM's CARD OF 'laws.FnProofs'. -/
def fnProofsUptoCard : Claim7 := { stood := { row := fnProofsUptoRow, standIns := [], harness := (true, "52eabcb316dfa37d63b25daafa444daab120c35e2b6c3bd0d3816452805fe6c9"), looks := true }, kinds := [], alts := [], laidByText := true, laidKinds := [.data, .data, .data, .pinned, .pinned], laidTests := true, laidLooks := .later }
def FnProofsUptoCardSaid : Prop := Claim7.holds Tryz.pinned (.plain (OpenSpec.upto fnProofsSpec)) fnProofsUptoCard

/-- THE SECOND FORM's CARD OF 'laws.FnUnproven'. -/
def fnUnprovenUptoCard : Claim7 := { stood := { row := fnUnprovenUptoRow, standIns := [], harness := (true, "52eabcb316dfa37d63b25daafa444daab120c35e2b6c3bd0d3816452805fe6c9"), looks := true }, kinds := [], alts := [], laidByText := true, laidKinds := [.data, .data, .data, .pinned, .pinned], laidTests := true, laidLooks := .later }
def FnUnprovenUptoCardSaid : Prop := Claim7.holds Tryz.pinned (.plain (OpenSpec.upto fnUnprovenSpec)) fnUnprovenUptoCard

/-- THE SECOND FORM's CARD OF 'laws.FnExactProofOf'. -/
def fnExactProofOfUptoCard : Claim7 := { stood := { row := fnExactProofOfUptoRow, standIns := [], harness := (true, "52eabcb316dfa37d63b25daafa444daab120c35e2b6c3bd0d3816452805fe6c9"), looks := true }, kinds := [], alts := [], laidByText := true, laidKinds := [.data, .data, .data, .pinned, .pinned], laidTests := true, laidLooks := .later }
def FnExactProofOfUptoCardSaid : Prop := Claim7.holds Tryz.pinned (.plain (OpenSpec.upto fnExactProofOfSpec)) fnExactProofOfUptoCard

/-- THE SECOND FORM's CARD OF 'laws.FnExactDeepest'. -/
def fnExactDeepestUptoCard : Claim7 := { stood := { row := fnExactDeepestUptoRow, standIns := [], harness := (true, "52eabcb316dfa37d63b25daafa444daab120c35e2b6c3bd0d3816452805fe6c9"), looks := true }, kinds := [], alts := [], laidByText := true, laidKinds := [.data, .data, .data, .data, .sentinel, .sentinel, .data, .data, .pinned, .pinned], laidTests := true, laidLooks := .later }
def FnExactDeepestUptoCardSaid : Prop := Claim7.holds Tryz.pinned (.plain (OpenSpec.upto fnExactDeepestSpec)) fnExactDeepestUptoCard

/-- THE SECOND FORM's CARD OF 'laws.FnRowsBent'. -/
def fnRowsBentUptoCard : Claim7 := { stood := { row := fnRowsBentUptoRow, standIns := [], harness := (true, "52eabcb316dfa37d63b25daafa444daab120c35e2b6c3bd0d3816452805fe6c9"), looks := true }, kinds := [], alts := [], laidByText := true, laidKinds := [.data, .data, .data, .data, .sentinel, .sentinel, .data, .data, .pinned, .pinned], laidTests := true, laidLooks := .later }
def FnRowsBentUptoCardSaid : Prop := Claim7.holds Tryz.pinned (.plain (OpenSpec.upto fnRowsBentSpec)) fnRowsBentUptoCard
end Rows
end Go.Proofs.YtdggfnpioljcbaaGreatDoor
