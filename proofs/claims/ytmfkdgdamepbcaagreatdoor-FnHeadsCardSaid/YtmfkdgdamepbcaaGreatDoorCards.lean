/-
  DERIVED. GIVEN WITH THE SEED: THE CARDS: each row of YtmfkdgdamepbcaaGreatDoorRows.lean that lists a variable, with what it lists TIED to the program's text (the seventh form; the later family's looks); each row that meets fmt, with fmt's text TOLD by the authors' own Lean function (tested against real Go, not proved from fmt's source: count such statements apart). THE CARD IS WHAT COUNTS. Prove the row's statement (the work); the ties are given (YtmfkdgdamepbcaaGreatDoorTie.lean); close each card by the builder's one call (the guide's Derived/Test/ToyasCard.lean, 'card_holds'). Laid BY PROGRAM, IN A SANDBOX (cutbox-door.mjs). By AI agents, Wed Nov 11 2026. No macro, syntax, notation, axiom, sorry.
-/
import Derived.Test.YtmfkdgdamepbcaaGreatDoorRows
import GoSem.ClaimSeven
namespace Go.Proofs.YtmfkdgdamepbcaaGreatDoor
namespace Rows

/-- THE TIED CARD OF 'laws.FnMarks'. -/
def fnMarksCard : Claim7 := { stood := { row := fnMarksRow, standIns := [], harness := (true, "6a3e3ee04a296e52f8ef9a5affbb232a18e86871c536cf285ff40202fed1705b"), looks := true }, kinds := [], alts := [], laidByText := true, laidKinds := [.data, .data, .data, .data, .sentinel, .sentinel, .pinned], laidTests := true, laidLooks := .later }
def FnMarksCardSaid : Prop := Claim7.holds Tryz.pinned (.plain (OpenSpec.ofChange fnMarksSpec)) fnMarksCard

/-- THE TIED CARD OF 'laws.FnExactMarkAt'. -/
def fnExactMarkAtCard : Claim7 := { stood := { row := fnExactMarkAtRow, standIns := [], harness := (true, "6a3e3ee04a296e52f8ef9a5affbb232a18e86871c536cf285ff40202fed1705b"), looks := true }, kinds := [], alts := [], laidByText := true, laidKinds := [.data, .data, .data, .data, .sentinel, .sentinel, .pinned], laidTests := true, laidLooks := .later }
def FnExactMarkAtCardSaid : Prop := Claim7.holds Tryz.pinned (.plain (OpenSpec.ofChange fnExactMarkAtSpec)) fnExactMarkAtCard

/-- THE TIED CARD OF 'laws.FnHeads'. -/
def fnHeadsCard : Claim7 := { stood := { row := fnHeadsRow, standIns := [], harness := (true, "6a3e3ee04a296e52f8ef9a5affbb232a18e86871c536cf285ff40202fed1705b"), looks := true }, kinds := [], alts := [], laidByText := true, laidKinds := [.data, .data, .data, .data, .sentinel, .sentinel, .pinned], laidTests := true, laidLooks := .later }
def FnHeadsCardSaid : Prop := Claim7.holds Tryz.pinned (.plain (OpenSpec.ofChange fnHeadsSpec)) fnHeadsCard

/-- THE TIED CARD OF 'laws.FnExactHeadAt'. -/
def fnExactHeadAtCard : Claim7 := { stood := { row := fnExactHeadAtRow, standIns := [], harness := (true, "6a3e3ee04a296e52f8ef9a5affbb232a18e86871c536cf285ff40202fed1705b"), looks := true }, kinds := [], alts := [], laidByText := true, laidKinds := [.data, .data, .data, .data, .sentinel, .sentinel, .pinned], laidTests := true, laidLooks := .later }
def FnExactHeadAtCardSaid : Prop := Claim7.holds Tryz.pinned (.plain (OpenSpec.ofChange fnExactHeadAtSpec)) fnExactHeadAtCard

/-- THE SECOND FORM's CARD OF 'laws.FnMarks'. -/
def fnMarksUptoCard : Claim7 := { stood := { row := fnMarksUptoRow, standIns := [], harness := (true, "6a3e3ee04a296e52f8ef9a5affbb232a18e86871c536cf285ff40202fed1705b"), looks := true }, kinds := [], alts := [], laidByText := true, laidKinds := [.data, .data, .data, .data, .sentinel, .sentinel, .pinned], laidTests := true, laidLooks := .later }
def FnMarksUptoCardSaid : Prop := Claim7.holds Tryz.pinned (.plain (OpenSpec.upto fnMarksSpec)) fnMarksUptoCard

/-- THE SECOND FORM's CARD OF 'laws.FnExactMarkAt'. -/
def fnExactMarkAtUptoCard : Claim7 := { stood := { row := fnExactMarkAtUptoRow, standIns := [], harness := (true, "6a3e3ee04a296e52f8ef9a5affbb232a18e86871c536cf285ff40202fed1705b"), looks := true }, kinds := [], alts := [], laidByText := true, laidKinds := [.data, .data, .data, .data, .sentinel, .sentinel, .pinned], laidTests := true, laidLooks := .later }
def FnExactMarkAtUptoCardSaid : Prop := Claim7.holds Tryz.pinned (.plain (OpenSpec.upto fnExactMarkAtSpec)) fnExactMarkAtUptoCard

/-- THE SECOND FORM's CARD OF 'laws.FnHeads'. -/
def fnHeadsUptoCard : Claim7 := { stood := { row := fnHeadsUptoRow, standIns := [], harness := (true, "6a3e3ee04a296e52f8ef9a5affbb232a18e86871c536cf285ff40202fed1705b"), looks := true }, kinds := [], alts := [], laidByText := true, laidKinds := [.data, .data, .data, .data, .sentinel, .sentinel, .pinned], laidTests := true, laidLooks := .later }
def FnHeadsUptoCardSaid : Prop := Claim7.holds Tryz.pinned (.plain (OpenSpec.upto fnHeadsSpec)) fnHeadsUptoCard

/-- THE SECOND FORM's CARD OF 'laws.FnExactHeadAt'. -/
def fnExactHeadAtUptoCard : Claim7 := { stood := { row := fnExactHeadAtUptoRow, standIns := [], harness := (true, "6a3e3ee04a296e52f8ef9a5affbb232a18e86871c536cf285ff40202fed1705b"), looks := true }, kinds := [], alts := [], laidByText := true, laidKinds := [.data, .data, .data, .data, .sentinel, .sentinel, .pinned], laidTests := true, laidLooks := .later }
def FnExactHeadAtUptoCardSaid : Prop := Claim7.holds Tryz.pinned (.plain (OpenSpec.upto fnExactHeadAtSpec)) fnExactHeadAtUptoCard
end Rows
end Go.Proofs.YtmfkdgdamepbcaaGreatDoor
