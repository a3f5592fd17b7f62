/-
  DERIVED. GIVEN WITH THE SEED: THE CARDS: each row of YtpcklgkpjmmakaaGreatDoorRows.lean that lists a variable, with what it lists TIED to the program's text (the seventh form; the later family's looks); each row that meets fmt, with fmt's text TOLD by the authors' own Lean function (tested against real Go, not proved from fmt's source: count such statements apart). THE CARD IS WHAT COUNTS. Prove the row's statement (the work); the ties are given (YtpcklgkpjmmakaaGreatDoorTie.lean); close each card by the builder's one call (the guide's Derived/Test/ToyasCard.lean, 'card_holds'). Laid BY PROGRAM, IN A SANDBOX (cutbox-door.mjs). By AI agents, Wed Nov 11 2026. No macro, syntax, notation, axiom, sorry.
-/
import Derived.Test.YtpcklgkpjmmakaaGreatDoorRows
import GoSem.ClaimSeven
namespace Go.Proofs.YtpcklgkpjmmakaaGreatDoor
namespace Rows

/-- THE TIED CARD OF 'laws.FnProofs'. -/
def fnProofsCard : Claim7 := { stood := { row := fnProofsRow, standIns := [], harness := (true, "31e68b4e6ec6577953015ccb74b3049ff86543957bbaab61fb6919fd908edb63"), looks := false }, kinds := [], alts := [], laidByText := true, laidKinds := [.data, .data, .data, .pinned, .pinned], laidTests := true, laidLooks := .later }
def FnProofsCardSaid : Prop := Claim7.holds Tryz.pinned (.plain (OpenSpec.ofChange fnProofsSpec)) fnProofsCard

/-- THE TIED CARD OF 'laws.FnUnproven'. -/
def fnUnprovenCard : Claim7 := { stood := { row := fnUnprovenRow, standIns := [], harness := (true, "31e68b4e6ec6577953015ccb74b3049ff86543957bbaab61fb6919fd908edb63"), looks := false }, kinds := [], alts := [], laidByText := true, laidKinds := [.data, .data, .data, .pinned, .pinned], laidTests := true, laidLooks := .later }
def FnUnprovenCardSaid : Prop := Claim7.holds Tryz.pinned (.plain (OpenSpec.ofChange fnUnprovenSpec)) fnUnprovenCard

/-- THE TIED CARD OF 'laws.FnExactProofOf'. -/
def fnExactProofOfCard : Claim7 := { stood := { row := fnExactProofOfRow, standIns := [], harness := (true, "31e68b4e6ec6577953015ccb74b3049ff86543957bbaab61fb6919fd908edb63"), looks := false }, kinds := [], alts := [], laidByText := true, laidKinds := [.data, .data, .data, .pinned, .pinned], laidTests := true, laidLooks := .later }
def FnExactProofOfCardSaid : Prop := Claim7.holds Tryz.pinned (.plain (OpenSpec.ofChange fnExactProofOfSpec)) fnExactProofOfCard

/-- THE SECOND FORM's CARD OF 'laws.FnProofs'. -/
def fnProofsUptoCard : Claim7 := { stood := { row := fnProofsUptoRow, standIns := [], harness := (true, "31e68b4e6ec6577953015ccb74b3049ff86543957bbaab61fb6919fd908edb63"), looks := false }, kinds := [], alts := [], laidByText := true, laidKinds := [.data, .data, .data, .pinned, .pinned], laidTests := true, laidLooks := .later }
def FnProofsUptoCardSaid : Prop := Claim7.holds Tryz.pinned (.plain (OpenSpec.upto fnProofsSpec)) fnProofsUptoCard

/-- THE SECOND FORM's CARD OF 'laws.FnUnproven'. -/
def fnUnprovenUptoCard : Claim7 := { stood := { row := fnUnprovenUptoRow, standIns := [], harness := (true, "31e68b4e6ec6577953015ccb74b3049ff86543957bbaab61fb6919fd908edb63"), looks := false }, kinds := [], alts := [], laidByText := true, laidKinds := [.data, .data, .data, .pinned, .pinned], laidTests := true, laidLooks := .later }
def FnUnprovenUptoCardSaid : Prop := Claim7.holds Tryz.pinned (.plain (OpenSpec.upto fnUnprovenSpec)) fnUnprovenUptoCard

/-- THE SECOND FORM's CARD OF 'laws.FnExactProofOf'. -/
def fnExactProofOfUptoCard : Claim7 := { stood := { row := fnExactProofOfUptoRow, standIns := [], harness := (true, "31e68b4e6ec6577953015ccb74b3049ff86543957bbaab61fb6919fd908edb63"), looks := false }, kinds := [], alts := [], laidByText := true, laidKinds := [.data, .data, .data, .pinned, .pinned], laidTests := true, laidLooks := .later }
def FnExactProofOfUptoCardSaid : Prop := Claim7.holds Tryz.pinned (.plain (OpenSpec.upto fnExactProofOfSpec)) fnExactProofOfUptoCard
end Rows
end Go.Proofs.YtpcklgkpjmmakaaGreatDoor
