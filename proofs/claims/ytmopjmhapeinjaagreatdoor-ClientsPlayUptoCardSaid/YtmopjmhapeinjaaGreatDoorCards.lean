/-
  DERIVED. GIVEN WITH THE SEED: THE CARDS: each row of YtmopjmhapeinjaaGreatDoorRows.lean that lists a variable, with what it lists TIED to the program's text (the seventh form; the later family's looks); each row that meets fmt, with fmt's text TOLD by the authors' own Lean function (tested against real Go, not proved from fmt's source: count such statements apart). THE CARD IS WHAT COUNTS. Prove the row's statement (the work); the ties are given (YtmopjmhapeinjaaGreatDoorTie.lean); close each card by the builder's one call (the guide's Derived/Test/ToyasCard.lean, 'card_holds'). Laid BY PROGRAM, IN A SANDBOX (cutbox-door.mjs). By AI agents, Wed Nov 11 2026. No macro, syntax, notation, axiom, sorry.
-/
import Derived.Test.YtmopjmhapeinjaaGreatDoorRows
import GoSem.ClaimSeven
namespace Go.Proofs.YtmopjmhapeinjaaGreatDoor
namespace Rows

/-- THE TIED CARD OF 'bucketlinelaw20.ClientsPlay'. -/
def clientsPlayCard : Claim7 := { stood := { row := clientsPlayRow, standIns := [], harness := (true, "a3a43398d6fad5884d06a7548f783959c2ff857bc792b12aaba17b44553c3ce3"), looks := false }, kinds := [], alts := [], laidByText := true, laidKinds := [.data, .data, .data], laidTests := true, laidLooks := .later }
def ClientsPlayCardSaid : Prop := Claim7.holds Tryz.pinned (.plain (OpenSpec.ofChange clientsPlaySpec)) clientsPlayCard

/-- THE SECOND FORM's CARD OF 'bucketlinelaw20.ClientsPlay'. -/
def clientsPlayUptoCard : Claim7 := { stood := { row := clientsPlayUptoRow, standIns := [], harness := (true, "a3a43398d6fad5884d06a7548f783959c2ff857bc792b12aaba17b44553c3ce3"), looks := false }, kinds := [], alts := [], laidByText := true, laidKinds := [.data, .data, .data], laidTests := true, laidLooks := .later }
def ClientsPlayUptoCardSaid : Prop := Claim7.holds Tryz.pinned (.plain (OpenSpec.upto clientsPlaySpec)) clientsPlayUptoCard
end Rows
end Go.Proofs.YtmopjmhapeinjaaGreatDoor
