/-
  DERIVED. GIVEN WITH THE SEED: THE CARDS: each row of YtfcpnkalcijflaaGreatDoorRows.lean that lists a variable, with what it lists TIED to the program's text (the seventh form; the later family's looks); each row that meets fmt, with fmt's text TOLD by the authors' own Lean function (tested against real Go, not proved from fmt's source: count such statements apart). THE CARD IS WHAT COUNTS. Prove the row's statement (the work); the ties are given (YtfcpnkalcijflaaGreatDoorTie.lean); close each card by the builder's one call (the guide's Derived/Test/ToyasCard.lean, 'card_holds'). Laid BY PROGRAM, IN A SANDBOX (cutbox-door.mjs). By AI agents, Wed Nov 11 2026. No macro, syntax, notation, axiom, sorry.
-/
import Derived.Test.YtfcpnkalcijflaaGreatDoorRows
import GoSem.ClaimSeven
namespace Go.Proofs.YtfcpnkalcijflaaGreatDoor
namespace Rows

/-- THE TIED CARD OF 'bucketlinelaw07.TablesPlay'. -/
def tablesPlayCard : Claim7 := { stood := { row := tablesPlayRow, standIns := [], harness := (true, "47a3ff27203e065348f123edfa2947198929bc861936aa5d6a72e68d9e1c0de9"), looks := false }, kinds := [], alts := [], laidByText := true, laidKinds := [.data, .data, .data], laidTests := true, laidLooks := .later }
def TablesPlayCardSaid : Prop := Claim7.holds Tryz.pinned (.plain (OpenSpec.ofChange tablesPlaySpec)) tablesPlayCard

/-- THE SECOND FORM's CARD OF 'bucketlinelaw07.TablesPlay'. -/
def tablesPlayUptoCard : Claim7 := { stood := { row := tablesPlayUptoRow, standIns := [], harness := (true, "47a3ff27203e065348f123edfa2947198929bc861936aa5d6a72e68d9e1c0de9"), looks := false }, kinds := [], alts := [], laidByText := true, laidKinds := [.data, .data, .data], laidTests := true, laidLooks := .later }
def TablesPlayUptoCardSaid : Prop := Claim7.holds Tryz.pinned (.plain (OpenSpec.upto tablesPlaySpec)) tablesPlayUptoCard
end Rows
end Go.Proofs.YtfcpnkalcijflaaGreatDoor
