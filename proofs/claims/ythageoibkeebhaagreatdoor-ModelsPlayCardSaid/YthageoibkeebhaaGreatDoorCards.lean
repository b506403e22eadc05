/-
  DERIVED. GIVEN WITH THE SEED: THE CARDS: each row of YthageoibkeebhaaGreatDoorRows.lean that lists a variable, with what it lists TIED to the program's text (the seventh form; the later family's looks); each row that meets fmt, with fmt's text TOLD by the authors' own Lean function (tested against real Go, not proved from fmt's source: count such statements apart). THE CARD IS WHAT COUNTS. Prove the row's statement (the work); the ties are given (YthageoibkeebhaaGreatDoorTie.lean); close each card by the builder's one call (the guide's Derived/Test/ToyasCard.lean, 'card_holds'). Laid BY PROGRAM, IN A SANDBOX (cutbox-door.mjs). By AI agents, Wed Nov 11 2026. No macro, syntax, notation, axiom, sorry.
-/
import Derived.Test.YthageoibkeebhaaGreatDoorRows
import GoSem.ClaimSeven
namespace Go.Proofs.YthageoibkeebhaaGreatDoor
namespace Rows

/-- THE TIED CARD OF 'bucketlinelaw13.ModelsMake'. -/
def modelsMakeCard : Claim7 := { stood := { row := modelsMakeRow, standIns := [], harness := (true, "06627d4ddb967b09f405b7b94290c56e5c594bfc6d01e6820af6634db3d6a263"), looks := false }, kinds := [], alts := [], laidByText := true, laidKinds := [.data, .data, .data], laidTests := true, laidLooks := .later }
def ModelsMakeCardSaid : Prop := Claim7.holds Tryz.pinned (.plain (OpenSpec.ofChange modelsMakeSpec)) modelsMakeCard

/-- THE TIED CARD OF 'bucketlinelaw13.ModelsPlay'. -/
def modelsPlayCard : Claim7 := { stood := { row := modelsPlayRow, standIns := [], harness := (true, "06627d4ddb967b09f405b7b94290c56e5c594bfc6d01e6820af6634db3d6a263"), looks := false }, kinds := [], alts := [], laidByText := true, laidKinds := [.data, .data, .data], laidTests := true, laidLooks := .later }
def ModelsPlayCardSaid : Prop := Claim7.holds Tryz.pinned (.plain (OpenSpec.ofChange modelsPlaySpec)) modelsPlayCard

/-- THE SECOND FORM's CARD OF 'bucketlinelaw13.ModelsMake'. -/
def modelsMakeUptoCard : Claim7 := { stood := { row := modelsMakeUptoRow, standIns := [], harness := (true, "06627d4ddb967b09f405b7b94290c56e5c594bfc6d01e6820af6634db3d6a263"), looks := false }, kinds := [], alts := [], laidByText := true, laidKinds := [.data, .data, .data], laidTests := true, laidLooks := .later }
def ModelsMakeUptoCardSaid : Prop := Claim7.holds Tryz.pinned (.plain (OpenSpec.upto modelsMakeSpec)) modelsMakeUptoCard

/-- THE SECOND FORM's CARD OF 'bucketlinelaw13.ModelsPlay'. -/
def modelsPlayUptoCard : Claim7 := { stood := { row := modelsPlayUptoRow, standIns := [], harness := (true, "06627d4ddb967b09f405b7b94290c56e5c594bfc6d01e6820af6634db3d6a263"), looks := false }, kinds := [], alts := [], laidByText := true, laidKinds := [.data, .data, .data], laidTests := true, laidLooks := .later }
def ModelsPlayUptoCardSaid : Prop := Claim7.holds Tryz.pinned (.plain (OpenSpec.upto modelsPlaySpec)) modelsPlayUptoCard
end Rows
end Go.Proofs.YthageoibkeebhaaGreatDoor
