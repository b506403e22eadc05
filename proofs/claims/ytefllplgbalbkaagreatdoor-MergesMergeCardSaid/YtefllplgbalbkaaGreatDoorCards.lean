/-
  DERIVED. GIVEN WITH THE SEED: THE CARDS: each row of YtefllplgbalbkaaGreatDoorRows.lean that lists a variable, with what it lists TIED to the program's text (the seventh form; the later family's looks); each row that meets fmt, with fmt's text TOLD by the authors' own Lean function (tested against real Go, not proved from fmt's source: count such statements apart). THE CARD IS WHAT COUNTS. Prove the row's statement (the work); the ties are given (YtefllplgbalbkaaGreatDoorTie.lean); close each card by the builder's one call (the guide's Derived/Test/ToyasCard.lean, 'card_holds'). Laid BY PROGRAM, IN A SANDBOX (cutbox-door.mjs). By AI agents, Wed Nov 11 2026. No macro, syntax, notation, axiom, sorry.
-/
import Derived.Test.YtefllplgbalbkaaGreatDoorRows
import GoSem.ClaimSeven
namespace Go.Proofs.YtefllplgbalbkaaGreatDoor
namespace Rows

/-- THE TIED CARD OF 'bucketlinelaw12.MergesSee'. -/
def mergesSeeCard : Claim7 := { stood := { row := mergesSeeRow, standIns := [], harness := (true, "7337d9f7785ab044ebb37bde9ec477dcff6c86f9def4bcf911f11ae4c9c3b934"), looks := false }, kinds := [], alts := [], laidByText := true, laidKinds := [.data, .data, .data], laidTests := true, laidLooks := .later }
def MergesSeeCardSaid : Prop := Claim7.holds Tryz.pinned (.plain (OpenSpec.ofChange mergesSeeSpec)) mergesSeeCard

/-- THE TIED CARD OF 'bucketlinelaw12.MergesThin'. -/
def mergesThinCard : Claim7 := { stood := { row := mergesThinRow, standIns := [], harness := (true, "7337d9f7785ab044ebb37bde9ec477dcff6c86f9def4bcf911f11ae4c9c3b934"), looks := false }, kinds := [], alts := [], laidByText := true, laidKinds := [.data, .data, .data], laidTests := true, laidLooks := .later }
def MergesThinCardSaid : Prop := Claim7.holds Tryz.pinned (.plain (OpenSpec.ofChange mergesThinSpec)) mergesThinCard

/-- THE TIED CARD OF 'bucketlinelaw12.MergesMerge'. -/
def mergesMergeCard : Claim7 := { stood := { row := mergesMergeRow, standIns := [], harness := (true, "7337d9f7785ab044ebb37bde9ec477dcff6c86f9def4bcf911f11ae4c9c3b934"), looks := false }, kinds := [], alts := [], laidByText := true, laidKinds := [.data, .data, .data], laidTests := true, laidLooks := .later }
def MergesMergeCardSaid : Prop := Claim7.holds Tryz.pinned (.plain (OpenSpec.ofChange mergesMergeSpec)) mergesMergeCard

/-- THE SECOND FORM's CARD OF 'bucketlinelaw12.MergesSee'. -/
def mergesSeeUptoCard : Claim7 := { stood := { row := mergesSeeUptoRow, standIns := [], harness := (true, "7337d9f7785ab044ebb37bde9ec477dcff6c86f9def4bcf911f11ae4c9c3b934"), looks := false }, kinds := [], alts := [], laidByText := true, laidKinds := [.data, .data, .data], laidTests := true, laidLooks := .later }
def MergesSeeUptoCardSaid : Prop := Claim7.holds Tryz.pinned (.plain (OpenSpec.upto mergesSeeSpec)) mergesSeeUptoCard

/-- THE SECOND FORM's CARD OF 'bucketlinelaw12.MergesThin'. -/
def mergesThinUptoCard : Claim7 := { stood := { row := mergesThinUptoRow, standIns := [], harness := (true, "7337d9f7785ab044ebb37bde9ec477dcff6c86f9def4bcf911f11ae4c9c3b934"), looks := false }, kinds := [], alts := [], laidByText := true, laidKinds := [.data, .data, .data], laidTests := true, laidLooks := .later }
def MergesThinUptoCardSaid : Prop := Claim7.holds Tryz.pinned (.plain (OpenSpec.upto mergesThinSpec)) mergesThinUptoCard

/-- THE SECOND FORM's CARD OF 'bucketlinelaw12.MergesMerge'. -/
def mergesMergeUptoCard : Claim7 := { stood := { row := mergesMergeUptoRow, standIns := [], harness := (true, "7337d9f7785ab044ebb37bde9ec477dcff6c86f9def4bcf911f11ae4c9c3b934"), looks := false }, kinds := [], alts := [], laidByText := true, laidKinds := [.data, .data, .data], laidTests := true, laidLooks := .later }
def MergesMergeUptoCardSaid : Prop := Claim7.holds Tryz.pinned (.plain (OpenSpec.upto mergesMergeSpec)) mergesMergeUptoCard
end Rows
end Go.Proofs.YtefllplgbalbkaaGreatDoor
