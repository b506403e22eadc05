/-
  No cell of these rows narrows 'for every input' (looked for: loops, veiled, ifaces, maps, wideKeys, modest, calm, conditions, laid).
  DERIVED. THE GIVEN ROWS OF THIS SEAT. 9 by the template 'for every input the law returns true; each argument reads behind the call as it read before'; 0 by the template 'total and deterministic' (their statements: YtmjoaiepfipmaaaTotals.lean).
  GIVEN WITH THE SEED: the statements are not yours to turn. If you find one false, say at which input.
  Laid BY PROGRAM, IN A SANDBOX (cutbox-rows.mjs): the forced cells as the released guide's own fill.sh prints them over the translation 1f36518e30d8fe67… (all of the seat's roots in one cut). By AI agents, Wed Nov 11 2026. No macro, syntax, notation, axiom, sorry.
-/
import Derived.Test.YtmjoaiepfipmaaaChecked
import GoSem.Claim
import GoSem.ClaimJoined
import GoSem.ClaimMapViews
import Derived.JoinedTies
import Derived.KernelRfl
namespace Go.Proofs.Ytmjoaiepfipmaaa
/- THE CELL 'sum', in the pinned program and in every row, IS THE sha256 OF THE DUMP (.gsa) THAT YtmjoaiepfipmaaaProg.lean LOADS. Nothing in Lean hashes anything: it is a label: what it is worth is what the hold of that sum in a sandbox is worth. -/
noncomputable def Try.pinned : Pinned := { name := "ytmjoaiepfipmaaa", sum := "1f36518e30d8fe677daa0e9ab5852214a9906fb88442e0dec4b1c281f69ca07e", checked := Try.checked }
namespace Rows
def none {H : Type} : Left H := { results := [], args := [] }

/-- 'bucketlinelaw13.ModelsNone': WHATEVER THE INPUT: true; the input reads as it did. -/
def modelsNoneSpec : ChangeSpec := { name := "modelsNone", fn := fun _ => fun
  | [d1, d2, d3] => { results := [.lit (.bool true)], args := [d1, d2, d3] }
  | _ => none }
def modelsNoneRow : OpenClaim := { program := "ytmjoaiepfipmaaa", sum := "1f36518e30d8fe677daa0e9ab5852214a9906fb88442e0dec4b1c281f69ca07e", func := "bucketline/bucketlinelaw13.ModelsNone", spec := "modelsNone", unfollowed := true, recurses := true, apart := false }
def ModelsNoneSaid : Prop := modelsNoneRow.holds Try.pinned (OpenSpec.ofChange modelsNoneSpec)

/-- ITS FALSE NEIGHBOUR: 'it returns false'. Refute it at one input. -/
def modelsNoneWrong : ChangeSpec := { name := "modelsNone", fn := fun _ => fun
  | [d1, d2, d3] => { results := [.lit (.bool false)], args := [d1, d2, d3] }
  | _ => none }
def ModelsNoneWrongFalsely : Prop := modelsNoneRow.holds Try.pinned (OpenSpec.ofChange modelsNoneWrong)

/-- 'bucketlinelaw13.ModelsOnce': WHATEVER THE INPUT: true; the input reads as it did. -/
def modelsOnceSpec : ChangeSpec := { name := "modelsOnce", fn := fun _ => fun
  | [d1, d2, d3] => { results := [.lit (.bool true)], args := [d1, d2, d3] }
  | _ => none }
def modelsOnceRow : OpenClaim := { program := "ytmjoaiepfipmaaa", sum := "1f36518e30d8fe677daa0e9ab5852214a9906fb88442e0dec4b1c281f69ca07e", func := "bucketline/bucketlinelaw13.ModelsOnce", spec := "modelsOnce", unfollowed := true, recurses := true, apart := false }
def ModelsOnceSaid : Prop := modelsOnceRow.holds Try.pinned (OpenSpec.ofChange modelsOnceSpec)

/-- ITS FALSE NEIGHBOUR: 'it returns false'. Refute it at one input. -/
def modelsOnceWrong : ChangeSpec := { name := "modelsOnce", fn := fun _ => fun
  | [d1, d2, d3] => { results := [.lit (.bool false)], args := [d1, d2, d3] }
  | _ => none }
def ModelsOnceWrongFalsely : Prop := modelsOnceRow.holds Try.pinned (OpenSpec.ofChange modelsOnceWrong)

/-- 'bucketlinelaw13.ModelsScan': WHATEVER THE INPUT: true; the input reads as it did. -/
def modelsScanSpec : ChangeSpec := { name := "modelsScan", fn := fun _ => fun
  | [d1, d2, d3] => { results := [.lit (.bool true)], args := [d1, d2, d3] }
  | _ => none }
def modelsScanRow : OpenClaim := { program := "ytmjoaiepfipmaaa", sum := "1f36518e30d8fe677daa0e9ab5852214a9906fb88442e0dec4b1c281f69ca07e", func := "bucketline/bucketlinelaw13.ModelsScan", spec := "modelsScan", unfollowed := true, recurses := true, apart := false }
def ModelsScanSaid : Prop := modelsScanRow.holds Try.pinned (OpenSpec.ofChange modelsScanSpec)

/-- ITS FALSE NEIGHBOUR: 'it returns false'. Refute it at one input. -/
def modelsScanWrong : ChangeSpec := { name := "modelsScan", fn := fun _ => fun
  | [d1, d2, d3] => { results := [.lit (.bool false)], args := [d1, d2, d3] }
  | _ => none }
def ModelsScanWrongFalsely : Prop := modelsScanRow.holds Try.pinned (OpenSpec.ofChange modelsScanWrong)

/-- 'bucketlinelaw13.ModelsAnew': WHATEVER THE INPUT: true; the input reads as it did. -/
def modelsAnewSpec : ChangeSpec := { name := "modelsAnew", fn := fun _ => fun
  | [d1, d2] => { results := [.lit (.bool true)], args := [d1, d2] }
  | _ => none }
def modelsAnewRow : OpenClaim := { program := "ytmjoaiepfipmaaa", sum := "1f36518e30d8fe677daa0e9ab5852214a9906fb88442e0dec4b1c281f69ca07e", func := "bucketline/bucketlinelaw13.ModelsAnew", spec := "modelsAnew", unfollowed := true, recurses := true, apart := false }
def ModelsAnewSaid : Prop := modelsAnewRow.holds Try.pinned (OpenSpec.ofChange modelsAnewSpec)

/-- ITS FALSE NEIGHBOUR: 'it returns false'. Refute it at one input. -/
def modelsAnewWrong : ChangeSpec := { name := "modelsAnew", fn := fun _ => fun
  | [d1, d2] => { results := [.lit (.bool false)], args := [d1, d2] }
  | _ => none }
def ModelsAnewWrongFalsely : Prop := modelsAnewRow.holds Try.pinned (OpenSpec.ofChange modelsAnewWrong)

/-- 'bucketlinelaw13.ModelsChanges': WHATEVER THE INPUT: true; the input reads as it did. -/
def modelsChangesSpec : ChangeSpec := { name := "modelsChanges", fn := fun _ => fun
  | [d1, d2] => { results := [.lit (.bool true)], args := [d1, d2] }
  | _ => none }
def modelsChangesRow : OpenClaim := { program := "ytmjoaiepfipmaaa", sum := "1f36518e30d8fe677daa0e9ab5852214a9906fb88442e0dec4b1c281f69ca07e", func := "bucketline/bucketlinelaw13.ModelsChanges", spec := "modelsChanges", unfollowed := true, recurses := true, apart := false }
def ModelsChangesSaid : Prop := modelsChangesRow.holds Try.pinned (OpenSpec.ofChange modelsChangesSpec)

/-- ITS FALSE NEIGHBOUR: 'it returns false'. Refute it at one input. -/
def modelsChangesWrong : ChangeSpec := { name := "modelsChanges", fn := fun _ => fun
  | [d1, d2] => { results := [.lit (.bool false)], args := [d1, d2] }
  | _ => none }
def ModelsChangesWrongFalsely : Prop := modelsChangesRow.holds Try.pinned (OpenSpec.ofChange modelsChangesWrong)

/-- 'bucketlinelaw13.ModelsGets': WHATEVER THE INPUT: true; the input reads as it did. -/
def modelsGetsSpec : ChangeSpec := { name := "modelsGets", fn := fun _ => fun
  | [d1, d2, d3] => { results := [.lit (.bool true)], args := [d1, d2, d3] }
  | _ => none }
def modelsGetsRow : OpenClaim := { program := "ytmjoaiepfipmaaa", sum := "1f36518e30d8fe677daa0e9ab5852214a9906fb88442e0dec4b1c281f69ca07e", func := "bucketline/bucketlinelaw13.ModelsGets", spec := "modelsGets", unfollowed := true, recurses := true, apart := false }
def ModelsGetsSaid : Prop := modelsGetsRow.holds Try.pinned (OpenSpec.ofChange modelsGetsSpec)

/-- ITS FALSE NEIGHBOUR: 'it returns false'. Refute it at one input. -/
def modelsGetsWrong : ChangeSpec := { name := "modelsGets", fn := fun _ => fun
  | [d1, d2, d3] => { results := [.lit (.bool false)], args := [d1, d2, d3] }
  | _ => none }
def ModelsGetsWrongFalsely : Prop := modelsGetsRow.holds Try.pinned (OpenSpec.ofChange modelsGetsWrong)

/-- 'bucketlinelaw13.ModelsApart': WHATEVER THE INPUT: true; the input reads as it did. -/
def modelsApartSpec : ChangeSpec := { name := "modelsApart", fn := fun _ => fun
  | [d1, d2, d3] => { results := [.lit (.bool true)], args := [d1, d2, d3] }
  | _ => none }
def modelsApartRow : OpenClaim := { program := "ytmjoaiepfipmaaa", sum := "1f36518e30d8fe677daa0e9ab5852214a9906fb88442e0dec4b1c281f69ca07e", func := "bucketline/bucketlinelaw13.ModelsApart", spec := "modelsApart", unfollowed := true, recurses := true, apart := false }
def ModelsApartSaid : Prop := modelsApartRow.holds Try.pinned (OpenSpec.ofChange modelsApartSpec)

/-- ITS FALSE NEIGHBOUR: 'it returns false'. Refute it at one input. -/
def modelsApartWrong : ChangeSpec := { name := "modelsApart", fn := fun _ => fun
  | [d1, d2, d3] => { results := [.lit (.bool false)], args := [d1, d2, d3] }
  | _ => none }
def ModelsApartWrongFalsely : Prop := modelsApartRow.holds Try.pinned (OpenSpec.ofChange modelsApartWrong)

/-- 'bucketlinelaw13.ModelsParts': WHATEVER THE INPUT: true; the input reads as it did. -/
def modelsPartsSpec : ChangeSpec := { name := "modelsParts", fn := fun _ => fun
  | [d1, d2, d3] => { results := [.lit (.bool true)], args := [d1, d2, d3] }
  | _ => none }
def modelsPartsRow : OpenClaim := { program := "ytmjoaiepfipmaaa", sum := "1f36518e30d8fe677daa0e9ab5852214a9906fb88442e0dec4b1c281f69ca07e", func := "bucketline/bucketlinelaw13.ModelsParts", spec := "modelsParts", unfollowed := true, recurses := true, apart := false }
def ModelsPartsSaid : Prop := modelsPartsRow.holds Try.pinned (OpenSpec.ofChange modelsPartsSpec)

/-- ITS FALSE NEIGHBOUR: 'it returns false'. Refute it at one input. -/
def modelsPartsWrong : ChangeSpec := { name := "modelsParts", fn := fun _ => fun
  | [d1, d2, d3] => { results := [.lit (.bool false)], args := [d1, d2, d3] }
  | _ => none }
def ModelsPartsWrongFalsely : Prop := modelsPartsRow.holds Try.pinned (OpenSpec.ofChange modelsPartsWrong)

/-- 'bucketlinelaw13.ModelsBatch': WHATEVER THE INPUT: true; the input reads as it did. -/
def modelsBatchSpec : ChangeSpec := { name := "modelsBatch", fn := fun _ => fun
  | [d1, d2] => { results := [.lit (.bool true)], args := [d1, d2] }
  | _ => none }
def modelsBatchRow : OpenClaim := { program := "ytmjoaiepfipmaaa", sum := "1f36518e30d8fe677daa0e9ab5852214a9906fb88442e0dec4b1c281f69ca07e", func := "bucketline/bucketlinelaw13.ModelsBatch", spec := "modelsBatch", unfollowed := true, recurses := true, apart := false }
def ModelsBatchSaid : Prop := modelsBatchRow.holds Try.pinned (OpenSpec.ofChange modelsBatchSpec)

/-- ITS FALSE NEIGHBOUR: 'it returns false'. Refute it at one input. -/
def modelsBatchWrong : ChangeSpec := { name := "modelsBatch", fn := fun _ => fun
  | [d1, d2] => { results := [.lit (.bool false)], args := [d1, d2] }
  | _ => none }
def ModelsBatchWrongFalsely : Prop := modelsBatchRow.holds Try.pinned (OpenSpec.ofChange modelsBatchWrong)

/- THE SECOND FORM. 'bulk': how many values and letters a reading holds, each counted each time it is reached (what is shared counts as often as it is met; a slice's spare places count too). A statement '..UptoSaid' is the law's where the arguments, and the package variables that the reading takes, are together of bulk at most 1048576: NARROWER than '..Said'. Prove '..Said' where nothing that the law and all that it calls make is longer than what came in: it says more and counts as full. Else prove '..UptoSaid'. A law counts once. -/
mutual
def uptoBulk {H : Type} : DataW H → Nat
  | .lit (.string bytes) => bytes.length + 1
  | .lit _ => 1
  | .nil => 1
  | .ptr d => uptoBulk d + 1
  | .slice elems spare => uptoBulkAll elems + uptoBulkAll spare + 1
  | .agg parts => uptoBulkAll parts + 1
  | .iface _ d => uptoBulk d + 1
  | .map entries => uptoBulkEntries entries + 1
  | .held _ => 1
def uptoBulkAll {H : Type} : List (DataW H) → Nat
  | [] => 0
  | d :: r => uptoBulk d + uptoBulkAll r
def uptoBulkEntries {H : Type} : List (Lit × DataW H) → Nat
  | [] => 0
  | x :: r => uptoBulkEntry x + uptoBulkEntries r
def uptoBulkEntry {H : Type} : Lit × DataW H → Nat
  | (.string bytes, d) => bytes.length + uptoBulk d + 1
  | (_, d) => uptoBulk d + 1
 end
def uptoSmall : (H : Type) → List (DataW H) → Bool := fun _ ds => decide (uptoBulkAll ds ≤ 1048576)
def OpenSpec.upto (s : _root_.Go.ChangeSpec) : _root_.Go.OpenSpec := { _root_.Go.OpenSpec.ofChange s with cond := some uptoSmall }

/-- 'bucketlinelaw13.ModelsNone', WHERE WHAT IT READS IS OF BULK AT MOST 1048576: true; the input reads as it did. -/
def modelsNoneUptoRow : OpenClaim := { program := "ytmjoaiepfipmaaa", sum := "1f36518e30d8fe677daa0e9ab5852214a9906fb88442e0dec4b1c281f69ca07e", func := "bucketline/bucketlinelaw13.ModelsNone", spec := "modelsNone", unfollowed := true, recurses := true, apart := false, narrowed := true }
def ModelsNoneUptoSaid : Prop := modelsNoneUptoRow.holds Try.pinned (OpenSpec.upto modelsNoneSpec)

/-- 'bucketlinelaw13.ModelsOnce', WHERE WHAT IT READS IS OF BULK AT MOST 1048576: true; the input reads as it did. -/
def modelsOnceUptoRow : OpenClaim := { program := "ytmjoaiepfipmaaa", sum := "1f36518e30d8fe677daa0e9ab5852214a9906fb88442e0dec4b1c281f69ca07e", func := "bucketline/bucketlinelaw13.ModelsOnce", spec := "modelsOnce", unfollowed := true, recurses := true, apart := false, narrowed := true }
def ModelsOnceUptoSaid : Prop := modelsOnceUptoRow.holds Try.pinned (OpenSpec.upto modelsOnceSpec)

/-- 'bucketlinelaw13.ModelsScan', WHERE WHAT IT READS IS OF BULK AT MOST 1048576: true; the input reads as it did. -/
def modelsScanUptoRow : OpenClaim := { program := "ytmjoaiepfipmaaa", sum := "1f36518e30d8fe677daa0e9ab5852214a9906fb88442e0dec4b1c281f69ca07e", func := "bucketline/bucketlinelaw13.ModelsScan", spec := "modelsScan", unfollowed := true, recurses := true, apart := false, narrowed := true }
def ModelsScanUptoSaid : Prop := modelsScanUptoRow.holds Try.pinned (OpenSpec.upto modelsScanSpec)

/-- 'bucketlinelaw13.ModelsAnew', WHERE WHAT IT READS IS OF BULK AT MOST 1048576: true; the input reads as it did. -/
def modelsAnewUptoRow : OpenClaim := { program := "ytmjoaiepfipmaaa", sum := "1f36518e30d8fe677daa0e9ab5852214a9906fb88442e0dec4b1c281f69ca07e", func := "bucketline/bucketlinelaw13.ModelsAnew", spec := "modelsAnew", unfollowed := true, recurses := true, apart := false, narrowed := true }
def ModelsAnewUptoSaid : Prop := modelsAnewUptoRow.holds Try.pinned (OpenSpec.upto modelsAnewSpec)

/-- 'bucketlinelaw13.ModelsChanges', WHERE WHAT IT READS IS OF BULK AT MOST 1048576: true; the input reads as it did. -/
def modelsChangesUptoRow : OpenClaim := { program := "ytmjoaiepfipmaaa", sum := "1f36518e30d8fe677daa0e9ab5852214a9906fb88442e0dec4b1c281f69ca07e", func := "bucketline/bucketlinelaw13.ModelsChanges", spec := "modelsChanges", unfollowed := true, recurses := true, apart := false, narrowed := true }
def ModelsChangesUptoSaid : Prop := modelsChangesUptoRow.holds Try.pinned (OpenSpec.upto modelsChangesSpec)

/-- 'bucketlinelaw13.ModelsGets', WHERE WHAT IT READS IS OF BULK AT MOST 1048576: true; the input reads as it did. -/
def modelsGetsUptoRow : OpenClaim := { program := "ytmjoaiepfipmaaa", sum := "1f36518e30d8fe677daa0e9ab5852214a9906fb88442e0dec4b1c281f69ca07e", func := "bucketline/bucketlinelaw13.ModelsGets", spec := "modelsGets", unfollowed := true, recurses := true, apart := false, narrowed := true }
def ModelsGetsUptoSaid : Prop := modelsGetsUptoRow.holds Try.pinned (OpenSpec.upto modelsGetsSpec)

/-- 'bucketlinelaw13.ModelsApart', WHERE WHAT IT READS IS OF BULK AT MOST 1048576: true; the input reads as it did. -/
def modelsApartUptoRow : OpenClaim := { program := "ytmjoaiepfipmaaa", sum := "1f36518e30d8fe677daa0e9ab5852214a9906fb88442e0dec4b1c281f69ca07e", func := "bucketline/bucketlinelaw13.ModelsApart", spec := "modelsApart", unfollowed := true, recurses := true, apart := false, narrowed := true }
def ModelsApartUptoSaid : Prop := modelsApartUptoRow.holds Try.pinned (OpenSpec.upto modelsApartSpec)

/-- 'bucketlinelaw13.ModelsParts', WHERE WHAT IT READS IS OF BULK AT MOST 1048576: true; the input reads as it did. -/
def modelsPartsUptoRow : OpenClaim := { program := "ytmjoaiepfipmaaa", sum := "1f36518e30d8fe677daa0e9ab5852214a9906fb88442e0dec4b1c281f69ca07e", func := "bucketline/bucketlinelaw13.ModelsParts", spec := "modelsParts", unfollowed := true, recurses := true, apart := false, narrowed := true }
def ModelsPartsUptoSaid : Prop := modelsPartsUptoRow.holds Try.pinned (OpenSpec.upto modelsPartsSpec)

/-- 'bucketlinelaw13.ModelsBatch', WHERE WHAT IT READS IS OF BULK AT MOST 1048576: true; the input reads as it did. -/
def modelsBatchUptoRow : OpenClaim := { program := "ytmjoaiepfipmaaa", sum := "1f36518e30d8fe677daa0e9ab5852214a9906fb88442e0dec4b1c281f69ca07e", func := "bucketline/bucketlinelaw13.ModelsBatch", spec := "modelsBatch", unfollowed := true, recurses := true, apart := false, narrowed := true }
def ModelsBatchUptoSaid : Prop := modelsBatchUptoRow.holds Try.pinned (OpenSpec.upto modelsBatchSpec)

end Rows
end Go.Proofs.Ytmjoaiepfipmaaa
