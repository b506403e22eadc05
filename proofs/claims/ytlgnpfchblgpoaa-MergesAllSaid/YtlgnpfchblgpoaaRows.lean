/-
  No cell of these rows narrows 'for every input' (looked for: loops, veiled, ifaces, maps, wideKeys, modest, calm, conditions, laid).
  DERIVED. THE GIVEN ROWS OF THIS SEAT. 7 by the template 'for every input the law returns true; each argument reads behind the call as it read before'; 0 by the template 'total and deterministic' (their statements: YtlgnpfchblgpoaaTotals.lean).
  GIVEN WITH THE SEED: the statements are not yours to turn. If you find one false, say at which input.
  Laid BY PROGRAM, IN A SANDBOX (cutbox-rows.mjs): the forced cells as the released guide's own fill.sh prints them over the translation de34d90c289a1f45… (all of the seat's roots in one cut). By AI agents, Wed Nov 11 2026. No macro, syntax, notation, axiom, sorry.
-/
import Derived.Test.YtlgnpfchblgpoaaChecked
import GoSem.Claim
import GoSem.ClaimJoined
import GoSem.ClaimMapViews
import Derived.JoinedTies
import Derived.KernelRfl
namespace Go.Proofs.Ytlgnpfchblgpoaa
/- THE CELL 'sum', in the pinned program and in every row, IS THE sha256 OF THE DUMP (.gsa) THAT YtlgnpfchblgpoaaProg.lean LOADS. Nothing in Lean hashes anything: it is a label: what it is worth is what the hold of that sum in a sandbox is worth. -/
noncomputable def Try.pinned : Pinned := { name := "ytlgnpfchblgpoaa", sum := "de34d90c289a1f458f97b90c5e224862a06111299ddb4508bf91c948563bd180", checked := Try.checked }
namespace Rows
def none {H : Type} : Left H := { results := [], args := [] }

/-- 'bucketlinelaw12.MergesAll': WHATEVER THE INPUT: true; the input reads as it did. -/
def mergesAllSpec : ChangeSpec := { name := "mergesAll", fn := fun _ => fun
  | [d1, d2, d3] => { results := [.lit (.bool true)], args := [d1, d2, d3] }
  | _ => none }
def mergesAllRow : OpenClaim := { program := "ytlgnpfchblgpoaa", sum := "de34d90c289a1f458f97b90c5e224862a06111299ddb4508bf91c948563bd180", func := "bucketline/bucketlinelaw12.MergesAll", spec := "mergesAll", unfollowed := true, recurses := true, apart := false }
def MergesAllSaid : Prop := mergesAllRow.holds Try.pinned (OpenSpec.ofChange mergesAllSpec)

/-- ITS FALSE NEIGHBOUR: 'it returns false'. Refute it at one input. -/
def mergesAllWrong : ChangeSpec := { name := "mergesAll", fn := fun _ => fun
  | [d1, d2, d3] => { results := [.lit (.bool false)], args := [d1, d2, d3] }
  | _ => none }
def MergesAllWrongFalsely : Prop := mergesAllRow.holds Try.pinned (OpenSpec.ofChange mergesAllWrong)

/-- 'bucketlinelaw12.MergesShow': WHATEVER THE INPUT: true; the input reads as it did. -/
def mergesShowSpec : ChangeSpec := { name := "mergesShow", fn := fun _ => fun
  | [d1, d2, d3] => { results := [.lit (.bool true)], args := [d1, d2, d3] }
  | _ => none }
def mergesShowRow : OpenClaim := { program := "ytlgnpfchblgpoaa", sum := "de34d90c289a1f458f97b90c5e224862a06111299ddb4508bf91c948563bd180", func := "bucketline/bucketlinelaw12.MergesShow", spec := "mergesShow", unfollowed := true, recurses := true, apart := false }
def MergesShowSaid : Prop := mergesShowRow.holds Try.pinned (OpenSpec.ofChange mergesShowSpec)

/-- ITS FALSE NEIGHBOUR: 'it returns false'. Refute it at one input. -/
def mergesShowWrong : ChangeSpec := { name := "mergesShow", fn := fun _ => fun
  | [d1, d2, d3] => { results := [.lit (.bool false)], args := [d1, d2, d3] }
  | _ => none }
def MergesShowWrongFalsely : Prop := mergesShowRow.holds Try.pinned (OpenSpec.ofChange mergesShowWrong)

/-- 'bucketlinelaw12.MergesRows': WHATEVER THE INPUT: true; the input reads as it did. -/
def mergesRowsSpec : ChangeSpec := { name := "mergesRows", fn := fun _ => fun
  | [d1, d2] => { results := [.lit (.bool true)], args := [d1, d2] }
  | _ => none }
def mergesRowsRow : OpenClaim := { program := "ytlgnpfchblgpoaa", sum := "de34d90c289a1f458f97b90c5e224862a06111299ddb4508bf91c948563bd180", func := "bucketline/bucketlinelaw12.MergesRows", spec := "mergesRows", unfollowed := true, recurses := true, apart := false }
def MergesRowsSaid : Prop := mergesRowsRow.holds Try.pinned (OpenSpec.ofChange mergesRowsSpec)

/-- ITS FALSE NEIGHBOUR: 'it returns false'. Refute it at one input. -/
def mergesRowsWrong : ChangeSpec := { name := "mergesRows", fn := fun _ => fun
  | [d1, d2] => { results := [.lit (.bool false)], args := [d1, d2] }
  | _ => none }
def MergesRowsWrongFalsely : Prop := mergesRowsRow.holds Try.pinned (OpenSpec.ofChange mergesRowsWrong)

/-- 'bucketlinelaw12.MergesLast': WHATEVER THE INPUT: true; the input reads as it did. -/
def mergesLastSpec : ChangeSpec := { name := "mergesLast", fn := fun _ => fun
  | [d1, d2] => { results := [.lit (.bool true)], args := [d1, d2] }
  | _ => none }
def mergesLastRow : OpenClaim := { program := "ytlgnpfchblgpoaa", sum := "de34d90c289a1f458f97b90c5e224862a06111299ddb4508bf91c948563bd180", func := "bucketline/bucketlinelaw12.MergesLast", spec := "mergesLast", unfollowed := true, recurses := true, apart := false }
def MergesLastSaid : Prop := mergesLastRow.holds Try.pinned (OpenSpec.ofChange mergesLastSpec)

/-- ITS FALSE NEIGHBOUR: 'it returns false'. Refute it at one input. -/
def mergesLastWrong : ChangeSpec := { name := "mergesLast", fn := fun _ => fun
  | [d1, d2] => { results := [.lit (.bool false)], args := [d1, d2] }
  | _ => none }
def MergesLastWrongFalsely : Prop := mergesLastRow.holds Try.pinned (OpenSpec.ofChange mergesLastWrong)

/-- 'bucketlinelaw12.MergesParts': WHATEVER THE INPUT: true; the input reads as it did. -/
def mergesPartsSpec : ChangeSpec := { name := "mergesParts", fn := fun _ => fun
  | [d1, d2, d3] => { results := [.lit (.bool true)], args := [d1, d2, d3] }
  | _ => none }
def mergesPartsRow : OpenClaim := { program := "ytlgnpfchblgpoaa", sum := "de34d90c289a1f458f97b90c5e224862a06111299ddb4508bf91c948563bd180", func := "bucketline/bucketlinelaw12.MergesParts", spec := "mergesParts", unfollowed := true, recurses := true, apart := false }
def MergesPartsSaid : Prop := mergesPartsRow.holds Try.pinned (OpenSpec.ofChange mergesPartsSpec)

/-- ITS FALSE NEIGHBOUR: 'it returns false'. Refute it at one input. -/
def mergesPartsWrong : ChangeSpec := { name := "mergesParts", fn := fun _ => fun
  | [d1, d2, d3] => { results := [.lit (.bool false)], args := [d1, d2, d3] }
  | _ => none }
def MergesPartsWrongFalsely : Prop := mergesPartsRow.holds Try.pinned (OpenSpec.ofChange mergesPartsWrong)

/-- 'bucketlinelaw12.MergesLooks': WHATEVER THE INPUT: true; the input reads as it did. -/
def mergesLooksSpec : ChangeSpec := { name := "mergesLooks", fn := fun _ => fun
  | [d1, d2, d3] => { results := [.lit (.bool true)], args := [d1, d2, d3] }
  | _ => none }
def mergesLooksRow : OpenClaim := { program := "ytlgnpfchblgpoaa", sum := "de34d90c289a1f458f97b90c5e224862a06111299ddb4508bf91c948563bd180", func := "bucketline/bucketlinelaw12.MergesLooks", spec := "mergesLooks", unfollowed := true, recurses := true, apart := false }
def MergesLooksSaid : Prop := mergesLooksRow.holds Try.pinned (OpenSpec.ofChange mergesLooksSpec)

/-- ITS FALSE NEIGHBOUR: 'it returns false'. Refute it at one input. -/
def mergesLooksWrong : ChangeSpec := { name := "mergesLooks", fn := fun _ => fun
  | [d1, d2, d3] => { results := [.lit (.bool false)], args := [d1, d2, d3] }
  | _ => none }
def MergesLooksWrongFalsely : Prop := mergesLooksRow.holds Try.pinned (OpenSpec.ofChange mergesLooksWrong)

/-- 'bucketlinelaw12.MergesTwo': WHATEVER THE INPUT: true; the input reads as it did. -/
def mergesTwoSpec : ChangeSpec := { name := "mergesTwo", fn := fun _ => fun
  | [d1, d2] => { results := [.lit (.bool true)], args := [d1, d2] }
  | _ => none }
def mergesTwoRow : OpenClaim := { program := "ytlgnpfchblgpoaa", sum := "de34d90c289a1f458f97b90c5e224862a06111299ddb4508bf91c948563bd180", func := "bucketline/bucketlinelaw12.MergesTwo", spec := "mergesTwo", unfollowed := true, recurses := true, apart := false }
def MergesTwoSaid : Prop := mergesTwoRow.holds Try.pinned (OpenSpec.ofChange mergesTwoSpec)

/-- ITS FALSE NEIGHBOUR: 'it returns false'. Refute it at one input. -/
def mergesTwoWrong : ChangeSpec := { name := "mergesTwo", fn := fun _ => fun
  | [d1, d2] => { results := [.lit (.bool false)], args := [d1, d2] }
  | _ => none }
def MergesTwoWrongFalsely : Prop := mergesTwoRow.holds Try.pinned (OpenSpec.ofChange mergesTwoWrong)

/- THE SECOND FORM. 'bulk': how many values and letters a reading holds, each counted each time it is reached (what is shared counts as often as it is met; a slice's spare places count too). A statement '..UptoSaid' is the law's where the arguments, and the package variables that the reading takes, are together of bulk at most 1048576: NARROWER than '..Said'. Prove '..Said' where nothing that the law and all that it calls make is longer than what came in: it says more and counts as full. Else prove '..UptoSaid'. A law counts once. -/
mutual
def uptoBulk {H : Type} : DataW H → Nat
  | .lit (.string bytes) => bytes.length + 1
  | .lit _ => 1
  | .nil => 1
  | .ptr d => uptoBulk d + 1
  | .slice elems spare => uptoBulkAll elems + uptoBulkAll spare + 1
  | .agg parts => uptoBulkAll parts + 1
  | .iface _ d => uptoBulk d + 1
  | .map entries => uptoBulkEntries entries + 1
  | .held _ => 1
def uptoBulkAll {H : Type} : List (DataW H) → Nat
  | [] => 0
  | d :: r => uptoBulk d + uptoBulkAll r
def uptoBulkEntries {H : Type} : List (Lit × DataW H) → Nat
  | [] => 0
  | x :: r => uptoBulkEntry x + uptoBulkEntries r
def uptoBulkEntry {H : Type} : Lit × DataW H → Nat
  | (.string bytes, d) => bytes.length + uptoBulk d + 1
  | (_, d) => uptoBulk d + 1
 end
def uptoSmall : (H : Type) → List (DataW H) → Bool := fun _ ds => decide (uptoBulkAll ds ≤ 1048576)
def OpenSpec.upto (s : _root_.Go.ChangeSpec) : _root_.Go.OpenSpec := { _root_.Go.OpenSpec.ofChange s with cond := some uptoSmall }

/-- 'bucketlinelaw12.MergesAll', WHERE WHAT IT READS IS OF BULK AT MOST 1048576: true; the input reads as it did. -/
def mergesAllUptoRow : OpenClaim := { program := "ytlgnpfchblgpoaa", sum := "de34d90c289a1f458f97b90c5e224862a06111299ddb4508bf91c948563bd180", func := "bucketline/bucketlinelaw12.MergesAll", spec := "mergesAll", unfollowed := true, recurses := true, apart := false, narrowed := true }
def MergesAllUptoSaid : Prop := mergesAllUptoRow.holds Try.pinned (OpenSpec.upto mergesAllSpec)

/-- 'bucketlinelaw12.MergesShow', WHERE WHAT IT READS IS OF BULK AT MOST 1048576: true; the input reads as it did. -/
def mergesShowUptoRow : OpenClaim := { program := "ytlgnpfchblgpoaa", sum := "de34d90c289a1f458f97b90c5e224862a06111299ddb4508bf91c948563bd180", func := "bucketline/bucketlinelaw12.MergesShow", spec := "mergesShow", unfollowed := true, recurses := true, apart := false, narrowed := true }
def MergesShowUptoSaid : Prop := mergesShowUptoRow.holds Try.pinned (OpenSpec.upto mergesShowSpec)

/-- 'bucketlinelaw12.MergesRows', WHERE WHAT IT READS IS OF BULK AT MOST 1048576: true; the input reads as it did. -/
def mergesRowsUptoRow : OpenClaim := { program := "ytlgnpfchblgpoaa", sum := "de34d90c289a1f458f97b90c5e224862a06111299ddb4508bf91c948563bd180", func := "bucketline/bucketlinelaw12.MergesRows", spec := "mergesRows", unfollowed := true, recurses := true, apart := false, narrowed := true }
def MergesRowsUptoSaid : Prop := mergesRowsUptoRow.holds Try.pinned (OpenSpec.upto mergesRowsSpec)

/-- 'bucketlinelaw12.MergesLast', WHERE WHAT IT READS IS OF BULK AT MOST 1048576: true; the input reads as it did. -/
def mergesLastUptoRow : OpenClaim := { program := "ytlgnpfchblgpoaa", sum := "de34d90c289a1f458f97b90c5e224862a06111299ddb4508bf91c948563bd180", func := "bucketline/bucketlinelaw12.MergesLast", spec := "mergesLast", unfollowed := true, recurses := true, apart := false, narrowed := true }
def MergesLastUptoSaid : Prop := mergesLastUptoRow.holds Try.pinned (OpenSpec.upto mergesLastSpec)

/-- 'bucketlinelaw12.MergesParts', WHERE WHAT IT READS IS OF BULK AT MOST 1048576: true; the input reads as it did. -/
def mergesPartsUptoRow : OpenClaim := { program := "ytlgnpfchblgpoaa", sum := "de34d90c289a1f458f97b90c5e224862a06111299ddb4508bf91c948563bd180", func := "bucketline/bucketlinelaw12.MergesParts", spec := "mergesParts", unfollowed := true, recurses := true, apart := false, narrowed := true }
def MergesPartsUptoSaid : Prop := mergesPartsUptoRow.holds Try.pinned (OpenSpec.upto mergesPartsSpec)

/-- 'bucketlinelaw12.MergesLooks', WHERE WHAT IT READS IS OF BULK AT MOST 1048576: true; the input reads as it did. -/
def mergesLooksUptoRow : OpenClaim := { program := "ytlgnpfchblgpoaa", sum := "de34d90c289a1f458f97b90c5e224862a06111299ddb4508bf91c948563bd180", func := "bucketline/bucketlinelaw12.MergesLooks", spec := "mergesLooks", unfollowed := true, recurses := true, apart := false, narrowed := true }
def MergesLooksUptoSaid : Prop := mergesLooksUptoRow.holds Try.pinned (OpenSpec.upto mergesLooksSpec)

/-- 'bucketlinelaw12.MergesTwo', WHERE WHAT IT READS IS OF BULK AT MOST 1048576: true; the input reads as it did. -/
def mergesTwoUptoRow : OpenClaim := { program := "ytlgnpfchblgpoaa", sum := "de34d90c289a1f458f97b90c5e224862a06111299ddb4508bf91c948563bd180", func := "bucketline/bucketlinelaw12.MergesTwo", spec := "mergesTwo", unfollowed := true, recurses := true, apart := false, narrowed := true }
def MergesTwoUptoSaid : Prop := mergesTwoUptoRow.holds Try.pinned (OpenSpec.upto mergesTwoSpec)

end Rows
end Go.Proofs.Ytlgnpfchblgpoaa
