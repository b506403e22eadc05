/-
  No cell of these rows narrows 'for every input' (looked for: loops, veiled, ifaces, maps, wideKeys, modest, calm, conditions, laid).
  DERIVED. THE GIVEN ROWS OF THIS SEAT. 4 by the template 'for every input the law returns true; each argument reads behind the call as it read before'; 0 by the template 'total and deterministic' (their statements: YtgbiifefpidebaaTotals.lean).
  GIVEN WITH THE SEED: the statements are not yours to turn. If you find one false, say at which input.
  Laid BY PROGRAM, IN A SANDBOX (cutbox-rows.mjs): the forced cells as the released guide's own fill.sh prints them over the translation ecf721e9b2f606b0… (all of the seat's roots in one cut). By AI agents, Wed Nov 11 2026. No macro, syntax, notation, axiom, sorry.
-/
import Derived.Test.YtgbiifefpidebaaChecked
import GoSem.Claim
import GoSem.ClaimJoined
import GoSem.ClaimMapViews
import Derived.JoinedTies
import Derived.KernelRfl
namespace Go.Proofs.Ytgbiifefpidebaa
/- THE CELL 'sum', in the pinned program and in every row, IS THE sha256 OF THE DUMP (.gsa) THAT YtgbiifefpidebaaProg.lean LOADS. Nothing in Lean hashes anything: it is a label: what it is worth is what the hold of that sum in a sandbox is worth. -/
noncomputable def Try.pinned : Pinned := { name := "ytgbiifefpidebaa", sum := "ecf721e9b2f606b07ac25894be9547a567ec156a839a02214cc9113c79c55ac6", checked := Try.checked }
namespace Rows
def none {H : Type} : Left H := { results := [], args := [] }

/-- 'bucketlinelaw22.PastsAhead': WHATEVER THE INPUT: true; the input reads as it did. -/
def pastsAheadSpec : ChangeSpec := { name := "pastsAhead", fn := fun _ => fun
  | [d] => { results := [.lit (.bool true)], args := [d] }
  | _ => none }
def pastsAheadRow : OpenClaim := { program := "ytgbiifefpidebaa", sum := "ecf721e9b2f606b07ac25894be9547a567ec156a839a02214cc9113c79c55ac6", func := "bucketline/bucketlinelaw22.PastsAhead", spec := "pastsAhead", unfollowed := true, recurses := true, plainKeys := false, apart := false }
def PastsAheadSaid : Prop := pastsAheadRow.holds Try.pinned (OpenSpec.ofChange pastsAheadSpec)

/-- ITS FALSE NEIGHBOUR: 'it returns false'. Refute it at one input. -/
def pastsAheadWrong : ChangeSpec := { name := "pastsAhead", fn := fun _ => fun
  | [d] => { results := [.lit (.bool false)], args := [d] }
  | _ => none }
def PastsAheadWrongFalsely : Prop := pastsAheadRow.holds Try.pinned (OpenSpec.ofChange pastsAheadWrong)

/-- 'bucketlinelaw22.PastsRise': WHATEVER THE INPUT: true; the input reads as it did. -/
def pastsRiseSpec : ChangeSpec := { name := "pastsRise", fn := fun _ => fun
  | [d1, d2] => { results := [.lit (.bool true)], args := [d1, d2] }
  | _ => none }
def pastsRiseRow : OpenClaim := { program := "ytgbiifefpidebaa", sum := "ecf721e9b2f606b07ac25894be9547a567ec156a839a02214cc9113c79c55ac6", func := "bucketline/bucketlinelaw22.PastsRise", spec := "pastsRise", unfollowed := true, recurses := true, plainKeys := false, apart := false }
def PastsRiseSaid : Prop := pastsRiseRow.holds Try.pinned (OpenSpec.ofChange pastsRiseSpec)

/-- ITS FALSE NEIGHBOUR: 'it returns false'. Refute it at one input. -/
def pastsRiseWrong : ChangeSpec := { name := "pastsRise", fn := fun _ => fun
  | [d1, d2] => { results := [.lit (.bool false)], args := [d1, d2] }
  | _ => none }
def PastsRiseWrongFalsely : Prop := pastsRiseRow.holds Try.pinned (OpenSpec.ofChange pastsRiseWrong)

/-- 'bucketlinelaw22.PastsBegin': WHATEVER THE INPUT: true; the input reads as it did. -/
def pastsBeginSpec : ChangeSpec := { name := "pastsBegin", fn := fun _ => fun
  | [d1, d2] => { results := [.lit (.bool true)], args := [d1, d2] }
  | _ => none }
def pastsBeginRow : OpenClaim := { program := "ytgbiifefpidebaa", sum := "ecf721e9b2f606b07ac25894be9547a567ec156a839a02214cc9113c79c55ac6", func := "bucketline/bucketlinelaw22.PastsBegin", spec := "pastsBegin", unfollowed := true, recurses := true, plainKeys := false, apart := false }
def PastsBeginSaid : Prop := pastsBeginRow.holds Try.pinned (OpenSpec.ofChange pastsBeginSpec)

/-- ITS FALSE NEIGHBOUR: 'it returns false'. Refute it at one input. -/
def pastsBeginWrong : ChangeSpec := { name := "pastsBegin", fn := fun _ => fun
  | [d1, d2] => { results := [.lit (.bool false)], args := [d1, d2] }
  | _ => none }
def PastsBeginWrongFalsely : Prop := pastsBeginRow.holds Try.pinned (OpenSpec.ofChange pastsBeginWrong)

/-- 'bucketlinelaw22.PastsItems': WHATEVER THE INPUT: true; the input reads as it did. -/
def pastsItemsSpec : ChangeSpec := { name := "pastsItems", fn := fun _ => fun
  | [d] => { results := [.lit (.bool true)], args := [d] }
  | _ => none }
def pastsItemsRow : OpenClaim := { program := "ytgbiifefpidebaa", sum := "ecf721e9b2f606b07ac25894be9547a567ec156a839a02214cc9113c79c55ac6", func := "bucketline/bucketlinelaw22.PastsItems", spec := "pastsItems", unfollowed := true, recurses := true, plainKeys := false, apart := false }
def PastsItemsSaid : Prop := pastsItemsRow.holds Try.pinned (OpenSpec.ofChange pastsItemsSpec)

/-- ITS FALSE NEIGHBOUR: 'it returns false'. Refute it at one input. -/
def pastsItemsWrong : ChangeSpec := { name := "pastsItems", fn := fun _ => fun
  | [d] => { results := [.lit (.bool false)], args := [d] }
  | _ => none }
def PastsItemsWrongFalsely : Prop := pastsItemsRow.holds Try.pinned (OpenSpec.ofChange pastsItemsWrong)

/- THE SECOND FORM. 'bulk': how many values and letters a reading holds, each counted each time it is reached (what is shared counts as often as it is met; a slice's spare places count too). A statement '..UptoSaid' is the law's where the arguments, and the package variables that the reading takes, are together of bulk at most 1048576: NARROWER than '..Said'. Prove '..Said' where nothing that the law and all that it calls make is longer than what came in: it says more and counts as full. Else prove '..UptoSaid'. A law counts once. -/
mutual
def uptoBulk {H : Type} : DataW H → Nat
  | .lit (.string bytes) => bytes.length + 1
  | .lit _ => 1
  | .nil => 1
  | .ptr d => uptoBulk d + 1
  | .slice elems spare => uptoBulkAll elems + uptoBulkAll spare + 1
  | .agg parts => uptoBulkAll parts + 1
  | .iface _ d => uptoBulk d + 1
  | .map entries => uptoBulkEntries entries + 1
  | .held _ => 1
def uptoBulkAll {H : Type} : List (DataW H) → Nat
  | [] => 0
  | d :: r => uptoBulk d + uptoBulkAll r
def uptoBulkEntries {H : Type} : List (Lit × DataW H) → Nat
  | [] => 0
  | x :: r => uptoBulkEntry x + uptoBulkEntries r
def uptoBulkEntry {H : Type} : Lit × DataW H → Nat
  | (.string bytes, d) => bytes.length + uptoBulk d + 1
  | (_, d) => uptoBulk d + 1
 end
def uptoSmall : (H : Type) → List (DataW H) → Bool := fun _ ds => decide (uptoBulkAll ds ≤ 1048576)
def OpenSpec.upto (s : _root_.Go.ChangeSpec) : _root_.Go.OpenSpec := { _root_.Go.OpenSpec.ofChange s with cond := some uptoSmall }

/-- 'bucketlinelaw22.PastsAhead', WHERE WHAT IT READS IS OF BULK AT MOST 1048576: true; the input reads as it did. -/
def pastsAheadUptoRow : OpenClaim := { program := "ytgbiifefpidebaa", sum := "ecf721e9b2f606b07ac25894be9547a567ec156a839a02214cc9113c79c55ac6", func := "bucketline/bucketlinelaw22.PastsAhead", spec := "pastsAhead", unfollowed := true, recurses := true, plainKeys := false, apart := false, narrowed := true }
def PastsAheadUptoSaid : Prop := pastsAheadUptoRow.holds Try.pinned (OpenSpec.upto pastsAheadSpec)

/-- 'bucketlinelaw22.PastsRise', WHERE WHAT IT READS IS OF BULK AT MOST 1048576: true; the input reads as it did. -/
def pastsRiseUptoRow : OpenClaim := { program := "ytgbiifefpidebaa", sum := "ecf721e9b2f606b07ac25894be9547a567ec156a839a02214cc9113c79c55ac6", func := "bucketline/bucketlinelaw22.PastsRise", spec := "pastsRise", unfollowed := true, recurses := true, plainKeys := false, apart := false, narrowed := true }
def PastsRiseUptoSaid : Prop := pastsRiseUptoRow.holds Try.pinned (OpenSpec.upto pastsRiseSpec)

/-- 'bucketlinelaw22.PastsBegin', WHERE WHAT IT READS IS OF BULK AT MOST 1048576: true; the input reads as it did. -/
def pastsBeginUptoRow : OpenClaim := { program := "ytgbiifefpidebaa", sum := "ecf721e9b2f606b07ac25894be9547a567ec156a839a02214cc9113c79c55ac6", func := "bucketline/bucketlinelaw22.PastsBegin", spec := "pastsBegin", unfollowed := true, recurses := true, plainKeys := false, apart := false, narrowed := true }
def PastsBeginUptoSaid : Prop := pastsBeginUptoRow.holds Try.pinned (OpenSpec.upto pastsBeginSpec)

/-- 'bucketlinelaw22.PastsItems', WHERE WHAT IT READS IS OF BULK AT MOST 1048576: true; the input reads as it did. -/
def pastsItemsUptoRow : OpenClaim := { program := "ytgbiifefpidebaa", sum := "ecf721e9b2f606b07ac25894be9547a567ec156a839a02214cc9113c79c55ac6", func := "bucketline/bucketlinelaw22.PastsItems", spec := "pastsItems", unfollowed := true, recurses := true, plainKeys := false, apart := false, narrowed := true }
def PastsItemsUptoSaid : Prop := pastsItemsUptoRow.holds Try.pinned (OpenSpec.upto pastsItemsSpec)

end Rows
end Go.Proofs.Ytgbiifefpidebaa
