/-
  No cell of these rows narrows 'for every input' (looked for: loops, veiled, ifaces, maps, wideKeys, modest, calm, conditions, laid).
  DERIVED. THE GIVEN ROWS OF THIS SEAT. 7 by the template 'for every input the law returns true; each argument reads behind the call as it read before'; 0 by the template 'total and deterministic' (their statements: YthhmehkclgmppaaTotals.lean).
  GIVEN WITH THE SEED: the statements are not yours to turn. If you find one false, say at which input.
  Laid BY PROGRAM, IN A SANDBOX (cutbox-rows.mjs): the forced cells as the released guide's own fill.sh prints them over the translation 74424e999ff0b6b9… (all of the seat's roots in one cut). By AI agents, Wed Nov 11 2026. No macro, syntax, notation, axiom, sorry.
-/
import Derived.Test.YthhmehkclgmppaaChecked
import GoSem.Claim
import GoSem.ClaimJoined
import GoSem.ClaimMapViews
import Derived.JoinedTies
import Derived.KernelRfl
namespace Go.Proofs.Ythhmehkclgmppaa
/- THE CELL 'sum', in the pinned program and in every row, IS THE sha256 OF THE DUMP (.gsa) THAT YthhmehkclgmppaaProg.lean LOADS. Nothing in Lean hashes anything: it is a label: what it is worth is what the hold of that sum in a sandbox is worth. -/
noncomputable def Try.pinned : Pinned := { name := "ythhmehkclgmppaa", sum := "74424e999ff0b6b9d85c715e88e6852298021903ef321be5815a2cf8b3333ef5", checked := Try.checked }
namespace Rows
def none {H : Type} : Left H := { results := [], args := [] }

/-- 'bucketlinelaw07.TablesNone': WHATEVER THE INPUT: true; the input reads as it did. -/
def tablesNoneSpec : ChangeSpec := { name := "tablesNone", fn := fun _ => fun
  | [d1, d2] => { results := [.lit (.bool true)], args := [d1, d2] }
  | _ => none }
def tablesNoneRow : OpenClaim := { program := "ythhmehkclgmppaa", sum := "74424e999ff0b6b9d85c715e88e6852298021903ef321be5815a2cf8b3333ef5", func := "bucketline/bucketlinelaw07.TablesNone", spec := "tablesNone", unfollowed := true, recurses := true, apart := false }
def TablesNoneSaid : Prop := tablesNoneRow.holds Try.pinned (OpenSpec.ofChange tablesNoneSpec)

/-- ITS FALSE NEIGHBOUR: 'it returns false'. Refute it at one input. -/
def tablesNoneWrong : ChangeSpec := { name := "tablesNone", fn := fun _ => fun
  | [d1, d2] => { results := [.lit (.bool false)], args := [d1, d2] }
  | _ => none }
def TablesNoneWrongFalsely : Prop := tablesNoneRow.holds Try.pinned (OpenSpec.ofChange tablesNoneWrong)

/-- 'bucketlinelaw07.TablesOrder': WHATEVER THE INPUT: true; the input reads as it did. -/
def tablesOrderSpec : ChangeSpec := { name := "tablesOrder", fn := fun _ => fun
  | [d1, d2, d3] => { results := [.lit (.bool true)], args := [d1, d2, d3] }
  | _ => none }
def tablesOrderRow : OpenClaim := { program := "ythhmehkclgmppaa", sum := "74424e999ff0b6b9d85c715e88e6852298021903ef321be5815a2cf8b3333ef5", func := "bucketline/bucketlinelaw07.TablesOrder", spec := "tablesOrder", unfollowed := true, recurses := true, apart := false }
def TablesOrderSaid : Prop := tablesOrderRow.holds Try.pinned (OpenSpec.ofChange tablesOrderSpec)

/-- ITS FALSE NEIGHBOUR: 'it returns false'. Refute it at one input. -/
def tablesOrderWrong : ChangeSpec := { name := "tablesOrder", fn := fun _ => fun
  | [d1, d2, d3] => { results := [.lit (.bool false)], args := [d1, d2, d3] }
  | _ => none }
def TablesOrderWrongFalsely : Prop := tablesOrderRow.holds Try.pinned (OpenSpec.ofChange tablesOrderWrong)

/-- 'bucketlinelaw07.TablesGet': WHATEVER THE INPUT: true; the input reads as it did. -/
def tablesGetSpec : ChangeSpec := { name := "tablesGet", fn := fun _ => fun
  | [d1, d2, d3] => { results := [.lit (.bool true)], args := [d1, d2, d3] }
  | _ => none }
def tablesGetRow : OpenClaim := { program := "ythhmehkclgmppaa", sum := "74424e999ff0b6b9d85c715e88e6852298021903ef321be5815a2cf8b3333ef5", func := "bucketline/bucketlinelaw07.TablesGet", spec := "tablesGet", unfollowed := true, recurses := true, apart := false }
def TablesGetSaid : Prop := tablesGetRow.holds Try.pinned (OpenSpec.ofChange tablesGetSpec)

/-- ITS FALSE NEIGHBOUR: 'it returns false'. Refute it at one input. -/
def tablesGetWrong : ChangeSpec := { name := "tablesGet", fn := fun _ => fun
  | [d1, d2, d3] => { results := [.lit (.bool false)], args := [d1, d2, d3] }
  | _ => none }
def TablesGetWrongFalsely : Prop := tablesGetRow.holds Try.pinned (OpenSpec.ofChange tablesGetWrong)

/-- 'bucketlinelaw07.TablesFrom': WHATEVER THE INPUT: true; the input reads as it did. -/
def tablesFromSpec : ChangeSpec := { name := "tablesFrom", fn := fun _ => fun
  | [d1, d2, d3] => { results := [.lit (.bool true)], args := [d1, d2, d3] }
  | _ => none }
def tablesFromRow : OpenClaim := { program := "ythhmehkclgmppaa", sum := "74424e999ff0b6b9d85c715e88e6852298021903ef321be5815a2cf8b3333ef5", func := "bucketline/bucketlinelaw07.TablesFrom", spec := "tablesFrom", unfollowed := true, recurses := true, apart := false }
def TablesFromSaid : Prop := tablesFromRow.holds Try.pinned (OpenSpec.ofChange tablesFromSpec)

/-- ITS FALSE NEIGHBOUR: 'it returns false'. Refute it at one input. -/
def tablesFromWrong : ChangeSpec := { name := "tablesFrom", fn := fun _ => fun
  | [d1, d2, d3] => { results := [.lit (.bool false)], args := [d1, d2, d3] }
  | _ => none }
def TablesFromWrongFalsely : Prop := tablesFromRow.holds Try.pinned (OpenSpec.ofChange tablesFromWrong)

/-- 'bucketlinelaw07.TablesFull': WHATEVER THE INPUT: true; the input reads as it did. -/
def tablesFullSpec : ChangeSpec := { name := "tablesFull", fn := fun _ => fun
  | [d1, d2, d3] => { results := [.lit (.bool true)], args := [d1, d2, d3] }
  | _ => none }
def tablesFullRow : OpenClaim := { program := "ythhmehkclgmppaa", sum := "74424e999ff0b6b9d85c715e88e6852298021903ef321be5815a2cf8b3333ef5", func := "bucketline/bucketlinelaw07.TablesFull", spec := "tablesFull", unfollowed := true, recurses := true, apart := false }
def TablesFullSaid : Prop := tablesFullRow.holds Try.pinned (OpenSpec.ofChange tablesFullSpec)

/-- ITS FALSE NEIGHBOUR: 'it returns false'. Refute it at one input. -/
def tablesFullWrong : ChangeSpec := { name := "tablesFull", fn := fun _ => fun
  | [d1, d2, d3] => { results := [.lit (.bool false)], args := [d1, d2, d3] }
  | _ => none }
def TablesFullWrongFalsely : Prop := tablesFullRow.holds Try.pinned (OpenSpec.ofChange tablesFullWrong)

/-- 'bucketlinelaw07.TablesBytes': WHATEVER THE INPUT: true; the input reads as it did. -/
def tablesBytesSpec : ChangeSpec := { name := "tablesBytes", fn := fun _ => fun
  | [d1, d2] => { results := [.lit (.bool true)], args := [d1, d2] }
  | _ => none }
def tablesBytesRow : OpenClaim := { program := "ythhmehkclgmppaa", sum := "74424e999ff0b6b9d85c715e88e6852298021903ef321be5815a2cf8b3333ef5", func := "bucketline/bucketlinelaw07.TablesBytes", spec := "tablesBytes", unfollowed := true, recurses := true, apart := false }
def TablesBytesSaid : Prop := tablesBytesRow.holds Try.pinned (OpenSpec.ofChange tablesBytesSpec)

/-- ITS FALSE NEIGHBOUR: 'it returns false'. Refute it at one input. -/
def tablesBytesWrong : ChangeSpec := { name := "tablesBytes", fn := fun _ => fun
  | [d1, d2] => { results := [.lit (.bool false)], args := [d1, d2] }
  | _ => none }
def TablesBytesWrongFalsely : Prop := tablesBytesRow.holds Try.pinned (OpenSpec.ofChange tablesBytesWrong)

/-- 'bucketlinelaw07.TablesElder': WHATEVER THE INPUT: true; the input reads as it did. -/
def tablesElderSpec : ChangeSpec := { name := "tablesElder", fn := fun _ => fun
  | [d1, d2] => { results := [.lit (.bool true)], args := [d1, d2] }
  | _ => none }
def tablesElderRow : OpenClaim := { program := "ythhmehkclgmppaa", sum := "74424e999ff0b6b9d85c715e88e6852298021903ef321be5815a2cf8b3333ef5", func := "bucketline/bucketlinelaw07.TablesElder", spec := "tablesElder", unfollowed := true, recurses := true, apart := false }
def TablesElderSaid : Prop := tablesElderRow.holds Try.pinned (OpenSpec.ofChange tablesElderSpec)

/-- ITS FALSE NEIGHBOUR: 'it returns false'. Refute it at one input. -/
def tablesElderWrong : ChangeSpec := { name := "tablesElder", fn := fun _ => fun
  | [d1, d2] => { results := [.lit (.bool false)], args := [d1, d2] }
  | _ => none }
def TablesElderWrongFalsely : Prop := tablesElderRow.holds Try.pinned (OpenSpec.ofChange tablesElderWrong)

/- THE SECOND FORM. 'bulk': how many values and letters a reading holds, each counted each time it is reached (what is shared counts as often as it is met; a slice's spare places count too). A statement '..UptoSaid' is the law's where the arguments, and the package variables that the reading takes, are together of bulk at most 1048576: NARROWER than '..Said'. Prove '..Said' where nothing that the law and all that it calls make is longer than what came in: it says more and counts as full. Else prove '..UptoSaid'. A law counts once. -/
mutual
def uptoBulk {H : Type} : DataW H → Nat
  | .lit (.string bytes) => bytes.length + 1
  | .lit _ => 1
  | .nil => 1
  | .ptr d => uptoBulk d + 1
  | .slice elems spare => uptoBulkAll elems + uptoBulkAll spare + 1
  | .agg parts => uptoBulkAll parts + 1
  | .iface _ d => uptoBulk d + 1
  | .map entries => uptoBulkEntries entries + 1
  | .held _ => 1
def uptoBulkAll {H : Type} : List (DataW H) → Nat
  | [] => 0
  | d :: r => uptoBulk d + uptoBulkAll r
def uptoBulkEntries {H : Type} : List (Lit × DataW H) → Nat
  | [] => 0
  | x :: r => uptoBulkEntry x + uptoBulkEntries r
def uptoBulkEntry {H : Type} : Lit × DataW H → Nat
  | (.string bytes, d) => bytes.length + uptoBulk d + 1
  | (_, d) => uptoBulk d + 1
 end
def uptoSmall : (H : Type) → List (DataW H) → Bool := fun _ ds => decide (uptoBulkAll ds ≤ 1048576)
def OpenSpec.upto (s : _root_.Go.ChangeSpec) : _root_.Go.OpenSpec := { _root_.Go.OpenSpec.ofChange s with cond := some uptoSmall }

/-- 'bucketlinelaw07.TablesNone', WHERE WHAT IT READS IS OF BULK AT MOST 1048576: true; the input reads as it did. -/
def tablesNoneUptoRow : OpenClaim := { program := "ythhmehkclgmppaa", sum := "74424e999ff0b6b9d85c715e88e6852298021903ef321be5815a2cf8b3333ef5", func := "bucketline/bucketlinelaw07.TablesNone", spec := "tablesNone", unfollowed := true, recurses := true, apart := false, narrowed := true }
def TablesNoneUptoSaid : Prop := tablesNoneUptoRow.holds Try.pinned (OpenSpec.upto tablesNoneSpec)

/-- 'bucketlinelaw07.TablesOrder', WHERE WHAT IT READS IS OF BULK AT MOST 1048576: true; the input reads as it did. -/
def tablesOrderUptoRow : OpenClaim := { program := "ythhmehkclgmppaa", sum := "74424e999ff0b6b9d85c715e88e6852298021903ef321be5815a2cf8b3333ef5", func := "bucketline/bucketlinelaw07.TablesOrder", spec := "tablesOrder", unfollowed := true, recurses := true, apart := false, narrowed := true }
def TablesOrderUptoSaid : Prop := tablesOrderUptoRow.holds Try.pinned (OpenSpec.upto tablesOrderSpec)

/-- 'bucketlinelaw07.TablesGet', WHERE WHAT IT READS IS OF BULK AT MOST 1048576: true; the input reads as it did. -/
def tablesGetUptoRow : OpenClaim := { program := "ythhmehkclgmppaa", sum := "74424e999ff0b6b9d85c715e88e6852298021903ef321be5815a2cf8b3333ef5", func := "bucketline/bucketlinelaw07.TablesGet", spec := "tablesGet", unfollowed := true, recurses := true, apart := false, narrowed := true }
def TablesGetUptoSaid : Prop := tablesGetUptoRow.holds Try.pinned (OpenSpec.upto tablesGetSpec)

/-- 'bucketlinelaw07.TablesFrom', WHERE WHAT IT READS IS OF BULK AT MOST 1048576: true; the input reads as it did. -/
def tablesFromUptoRow : OpenClaim := { program := "ythhmehkclgmppaa", sum := "74424e999ff0b6b9d85c715e88e6852298021903ef321be5815a2cf8b3333ef5", func := "bucketline/bucketlinelaw07.TablesFrom", spec := "tablesFrom", unfollowed := true, recurses := true, apart := false, narrowed := true }
def TablesFromUptoSaid : Prop := tablesFromUptoRow.holds Try.pinned (OpenSpec.upto tablesFromSpec)

/-- 'bucketlinelaw07.TablesFull', WHERE WHAT IT READS IS OF BULK AT MOST 1048576: true; the input reads as it did. -/
def tablesFullUptoRow : OpenClaim := { program := "ythhmehkclgmppaa", sum := "74424e999ff0b6b9d85c715e88e6852298021903ef321be5815a2cf8b3333ef5", func := "bucketline/bucketlinelaw07.TablesFull", spec := "tablesFull", unfollowed := true, recurses := true, apart := false, narrowed := true }
def TablesFullUptoSaid : Prop := tablesFullUptoRow.holds Try.pinned (OpenSpec.upto tablesFullSpec)

/-- 'bucketlinelaw07.TablesBytes', WHERE WHAT IT READS IS OF BULK AT MOST 1048576: true; the input reads as it did. -/
def tablesBytesUptoRow : OpenClaim := { program := "ythhmehkclgmppaa", sum := "74424e999ff0b6b9d85c715e88e6852298021903ef321be5815a2cf8b3333ef5", func := "bucketline/bucketlinelaw07.TablesBytes", spec := "tablesBytes", unfollowed := true, recurses := true, apart := false, narrowed := true }
def TablesBytesUptoSaid : Prop := tablesBytesUptoRow.holds Try.pinned (OpenSpec.upto tablesBytesSpec)

/-- 'bucketlinelaw07.TablesElder', WHERE WHAT IT READS IS OF BULK AT MOST 1048576: true; the input reads as it did. -/
def tablesElderUptoRow : OpenClaim := { program := "ythhmehkclgmppaa", sum := "74424e999ff0b6b9d85c715e88e6852298021903ef321be5815a2cf8b3333ef5", func := "bucketline/bucketlinelaw07.TablesElder", spec := "tablesElder", unfollowed := true, recurses := true, apart := false, narrowed := true }
def TablesElderUptoSaid : Prop := tablesElderUptoRow.holds Try.pinned (OpenSpec.upto tablesElderSpec)

end Rows
end Go.Proofs.Ythhmehkclgmppaa
