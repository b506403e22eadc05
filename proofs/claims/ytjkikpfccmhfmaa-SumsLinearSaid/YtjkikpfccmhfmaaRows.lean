/-
  No cell of these rows narrows 'for every input' (looked for: loops, veiled, ifaces, maps, wideKeys, modest, calm, conditions, laid).
  DERIVED. THE GIVEN ROWS OF THIS SEAT. 10 by the template 'for every input the law returns true; each argument reads behind the call as it read before'; 0 by the template 'total and deterministic' (their statements: YtjkikpfccmhfmaaTotals.lean).
  GIVEN WITH THE SEED: the statements are not yours to turn. If you find one false, say at which input.
  Laid BY PROGRAM, IN A SANDBOX (cutbox-rows.mjs): the forced cells as the released guide's own fill.sh prints them over the translation c34487da200331e5… (all of the seat's roots in one cut). By AI agents, Wed Nov 11 2026. No macro, syntax, notation, axiom, sorry.
-/
import Derived.Test.YtjkikpfccmhfmaaChecked
import GoSem.Claim
import GoSem.ClaimJoined
import GoSem.ClaimMapViews
import Derived.JoinedTies
import Derived.KernelRfl
namespace Go.Proofs.Ytjkikpfccmhfmaa
/- THE CELL 'sum', in the pinned program and in every row, IS THE sha256 OF THE DUMP (.gsa) THAT YtjkikpfccmhfmaaProg.lean LOADS. Nothing in Lean hashes anything: it is a label: what it is worth is what the hold of that sum in a sandbox is worth. -/
noncomputable def Try.pinned : Pinned := { name := "ytjkikpfccmhfmaa", sum := "c34487da200331e5facfae6cdd666da0311bc7c34668c47b76d4795f4dd46d54", checked := Try.checked }
namespace Rows
def none {H : Type} : Left H := { results := [], args := [] }

/-- 'bucketlinelaw02.SumsTable': WHATEVER THE INPUT: true; the input reads as it did. -/
def sumsTableSpec : ChangeSpec := { name := "sumsTable", fn := fun _ => fun
  | [d] => { results := [.lit (.bool true)], args := [d] }
  | _ => none }
def sumsTableRow : OpenClaim := { program := "ytjkikpfccmhfmaa", sum := "c34487da200331e5facfae6cdd666da0311bc7c34668c47b76d4795f4dd46d54", func := "bucketline/bucketlinelaw02.SumsTable", spec := "sumsTable", apart := false }
def SumsTableSaid : Prop := sumsTableRow.holds Try.pinned (OpenSpec.ofChange sumsTableSpec)

/-- ITS FALSE NEIGHBOUR: 'it returns false'. Refute it at one input. -/
def sumsTableWrong : ChangeSpec := { name := "sumsTable", fn := fun _ => fun
  | [d] => { results := [.lit (.bool false)], args := [d] }
  | _ => none }
def SumsTableWrongFalsely : Prop := sumsTableRow.holds Try.pinned (OpenSpec.ofChange sumsTableWrong)

/-- 'bucketlinelaw02.SumsOf': WHATEVER THE INPUT: true; the input reads as it did. -/
def sumsOfSpec : ChangeSpec := { name := "sumsOf", fn := fun _ => fun
  | [d1, d2, d3] => { results := [.lit (.bool true)], args := [d1, d2, d3] }
  | _ => none }
def sumsOfRow : OpenClaim := { program := "ytjkikpfccmhfmaa", sum := "c34487da200331e5facfae6cdd666da0311bc7c34668c47b76d4795f4dd46d54", func := "bucketline/bucketlinelaw02.SumsOf", spec := "sumsOf", apart := false }
def SumsOfSaid : Prop := sumsOfRow.holds Try.pinned (OpenSpec.ofChange sumsOfSpec)

/-- ITS FALSE NEIGHBOUR: 'it returns false'. Refute it at one input. -/
def sumsOfWrong : ChangeSpec := { name := "sumsOf", fn := fun _ => fun
  | [d1, d2, d3] => { results := [.lit (.bool false)], args := [d1, d2, d3] }
  | _ => none }
def SumsOfWrongFalsely : Prop := sumsOfRow.holds Try.pinned (OpenSpec.ofChange sumsOfWrong)

/-- 'bucketlinelaw02.SumsOn': WHATEVER THE INPUT: true; the input reads as it did. -/
def sumsOnSpec : ChangeSpec := { name := "sumsOn", fn := fun _ => fun
  | [d1, d2, d3] => { results := [.lit (.bool true)], args := [d1, d2, d3] }
  | _ => none }
def sumsOnRow : OpenClaim := { program := "ytjkikpfccmhfmaa", sum := "c34487da200331e5facfae6cdd666da0311bc7c34668c47b76d4795f4dd46d54", func := "bucketline/bucketlinelaw02.SumsOn", spec := "sumsOn", apart := false }
def SumsOnSaid : Prop := sumsOnRow.holds Try.pinned (OpenSpec.ofChange sumsOnSpec)

/-- ITS FALSE NEIGHBOUR: 'it returns false'. Refute it at one input. -/
def sumsOnWrong : ChangeSpec := { name := "sumsOn", fn := fun _ => fun
  | [d1, d2, d3] => { results := [.lit (.bool false)], args := [d1, d2, d3] }
  | _ => none }
def SumsOnWrongFalsely : Prop := sumsOnRow.holds Try.pinned (OpenSpec.ofChange sumsOnWrong)

/-- 'bucketlinelaw02.SumsTurned': WHATEVER THE INPUT: true; the input reads as it did. -/
def sumsTurnedSpec : ChangeSpec := { name := "sumsTurned", fn := fun _ => fun
  | [d1, d2, d3] => { results := [.lit (.bool true)], args := [d1, d2, d3] }
  | _ => none }
def sumsTurnedRow : OpenClaim := { program := "ytjkikpfccmhfmaa", sum := "c34487da200331e5facfae6cdd666da0311bc7c34668c47b76d4795f4dd46d54", func := "bucketline/bucketlinelaw02.SumsTurned", spec := "sumsTurned", apart := false }
def SumsTurnedSaid : Prop := sumsTurnedRow.holds Try.pinned (OpenSpec.ofChange sumsTurnedSpec)

/-- ITS FALSE NEIGHBOUR: 'it returns false'. Refute it at one input. -/
def sumsTurnedWrong : ChangeSpec := { name := "sumsTurned", fn := fun _ => fun
  | [d1, d2, d3] => { results := [.lit (.bool false)], args := [d1, d2, d3] }
  | _ => none }
def SumsTurnedWrongFalsely : Prop := sumsTurnedRow.holds Try.pinned (OpenSpec.ofChange sumsTurnedWrong)

/-- 'bucketlinelaw02.SumsLinear': WHATEVER THE INPUT: true; the input reads as it did. -/
def sumsLinearSpec : ChangeSpec := { name := "sumsLinear", fn := fun _ => fun
  | [d1, d2, d3] => { results := [.lit (.bool true)], args := [d1, d2, d3] }
  | _ => none }
def sumsLinearRow : OpenClaim := { program := "ytjkikpfccmhfmaa", sum := "c34487da200331e5facfae6cdd666da0311bc7c34668c47b76d4795f4dd46d54", func := "bucketline/bucketlinelaw02.SumsLinear", spec := "sumsLinear", apart := false }
def SumsLinearSaid : Prop := sumsLinearRow.holds Try.pinned (OpenSpec.ofChange sumsLinearSpec)

/-- ITS FALSE NEIGHBOUR: 'it returns false'. Refute it at one input. -/
def sumsLinearWrong : ChangeSpec := { name := "sumsLinear", fn := fun _ => fun
  | [d1, d2, d3] => { results := [.lit (.bool false)], args := [d1, d2, d3] }
  | _ => none }
def SumsLinearWrongFalsely : Prop := sumsLinearRow.holds Try.pinned (OpenSpec.ofChange sumsLinearWrong)

/-- 'bucketlinelaw02.SumsBytes': WHATEVER THE INPUT: true; the input reads as it did. -/
def sumsBytesSpec : ChangeSpec := { name := "sumsBytes", fn := fun _ => fun
  | [d1, d2, d3] => { results := [.lit (.bool true)], args := [d1, d2, d3] }
  | _ => none }
def sumsBytesRow : OpenClaim := { program := "ytjkikpfccmhfmaa", sum := "c34487da200331e5facfae6cdd666da0311bc7c34668c47b76d4795f4dd46d54", func := "bucketline/bucketlinelaw02.SumsBytes", spec := "sumsBytes", apart := false }
def SumsBytesSaid : Prop := sumsBytesRow.holds Try.pinned (OpenSpec.ofChange sumsBytesSpec)

/-- ITS FALSE NEIGHBOUR: 'it returns false'. Refute it at one input. -/
def sumsBytesWrong : ChangeSpec := { name := "sumsBytes", fn := fun _ => fun
  | [d1, d2, d3] => { results := [.lit (.bool false)], args := [d1, d2, d3] }
  | _ => none }
def SumsBytesWrongFalsely : Prop := sumsBytesRow.holds Try.pinned (OpenSpec.ofChange sumsBytesWrong)

/-- 'bucketlinelaw02.SumsSealed': WHATEVER THE INPUT: true; the input reads as it did. -/
def sumsSealedSpec : ChangeSpec := { name := "sumsSealed", fn := fun _ => fun
  | [d1, d2] => { results := [.lit (.bool true)], args := [d1, d2] }
  | _ => none }
def sumsSealedRow : OpenClaim := { program := "ytjkikpfccmhfmaa", sum := "c34487da200331e5facfae6cdd666da0311bc7c34668c47b76d4795f4dd46d54", func := "bucketline/bucketlinelaw02.SumsSealed", spec := "sumsSealed", apart := false }
def SumsSealedSaid : Prop := sumsSealedRow.holds Try.pinned (OpenSpec.ofChange sumsSealedSpec)

/-- ITS FALSE NEIGHBOUR: 'it returns false'. Refute it at one input. -/
def sumsSealedWrong : ChangeSpec := { name := "sumsSealed", fn := fun _ => fun
  | [d1, d2] => { results := [.lit (.bool false)], args := [d1, d2] }
  | _ => none }
def SumsSealedWrongFalsely : Prop := sumsSealedRow.holds Try.pinned (OpenSpec.ofChange sumsSealedWrong)

/-- 'bucketlinelaw02.SumsApart': WHATEVER THE INPUT: true; the input reads as it did. -/
def sumsApartSpec : ChangeSpec := { name := "sumsApart", fn := fun _ => fun
  | [d1, d2, d3] => { results := [.lit (.bool true)], args := [d1, d2, d3] }
  | _ => none }
def sumsApartRow : OpenClaim := { program := "ytjkikpfccmhfmaa", sum := "c34487da200331e5facfae6cdd666da0311bc7c34668c47b76d4795f4dd46d54", func := "bucketline/bucketlinelaw02.SumsApart", spec := "sumsApart", apart := false }
def SumsApartSaid : Prop := sumsApartRow.holds Try.pinned (OpenSpec.ofChange sumsApartSpec)

/-- ITS FALSE NEIGHBOUR: 'it returns false'. Refute it at one input. -/
def sumsApartWrong : ChangeSpec := { name := "sumsApart", fn := fun _ => fun
  | [d1, d2, d3] => { results := [.lit (.bool false)], args := [d1, d2, d3] }
  | _ => none }
def SumsApartWrongFalsely : Prop := sumsApartRow.holds Try.pinned (OpenSpec.ofChange sumsApartWrong)

/-- 'bucketlinelaw02.SumsNone': WHATEVER THE INPUT: true; the input reads as it did. -/
def sumsNoneSpec : ChangeSpec := { name := "sumsNone", fn := fun _ => fun
  | [d1, d2] => { results := [.lit (.bool true)], args := [d1, d2] }
  | _ => none }
def sumsNoneRow : OpenClaim := { program := "ytjkikpfccmhfmaa", sum := "c34487da200331e5facfae6cdd666da0311bc7c34668c47b76d4795f4dd46d54", func := "bucketline/bucketlinelaw02.SumsNone", spec := "sumsNone", apart := false }
def SumsNoneSaid : Prop := sumsNoneRow.holds Try.pinned (OpenSpec.ofChange sumsNoneSpec)

/-- ITS FALSE NEIGHBOUR: 'it returns false'. Refute it at one input. -/
def sumsNoneWrong : ChangeSpec := { name := "sumsNone", fn := fun _ => fun
  | [d1, d2] => { results := [.lit (.bool false)], args := [d1, d2] }
  | _ => none }
def SumsNoneWrongFalsely : Prop := sumsNoneRow.holds Try.pinned (OpenSpec.ofChange sumsNoneWrong)

/-- 'bucketlinelaw02.SumsFour': WHATEVER THE INPUT: true; the input reads as it did. -/
def sumsFourSpec : ChangeSpec := { name := "sumsFour", fn := fun _ => fun
  | [d1, d2, d3] => { results := [.lit (.bool true)], args := [d1, d2, d3] }
  | _ => none }
def sumsFourRow : OpenClaim := { program := "ytjkikpfccmhfmaa", sum := "c34487da200331e5facfae6cdd666da0311bc7c34668c47b76d4795f4dd46d54", func := "bucketline/bucketlinelaw02.SumsFour", spec := "sumsFour", apart := false }
def SumsFourSaid : Prop := sumsFourRow.holds Try.pinned (OpenSpec.ofChange sumsFourSpec)

/-- ITS FALSE NEIGHBOUR: 'it returns false'. Refute it at one input. -/
def sumsFourWrong : ChangeSpec := { name := "sumsFour", fn := fun _ => fun
  | [d1, d2, d3] => { results := [.lit (.bool false)], args := [d1, d2, d3] }
  | _ => none }
def SumsFourWrongFalsely : Prop := sumsFourRow.holds Try.pinned (OpenSpec.ofChange sumsFourWrong)

/- THE SECOND FORM. 'bulk': how many values and letters a reading holds, each counted each time it is reached (what is shared counts as often as it is met; a slice's spare places count too). A statement '..UptoSaid' is the law's where the arguments, and the package variables that the reading takes, are together of bulk at most 1048576: NARROWER than '..Said'. Prove '..Said' where nothing that the law and all that it calls make is longer than what came in: it says more and counts as full. Else prove '..UptoSaid'. A law counts once. -/
mutual
def uptoBulk {H : Type} : DataW H → Nat
  | .lit (.string bytes) => bytes.length + 1
  | .lit _ => 1
  | .nil => 1
  | .ptr d => uptoBulk d + 1
  | .slice elems spare => uptoBulkAll elems + uptoBulkAll spare + 1
  | .agg parts => uptoBulkAll parts + 1
  | .iface _ d => uptoBulk d + 1
  | .map entries => uptoBulkEntries entries + 1
  | .held _ => 1
def uptoBulkAll {H : Type} : List (DataW H) → Nat
  | [] => 0
  | d :: r => uptoBulk d + uptoBulkAll r
def uptoBulkEntries {H : Type} : List (Lit × DataW H) → Nat
  | [] => 0
  | x :: r => uptoBulkEntry x + uptoBulkEntries r
def uptoBulkEntry {H : Type} : Lit × DataW H → Nat
  | (.string bytes, d) => bytes.length + uptoBulk d + 1
  | (_, d) => uptoBulk d + 1
 end
def uptoSmall : (H : Type) → List (DataW H) → Bool := fun _ ds => decide (uptoBulkAll ds ≤ 1048576)
def OpenSpec.upto (s : _root_.Go.ChangeSpec) : _root_.Go.OpenSpec := { _root_.Go.OpenSpec.ofChange s with cond := some uptoSmall }

/-- 'bucketlinelaw02.SumsTable', WHERE WHAT IT READS IS OF BULK AT MOST 1048576: true; the input reads as it did. -/
def sumsTableUptoRow : OpenClaim := { program := "ytjkikpfccmhfmaa", sum := "c34487da200331e5facfae6cdd666da0311bc7c34668c47b76d4795f4dd46d54", func := "bucketline/bucketlinelaw02.SumsTable", spec := "sumsTable", apart := false, narrowed := true }
def SumsTableUptoSaid : Prop := sumsTableUptoRow.holds Try.pinned (OpenSpec.upto sumsTableSpec)

/-- 'bucketlinelaw02.SumsOf', WHERE WHAT IT READS IS OF BULK AT MOST 1048576: true; the input reads as it did. -/
def sumsOfUptoRow : OpenClaim := { program := "ytjkikpfccmhfmaa", sum := "c34487da200331e5facfae6cdd666da0311bc7c34668c47b76d4795f4dd46d54", func := "bucketline/bucketlinelaw02.SumsOf", spec := "sumsOf", apart := false, narrowed := true }
def SumsOfUptoSaid : Prop := sumsOfUptoRow.holds Try.pinned (OpenSpec.upto sumsOfSpec)

/-- 'bucketlinelaw02.SumsOn', WHERE WHAT IT READS IS OF BULK AT MOST 1048576: true; the input reads as it did. -/
def sumsOnUptoRow : OpenClaim := { program := "ytjkikpfccmhfmaa", sum := "c34487da200331e5facfae6cdd666da0311bc7c34668c47b76d4795f4dd46d54", func := "bucketline/bucketlinelaw02.SumsOn", spec := "sumsOn", apart := false, narrowed := true }
def SumsOnUptoSaid : Prop := sumsOnUptoRow.holds Try.pinned (OpenSpec.upto sumsOnSpec)

/-- 'bucketlinelaw02.SumsTurned', WHERE WHAT IT READS IS OF BULK AT MOST 1048576: true; the input reads as it did. -/
def sumsTurnedUptoRow : OpenClaim := { program := "ytjkikpfccmhfmaa", sum := "c34487da200331e5facfae6cdd666da0311bc7c34668c47b76d4795f4dd46d54", func := "bucketline/bucketlinelaw02.SumsTurned", spec := "sumsTurned", apart := false, narrowed := true }
def SumsTurnedUptoSaid : Prop := sumsTurnedUptoRow.holds Try.pinned (OpenSpec.upto sumsTurnedSpec)

/-- 'bucketlinelaw02.SumsLinear', WHERE WHAT IT READS IS OF BULK AT MOST 1048576: true; the input reads as it did. -/
def sumsLinearUptoRow : OpenClaim := { program := "ytjkikpfccmhfmaa", sum := "c34487da200331e5facfae6cdd666da0311bc7c34668c47b76d4795f4dd46d54", func := "bucketline/bucketlinelaw02.SumsLinear", spec := "sumsLinear", apart := false, narrowed := true }
def SumsLinearUptoSaid : Prop := sumsLinearUptoRow.holds Try.pinned (OpenSpec.upto sumsLinearSpec)

/-- 'bucketlinelaw02.SumsBytes', WHERE WHAT IT READS IS OF BULK AT MOST 1048576: true; the input reads as it did. -/
def sumsBytesUptoRow : OpenClaim := { program := "ytjkikpfccmhfmaa", sum := "c34487da200331e5facfae6cdd666da0311bc7c34668c47b76d4795f4dd46d54", func := "bucketline/bucketlinelaw02.SumsBytes", spec := "sumsBytes", apart := false, narrowed := true }
def SumsBytesUptoSaid : Prop := sumsBytesUptoRow.holds Try.pinned (OpenSpec.upto sumsBytesSpec)

/-- 'bucketlinelaw02.SumsSealed', WHERE WHAT IT READS IS OF BULK AT MOST 1048576: true; the input reads as it did. -/
def sumsSealedUptoRow : OpenClaim := { program := "ytjkikpfccmhfmaa", sum := "c34487da200331e5facfae6cdd666da0311bc7c34668c47b76d4795f4dd46d54", func := "bucketline/bucketlinelaw02.SumsSealed", spec := "sumsSealed", apart := false, narrowed := true }
def SumsSealedUptoSaid : Prop := sumsSealedUptoRow.holds Try.pinned (OpenSpec.upto sumsSealedSpec)

/-- 'bucketlinelaw02.SumsApart', WHERE WHAT IT READS IS OF BULK AT MOST 1048576: true; the input reads as it did. -/
def sumsApartUptoRow : OpenClaim := { program := "ytjkikpfccmhfmaa", sum := "c34487da200331e5facfae6cdd666da0311bc7c34668c47b76d4795f4dd46d54", func := "bucketline/bucketlinelaw02.SumsApart", spec := "sumsApart", apart := false, narrowed := true }
def SumsApartUptoSaid : Prop := sumsApartUptoRow.holds Try.pinned (OpenSpec.upto sumsApartSpec)

/-- 'bucketlinelaw02.SumsNone', WHERE WHAT IT READS IS OF BULK AT MOST 1048576: true; the input reads as it did. -/
def sumsNoneUptoRow : OpenClaim := { program := "ytjkikpfccmhfmaa", sum := "c34487da200331e5facfae6cdd666da0311bc7c34668c47b76d4795f4dd46d54", func := "bucketline/bucketlinelaw02.SumsNone", spec := "sumsNone", apart := false, narrowed := true }
def SumsNoneUptoSaid : Prop := sumsNoneUptoRow.holds Try.pinned (OpenSpec.upto sumsNoneSpec)

/-- 'bucketlinelaw02.SumsFour', WHERE WHAT IT READS IS OF BULK AT MOST 1048576: true; the input reads as it did. -/
def sumsFourUptoRow : OpenClaim := { program := "ytjkikpfccmhfmaa", sum := "c34487da200331e5facfae6cdd666da0311bc7c34668c47b76d4795f4dd46d54", func := "bucketline/bucketlinelaw02.SumsFour", spec := "sumsFour", apart := false, narrowed := true }
def SumsFourUptoSaid : Prop := sumsFourUptoRow.holds Try.pinned (OpenSpec.upto sumsFourSpec)

end Rows
end Go.Proofs.Ytjkikpfccmhfmaa
