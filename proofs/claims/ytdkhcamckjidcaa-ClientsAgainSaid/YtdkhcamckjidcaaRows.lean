/-
  No cell of these rows narrows 'for every input' (looked for: loops, veiled, ifaces, maps, wideKeys, modest, calm, conditions, laid).
  DERIVED. THE GIVEN ROWS OF THIS SEAT. 5 by the template 'for every input the law returns true; each argument reads behind the call as it read before'; 0 by the template 'total and deterministic' (their statements: YtdkhcamckjidcaaTotals.lean).
  GIVEN WITH THE SEED: the statements are not yours to turn. If you find one false, say at which input.
  Laid BY PROGRAM, IN A SANDBOX (cutbox-rows.mjs): the forced cells as the released guide's own fill.sh prints them over the translation 5d35081f9349ab76… (all of the seat's roots in one cut). By AI agents, Wed Nov 11 2026. No macro, syntax, notation, axiom, sorry.
-/
import Derived.Test.YtdkhcamckjidcaaChecked
import GoSem.Claim
import GoSem.ClaimJoined
import GoSem.ClaimMapViews
import Derived.JoinedTies
import Derived.KernelRfl
namespace Go.Proofs.Ytdkhcamckjidcaa
/- THE CELL 'sum', in the pinned program and in every row, IS THE sha256 OF THE DUMP (.gsa) THAT YtdkhcamckjidcaaProg.lean LOADS. Nothing in Lean hashes anything: it is a label: what it is worth is what the hold of that sum in a sandbox is worth. -/
noncomputable def Try.pinned : Pinned := { name := "ytdkhcamckjidcaa", sum := "5d35081f9349ab7666e712eef4d97b8dac8d156ee2097dc7c64e120ce74009dd", checked := Try.checked }
namespace Rows
def none {H : Type} : Left H := { results := [], args := [] }

/-- 'bucketlinelaw17.SuffixesTell': WHATEVER THE INPUT: true; the input reads as it did. -/
def suffixesTellSpec : ChangeSpec := { name := "suffixesTell", fn := fun _ => fun
  | [d1, d2, d3] => { results := [.lit (.bool true)], args := [d1, d2, d3] }
  | _ => none }
def suffixesTellRow : OpenClaim := { program := "ytdkhcamckjidcaa", sum := "5d35081f9349ab7666e712eef4d97b8dac8d156ee2097dc7c64e120ce74009dd", func := "bucketline/bucketlinelaw17.SuffixesTell", spec := "suffixesTell", unfollowed := true, recurses := true, apart := false }
def SuffixesTellSaid : Prop := suffixesTellRow.holds Try.pinned (OpenSpec.ofChange suffixesTellSpec)

/-- ITS FALSE NEIGHBOUR: 'it returns false'. Refute it at one input. -/
def suffixesTellWrong : ChangeSpec := { name := "suffixesTell", fn := fun _ => fun
  | [d1, d2, d3] => { results := [.lit (.bool false)], args := [d1, d2, d3] }
  | _ => none }
def SuffixesTellWrongFalsely : Prop := suffixesTellRow.holds Try.pinned (OpenSpec.ofChange suffixesTellWrong)

/-- 'bucketlinelaw17.SuffixesHeard': WHATEVER THE INPUT: true; the input reads as it did. -/
def suffixesHeardSpec : ChangeSpec := { name := "suffixesHeard", fn := fun _ => fun
  | [d1, d2] => { results := [.lit (.bool true)], args := [d1, d2] }
  | _ => none }
def suffixesHeardRow : OpenClaim := { program := "ytdkhcamckjidcaa", sum := "5d35081f9349ab7666e712eef4d97b8dac8d156ee2097dc7c64e120ce74009dd", func := "bucketline/bucketlinelaw17.SuffixesHeard", spec := "suffixesHeard", unfollowed := true, recurses := true, apart := false }
def SuffixesHeardSaid : Prop := suffixesHeardRow.holds Try.pinned (OpenSpec.ofChange suffixesHeardSpec)

/-- ITS FALSE NEIGHBOUR: 'it returns false'. Refute it at one input. -/
def suffixesHeardWrong : ChangeSpec := { name := "suffixesHeard", fn := fun _ => fun
  | [d1, d2] => { results := [.lit (.bool false)], args := [d1, d2] }
  | _ => none }
def SuffixesHeardWrongFalsely : Prop := suffixesHeardRow.holds Try.pinned (OpenSpec.ofChange suffixesHeardWrong)

/-- 'bucketlinelaw17.SuffixesTwo': WHATEVER THE INPUT: true; the input reads as it did. -/
def suffixesTwoSpec : ChangeSpec := { name := "suffixesTwo", fn := fun _ => fun
  | [d1, d2, d3] => { results := [.lit (.bool true)], args := [d1, d2, d3] }
  | _ => none }
def suffixesTwoRow : OpenClaim := { program := "ytdkhcamckjidcaa", sum := "5d35081f9349ab7666e712eef4d97b8dac8d156ee2097dc7c64e120ce74009dd", func := "bucketline/bucketlinelaw17.SuffixesTwo", spec := "suffixesTwo", unfollowed := true, recurses := true, apart := false }
def SuffixesTwoSaid : Prop := suffixesTwoRow.holds Try.pinned (OpenSpec.ofChange suffixesTwoSpec)

/-- ITS FALSE NEIGHBOUR: 'it returns false'. Refute it at one input. -/
def suffixesTwoWrong : ChangeSpec := { name := "suffixesTwo", fn := fun _ => fun
  | [d1, d2, d3] => { results := [.lit (.bool false)], args := [d1, d2, d3] }
  | _ => none }
def SuffixesTwoWrongFalsely : Prop := suffixesTwoRow.holds Try.pinned (OpenSpec.ofChange suffixesTwoWrong)

/-- 'bucketlinelaw20.ClientsOnce': WHATEVER THE INPUT: true; the input reads as it did. -/
def clientsOnceSpec : ChangeSpec := { name := "clientsOnce", fn := fun _ => fun
  | [d1, d2, d3] => { results := [.lit (.bool true)], args := [d1, d2, d3] }
  | _ => none }
def clientsOnceRow : OpenClaim := { program := "ytdkhcamckjidcaa", sum := "5d35081f9349ab7666e712eef4d97b8dac8d156ee2097dc7c64e120ce74009dd", func := "bucketline/bucketlinelaw20.ClientsOnce", spec := "clientsOnce", unfollowed := true, recurses := true, apart := false }
def ClientsOnceSaid : Prop := clientsOnceRow.holds Try.pinned (OpenSpec.ofChange clientsOnceSpec)

/-- ITS FALSE NEIGHBOUR: 'it returns false'. Refute it at one input. -/
def clientsOnceWrong : ChangeSpec := { name := "clientsOnce", fn := fun _ => fun
  | [d1, d2, d3] => { results := [.lit (.bool false)], args := [d1, d2, d3] }
  | _ => none }
def ClientsOnceWrongFalsely : Prop := clientsOnceRow.holds Try.pinned (OpenSpec.ofChange clientsOnceWrong)

/-- 'bucketlinelaw20.ClientsAgain': WHATEVER THE INPUT: true; the input reads as it did. -/
def clientsAgainSpec : ChangeSpec := { name := "clientsAgain", fn := fun _ => fun
  | [d1, d2, d3] => { results := [.lit (.bool true)], args := [d1, d2, d3] }
  | _ => none }
def clientsAgainRow : OpenClaim := { program := "ytdkhcamckjidcaa", sum := "5d35081f9349ab7666e712eef4d97b8dac8d156ee2097dc7c64e120ce74009dd", func := "bucketline/bucketlinelaw20.ClientsAgain", spec := "clientsAgain", unfollowed := true, recurses := true, apart := false }
def ClientsAgainSaid : Prop := clientsAgainRow.holds Try.pinned (OpenSpec.ofChange clientsAgainSpec)

/-- ITS FALSE NEIGHBOUR: 'it returns false'. Refute it at one input. -/
def clientsAgainWrong : ChangeSpec := { name := "clientsAgain", fn := fun _ => fun
  | [d1, d2, d3] => { results := [.lit (.bool false)], args := [d1, d2, d3] }
  | _ => none }
def ClientsAgainWrongFalsely : Prop := clientsAgainRow.holds Try.pinned (OpenSpec.ofChange clientsAgainWrong)

/- THE SECOND FORM. 'bulk': how many values and letters a reading holds, each counted each time it is reached (what is shared counts as often as it is met; a slice's spare places count too). A statement '..UptoSaid' is the law's where the arguments, and the package variables that the reading takes, are together of bulk at most 1048576: NARROWER than '..Said'. Prove '..Said' where nothing that the law and all that it calls make is longer than what came in: it says more and counts as full. Else prove '..UptoSaid'. A law counts once. -/
mutual
def uptoBulk {H : Type} : DataW H → Nat
  | .lit (.string bytes) => bytes.length + 1
  | .lit _ => 1
  | .nil => 1
  | .ptr d => uptoBulk d + 1
  | .slice elems spare => uptoBulkAll elems + uptoBulkAll spare + 1
  | .agg parts => uptoBulkAll parts + 1
  | .iface _ d => uptoBulk d + 1
  | .map entries => uptoBulkEntries entries + 1
  | .held _ => 1
def uptoBulkAll {H : Type} : List (DataW H) → Nat
  | [] => 0
  | d :: r => uptoBulk d + uptoBulkAll r
def uptoBulkEntries {H : Type} : List (Lit × DataW H) → Nat
  | [] => 0
  | x :: r => uptoBulkEntry x + uptoBulkEntries r
def uptoBulkEntry {H : Type} : Lit × DataW H → Nat
  | (.string bytes, d) => bytes.length + uptoBulk d + 1
  | (_, d) => uptoBulk d + 1
 end
def uptoSmall : (H : Type) → List (DataW H) → Bool := fun _ ds => decide (uptoBulkAll ds ≤ 1048576)
def OpenSpec.upto (s : _root_.Go.ChangeSpec) : _root_.Go.OpenSpec := { _root_.Go.OpenSpec.ofChange s with cond := some uptoSmall }

/-- 'bucketlinelaw17.SuffixesTell', WHERE WHAT IT READS IS OF BULK AT MOST 1048576: true; the input reads as it did. -/
def suffixesTellUptoRow : OpenClaim := { program := "ytdkhcamckjidcaa", sum := "5d35081f9349ab7666e712eef4d97b8dac8d156ee2097dc7c64e120ce74009dd", func := "bucketline/bucketlinelaw17.SuffixesTell", spec := "suffixesTell", unfollowed := true, recurses := true, apart := false, narrowed := true }
def SuffixesTellUptoSaid : Prop := suffixesTellUptoRow.holds Try.pinned (OpenSpec.upto suffixesTellSpec)

/-- 'bucketlinelaw17.SuffixesHeard', WHERE WHAT IT READS IS OF BULK AT MOST 1048576: true; the input reads as it did. -/
def suffixesHeardUptoRow : OpenClaim := { program := "ytdkhcamckjidcaa", sum := "5d35081f9349ab7666e712eef4d97b8dac8d156ee2097dc7c64e120ce74009dd", func := "bucketline/bucketlinelaw17.SuffixesHeard", spec := "suffixesHeard", unfollowed := true, recurses := true, apart := false, narrowed := true }
def SuffixesHeardUptoSaid : Prop := suffixesHeardUptoRow.holds Try.pinned (OpenSpec.upto suffixesHeardSpec)

/-- 'bucketlinelaw17.SuffixesTwo', WHERE WHAT IT READS IS OF BULK AT MOST 1048576: true; the input reads as it did. -/
def suffixesTwoUptoRow : OpenClaim := { program := "ytdkhcamckjidcaa", sum := "5d35081f9349ab7666e712eef4d97b8dac8d156ee2097dc7c64e120ce74009dd", func := "bucketline/bucketlinelaw17.SuffixesTwo", spec := "suffixesTwo", unfollowed := true, recurses := true, apart := false, narrowed := true }
def SuffixesTwoUptoSaid : Prop := suffixesTwoUptoRow.holds Try.pinned (OpenSpec.upto suffixesTwoSpec)

/-- 'bucketlinelaw20.ClientsOnce', WHERE WHAT IT READS IS OF BULK AT MOST 1048576: true; the input reads as it did. -/
def clientsOnceUptoRow : OpenClaim := { program := "ytdkhcamckjidcaa", sum := "5d35081f9349ab7666e712eef4d97b8dac8d156ee2097dc7c64e120ce74009dd", func := "bucketline/bucketlinelaw20.ClientsOnce", spec := "clientsOnce", unfollowed := true, recurses := true, apart := false, narrowed := true }
def ClientsOnceUptoSaid : Prop := clientsOnceUptoRow.holds Try.pinned (OpenSpec.upto clientsOnceSpec)

/-- 'bucketlinelaw20.ClientsAgain', WHERE WHAT IT READS IS OF BULK AT MOST 1048576: true; the input reads as it did. -/
def clientsAgainUptoRow : OpenClaim := { program := "ytdkhcamckjidcaa", sum := "5d35081f9349ab7666e712eef4d97b8dac8d156ee2097dc7c64e120ce74009dd", func := "bucketline/bucketlinelaw20.ClientsAgain", spec := "clientsAgain", unfollowed := true, recurses := true, apart := false, narrowed := true }
def ClientsAgainUptoSaid : Prop := clientsAgainUptoRow.holds Try.pinned (OpenSpec.upto clientsAgainSpec)

end Rows
end Go.Proofs.Ytdkhcamckjidcaa
