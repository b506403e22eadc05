/- A piece of a block is loaded in a region that draws its order. No condition. -/
import Derived.Test.YtfcpnkalcijflaaGreatDoorKit2
namespace Go.Proofs.YtfcpnkalcijflaaGreatDoor
open Go.RowKit
theorem wpQuiet_load_mid {P : Program} {ops : Array Oper} {C : World → Prop} {Q : Act → Prop} {o : Oper} {rest : List Oper} {a : Act} (hg : Region.wanted o (yielded ops a.tmps) = true) (ty : TypeId) (x : Operand) (ho : o.op = .load ty x)
    (b off : Nat) (hx : a.eval x = .pointer (some ⟨b, off, none⟩)) (cs : List Value) (d : TypeDesc) (hrow : ∀ w, C w → w.rangeAt b off cs)
    (hu : P.underlying ty = some d) (hd : d.isRow = true) (hi : (P.info? ty).map (·.size) = some cs.length)
    (k : wpQuiet P ops C Q rest (a.put o.dst (.agg cs.toArray))) : wpQuiet P ops C Q (o :: rest) a := by
  refine wpQuiet_value _ hg (fun w hw => ?_) k
  unfold execOp
  simp only [ho, hx, Sem.run_bind, Result.andThen_ok, run_loadAt_mid w b off ty cs d (hrow w hw) hu hd hi, Sem.run_pure]
/-- The like in a region in the text's order, the load guarded. -/
theorem wpList_load_mid_on {P : Program} {ops : Array Oper} {rest : List Oper} {o : Oper} {a : Act} {w : World} {Q : Exit → Act → World → Prop} (hg : Region.wanted o (yielded ops a.tmps) = true) (ty : TypeId) (x : Operand) (ho : o.op = .load ty x)
    (b off : Nat) (hx : a.eval x = .pointer (some ⟨b, off, none⟩)) (cs : List Value) (d : TypeDesc) (hc : w.rangeAt b off cs)
    (hu : P.underlying ty = some d) (hd : d.isRow = true) (hi : (P.info? ty).map (·.size) = some cs.length)
    (h : wpList P ops Q rest (a.put o.dst (.agg cs.toArray)) w) : wpList P ops Q (o :: rest) a w := by
  unfold wpList
  rw [if_pos hg]
  exact .inl (wp_load_mid ty x ho b off hx cs d hc hu hd hi h)
end Go.Proofs.YtfcpnkalcijflaaGreatDoor
