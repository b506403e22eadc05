/- A quiet region stepped in a box, so that nothing ahead of the next operation is reduced. No condition. -/
import Derived.Test.YtfcpnkalcijflaaGreatDoorKit6
namespace Go.Proofs.YtfcpnkalcijflaaGreatDoor
open Go.RowKit
structure Bq (p : Prop) : Prop where
  out : p
section
variable {P : Program} {ops : Array Oper} {C : World → Prop} {Q : Act → Prop} {o : Oper} {rest : List Oper} {a : Act}
theorem bqSkip (hw : Region.wanted o (yielded ops a.tmps) = false) (h : Bq (wpQuiet P ops C Q rest (a.put o.dst undef))) : Bq (wpQuiet P ops C Q (o :: rest) a) := by
  refine ⟨?_⟩
  unfold wpQuiet
  rw [if_neg (by rw [hw]; decide)]
  exact h.out
theorem bqStep (h : ∀ K : Act → Prop, (∀ a, Bq (wpQuiet P ops C Q rest a) → K a) → if Region.wanted o (yielded ops a.tmps) then o.quiet P a C K else K (a.put o.dst undef)) : Bq (wpQuiet P ops C Q (o :: rest) a) :=
  ⟨wpQuiet_step fun K hK => h K fun a h => hK a h.out⟩
theorem bqNil (h : Q a) : Bq (wpQuiet P ops C Q [] a) := ⟨h⟩
theorem bqValue (v : Value) (hg : Region.wanted o (yielded ops a.tmps) = true) (h : ∀ w, C w → (execOp a.eval o).run P w = .ok (.value v) w) (k : Bq (wpQuiet P ops C Q rest (a.put o.dst v))) : Bq (wpQuiet P ops C Q (o :: rest) a) :=
  ⟨wpQuiet_value v hg h k.out⟩
theorem bqCell (hg : Region.wanted o (yielded ops a.tmps) = true) (ty : TypeId) (x : Operand) (ho : o.op = .load ty x)
    (g off : Nat) (hx : a.eval x = .pointer (some ⟨g, off, none⟩)) (v : Value) (hrow : ∀ w, C w → w.cell? ⟨g, off, none⟩ = some v)
    (d : TypeDesc) (hu : P.underlying ty = some d) (hd : d.isRow = false)
    (k : Bq (wpQuiet P ops C Q rest (a.put o.dst v))) : Bq (wpQuiet P ops C Q (o :: rest) a) :=
  ⟨wpQuiet_load_cell hg ty x ho g off hx v hrow d hu hd k.out⟩
theorem bqMid (hg : Region.wanted o (yielded ops a.tmps) = true) (ty : TypeId) (x : Operand) (ho : o.op = .load ty x)
    (b off : Nat) (hx : a.eval x = .pointer (some ⟨b, off, none⟩)) (cs : List Value) (d : TypeDesc) (hrow : ∀ w, C w → w.rangeAt b off cs)
    (hu : P.underlying ty = some d) (hd : d.isRow = true) (hi : (P.info? ty).map (·.size) = some cs.length)
    (k : Bq (wpQuiet P ops C Q rest (a.put o.dst (.agg cs.toArray)))) : Bq (wpQuiet P ops C Q (o :: rest) a) :=
  ⟨wpQuiet_load_mid hg ty x ho b off hx cs d hrow hu hd hi k.out⟩
end
theorem bqRegion {P : Program} {id : Nat} {Q : Exit → Act → World → Prop} {a : Act} {w : World} {l : List Oper} (C : World → Prop) (hm : P.follows .mixedOrders = true) (hB : Region.lexB .any l.toArray = true) (hC : C w.drew)
    (h : Bq (wpQuiet P l.toArray C (fun a' => ∀ w', C w' → Q .normal a' w') l a)) : (Code.region id l.toArray true).wp P Q a w :=
  wp_region_class C hm hB hC h.out
end Go.Proofs.YtfcpnkalcijflaaGreatDoor
