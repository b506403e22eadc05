/- Laws for regions that draw their order, in a class of worlds: a whole row is loaded, one cell is loaded, a function is called, whatever else reads no world. No condition. -/
import Derived.Test.YtfcpnkalcijflaaGreatDoorKit
import Derived.Deep.MidRow
namespace Go.Proofs.YtfcpnkalcijflaaGreatDoor
open Go.RowKit
section
variable {P : Program} {ops : Array Oper} {C : World → Prop} {Q : Act → Prop} {o : Oper} {rest : List Oper} {a : Act}

theorem wpQuiet_value (v : Value) (hg : Region.wanted o (yielded ops a.tmps) = true) (h : ∀ w, C w → (execOp a.eval o).run P w = .ok (.value v) w) (k : wpQuiet P ops C Q rest (a.put o.dst v)) : wpQuiet P ops C Q (o :: rest) a := by
  unfold wpQuiet
  rw [if_pos hg]
  refine ⟨v, fun w hw => ?_, k⟩
  unfold Oper.quietAt
  rw [h w hw]
  exact ⟨rfl, rfl⟩

theorem wpQuiet_load_row (hg : Region.wanted o (yielded ops a.tmps) = true) (ty : TypeId) (x : Operand) (ho : o.op = .load ty x)
    (g : Nat) (hx : a.eval x = .pointer (some ⟨g, 0, none⟩)) (t : TypeId) (cs : Array Value) (fr : Nat × Nat) (d : TypeDesc) (hrow : ∀ w, C w → w.heap[g]? = some (.cells cs t fr))
    (hu : P.underlying ty = some d) (hd : (match d with | .struct _ | .array _ _ => true | _ => false) = true) (hi : (P.info? ty).map (·.size) = some cs.size)
    (k : wpQuiet P ops C Q rest (a.put o.dst (.agg cs))) : wpQuiet P ops C Q (o :: rest) a := by
  refine wpQuiet_value _ hg (fun w hw => ?_) k
  unfold execOp
  simp only [ho, hx, Instr.loadAt, Instr.sureAddr, Sem.run_bind, Sem.run_pure, Result.andThen_ok, run_loadVar_row w g t ty cs fr d (hrow w hw) hu hd hi]

theorem wpQuiet_load_cell (hg : Region.wanted o (yielded ops a.tmps) = true) (ty : TypeId) (x : Operand) (ho : o.op = .load ty x)
    (g off : Nat) (hx : a.eval x = .pointer (some ⟨g, off, none⟩)) (v : Value) (hrow : ∀ w, C w → w.cell? ⟨g, off, none⟩ = some v)
    (d : TypeDesc) (hu : P.underlying ty = some d) (hd : d.isRow = false)
    (k : wpQuiet P ops C Q rest (a.put o.dst v)) : wpQuiet P ops C Q (o :: rest) a := by
  refine wpQuiet_value _ hg (fun w hw => ?_) k
  have hc := hrow w hw
  have hagg : (isAgg ty).run P w = .ok false w := by
    unfold isAgg
    rw [Sem.run_bind, run_underlying hu w]
    cases d <;> simp_all
  unfold execOp
  simp only [ho, hx, Instr.loadAt, Instr.sureAddr, Sem.run_bind, Sem.run_pure, Result.andThen_ok, loadVar, hagg]
  simp [hc]

theorem wpQuiet_call (v : Value) (hg : Region.wanted o (yielded ops a.tmps) = true) (f : FuncId) (args : Array Value) (he : ∀ w, C w → (execOp a.eval o).run P w = .ok (.enter f args) w)
    (hc : ∀ w, C w → Calls P f args w fun e w' => e = .returned v ∧ C w') (k : wpQuiet P ops C Q rest (a.put o.dst v)) : wpQuiet P ops C Q (o :: rest) a := by
  unfold wpQuiet
  rw [if_pos hg]
  refine ⟨v, fun w hw => ?_, k⟩
  unfold Oper.quietAt
  rw [he w hw]
  exact ⟨rfl, hc w hw⟩
end

/-- 'make([]T, 0, c)'. -/
theorem wpList_make_lit {P : Program} {ops : Array Oper} {rest : List Oper} {o : Oper} {a : Act} {Q : Exit → Act → World → Prop} (hg : o.guard = none) (l c : Operand) (t e : TypeId) (hop : o.op = Op.makeSlice t l c)
    (ht : P.underlying t = some (.slice e)) {size bytes : Nat} (hel : ElemIs P e size bytes) (w : World) (base : Nat) (kl kc : IntKind) (C : Int) (n : Nat) (hl : a.eval l = .int kl 0) (hc : a.eval c = .int kc C) (hC : C = (n : Int))
    (b2 : bytes * n ≤ 281474976710656) (b3 : n ≤ 9223372036854775807) (b4 : base ≤ w.heap.size)
    (hK : ∀ w', w'.ownsRow base e size (.slice (some ⟨w.heap.size, 0, none⟩) 0 n) 0 [] → Below base w w' → wpList P ops Q rest (a.put o.dst (.slice (some ⟨w.heap.size, 0, none⟩) 0 n)) w') :
    wpList P ops Q (o :: rest) a w := by
  obtain ⟨i, z, hi, hz, hsize, hby, hzs, hpos⟩ := hel
  refine wpList_make_own w hg l c t hop base e i z size ht hi hz hsize kl kc C n hl hc hC (by rw [hby]; exact b2) (by unfold maxLen; omega) b4 ?_
  intro w' h1 h2
  exact hK w' h1 ((Below.refl base w).grown h2 b4 (fun k hk => by cases hk))
theorem own_form {w : World} {base : Nat} {e : TypeId} {size : Nat} {v : Value} {n : Nat} {xs : List Value} (h : w.ownsRow base e size v (n + 1) xs) : ∃ g cap, v = .slice (some ⟨g, 0, none⟩) (n + 1) cap ∧ n + 1 ≤ cap ∧ base ≤ g ∧ cap ≤ 9223372036854775807 := by
  obtain ⟨_, ⟨_, h0⟩ | ⟨g, cap, cur, rfl, hb, _, hc, hm, _⟩⟩ := h
  · omega
  · unfold maxLen at hm; exact ⟨g, cap, rfl, hc, hb, by omega⟩
theorem RowIs.at {w : World} {size : Nat} {a : Option Addr} {cap n : Nat} {xs : List Value} (h : RowIs w size (.slice a n cap) n xs) : ∃ b off, 0 < n → a = some ⟨b, off, none⟩ ∧ n ≤ cap ∧ ∀ i, i < n * size → w.cell? ⟨b, off + i, none⟩ = xs[i]? := by
  obtain ⟨_, _, ⟨h0, _⟩ | ⟨b, off, cap2, he, hc, hd⟩⟩ := h
  · exact ⟨0, 0, fun hp => by omega⟩
  · injection he with h1 _ h3
    subst h3
    exact ⟨b, off, fun _ => ⟨h1, hc, hd⟩⟩
theorem wpList_load_whole {P : Program} {ops : Array Oper} {rest : List Oper} {o : Oper} {a : Act} {w : World} {Q : Exit → Act → World → Prop} (hg : Region.wanted o (yielded ops a.tmps) = true) (ty : TypeId) (x : Operand) (ho : o.op = .load ty x)
    (g : Nat) (hx : a.eval x = .pointer (some ⟨g, 0, none⟩)) (t : TypeId) (cs : Array Value) (fr : Nat × Nat) (d : TypeDesc) (hrow : w.heap[g]? = some (.cells cs t fr))
    (hu : P.underlying ty = some d) (hd : (match d with | .struct _ | .array _ _ => true | _ => false) = true) (hi : (P.info? ty).map (·.size) = some cs.size)
    (h : wpList P ops Q rest (a.put o.dst (.agg cs)) w) : wpList P ops Q (o :: rest) a w := by
  unfold wpList
  rw [if_pos hg]
  exact .inl (wp_load_row ty x ho g hx t cs fr d hrow hu hd hi h)
end Go.Proofs.YtfcpnkalcijflaaGreatDoor
