/- Several texts in one: Kit Kit2 Kit3 Kit4 Kit5 Kit6. No condition. -/
import Derived.WalkKit
import Derived.OwnWalk
import Derived.Lib.Hide
import Derived.Deep.Quiet
import Derived.Deep.QuietTactic
import Derived.Deep.WholeRow
import Derived.Deep.MidRow
import Derived.Laws.AppendOwnNone
import Derived.Maps.AppendAt
/- Small general laws for the walks of this seat: worlds that only grow (Ext), slices that read as a list of cells (RowIs), append of a literal, regions that draw with a class of worlds. No condition. -/
namespace Go.Proofs.YtmopjmhapeinjaaGreatDoor
open Go.RowKit

/-- All that was there is as it was; new blocks may have come. -/
def Ext (w w' : World) : Prop := Below w.heap.size w w'
theorem Ext.refl (w : World) : Ext w w := Below.refl _ _
theorem Ext.size {w w' : World} (h : Ext w w') : w.heap.size ≤ w'.heap.size := Below.size h
theorem Ext.below {w w' : World} (h : Ext w w') : Below w.heap.size w w' := h
theorem Ext.trans {a b c : World} (h : Ext a b) (k : Ext b c) : Ext a c := Below.trans h (Below.mono k h.size)
theorem Ext.alloc {w w' : World} (h : Ext w w') (o : Obj) : Ext w (w'.alloc o) := Below.alloc h h.size o
theorem Ext.drew {w w' : World} (h : Ext w w') : Ext w w'.drew := Below.drew h
theorem Ext.setCell {w w' : World} (h : Ext w w') {p : Addr} (hp : w.heap.size ≤ p.block) (u : Value) : Ext w (w'.setCell p u) := Below.setCell h hp u
theorem Ext.setRow {w w' : World} (h : Ext w w') {g : Nat} (hg : w.heap.size ≤ g) (cs : Array Value) : Ext w (w'.setRow g cs) :=
  Below.trans h ⟨rfl, rfl, rfl, by simp, fun k hk => setRow_other w' g k cs (by omega)⟩
theorem Ext.cell {w w' : World} (h : Ext w w') {a : Addr} {v : Value} (hc : w.cell? a = some v) : w'.cell? a = some v :=
  (Below.cell h (World.block_lt_of_cell? w a hc)).trans hc
theorem Ext.frozen {w w' : World} (h : Ext w w') {a : Addr} {v : Value} (hc : w.cell? a = some v) : w'.frozen? a = w.frozen? a :=
  Below.frozen h (World.block_lt_of_cell? w a hc)
theorem Ext.row {w w' : World} (h : Ext w w') {g : Nat} {o : Obj} (hc : w.heap[g]? = some o) : w'.heap[g]? = some o :=
  (Below.block h g (Array.getElem?_eq_some_iff.1 hc).1).trans hc

/-- The slice 'v' has 'n' elements of 'size' cells; its cells read as 'xs'. -/
def RowIs (w : World) (size : Nat) (v : Value) (n : Nat) (xs : List Value) : Prop :=
  xs.length = n * size ∧ n ≤ 9223372036854775807 ∧
    ((n = 0 ∧ ∃ a cap, v = .slice a 0 cap ∧ (a = none → cap = 0)) ∨ ∃ b off cap, v = .slice (some ⟨b, off, none⟩) n cap ∧ n ≤ cap ∧ ∀ i, i < n * size → w.cell? ⟨b, off + i, none⟩ = xs[i]?)

theorem RowIs.ext {w w' : World} {size : Nat} {v : Value} {n : Nat} {xs : List Value} (h : RowIs w size v n xs) (he : Ext w w') : RowIs w' size v n xs := by
  obtain ⟨h1, h2, h3 | ⟨b, off, cap, rfl, hc, h4⟩⟩ := h
  · exact ⟨h1, h2, .inl h3⟩
  · refine ⟨h1, h2, .inr ⟨b, off, cap, rfl, hc, fun i hi => ?_⟩⟩
    have e := h4 i hi
    rw [List.getElem?_eq_getElem (by omega)] at e ⊢
    exact he.cell e
theorem RowIs.nil (w : World) (size : Nat) (a : Option Addr) (cap : Nat) (h : a = none → cap = 0) : RowIs w size (.slice a 0 cap) 0 [] := ⟨by simp, by omega, .inl ⟨rfl, a, cap, rfl, h⟩⟩
theorem RowIs.of_own {w : World} {base : Nat} {e : TypeId} {size : Nat} {v : Value} {n : Nat} {xs : List Value} (h : w.ownsRow base e size v n xs) : RowIs w size v n xs := by
  refine ⟨h.1, ?_, ?_⟩
  · obtain ⟨_, ⟨_, rfl⟩ | ⟨g, cap, cur, _, _, _, h1, h2, _⟩⟩ := h
    · omega
    · unfold maxLen at h2; omega
  · have h' := h
    obtain ⟨_, ⟨rfl, rfl⟩ | ⟨g, cap, cur, rfl, _, _, hn, _⟩⟩ := h
    · exact .inl ⟨rfl, _, _, rfl, fun _ => rfl⟩
    · refine .inr ⟨g, 0, cap, rfl, hn, fun i hi => ?_⟩
      rw [Nat.zero_add, h'.cellAt i hi]

/-- A type's row in the program's table: its cells and bytes, and that it has a zero value. -/
def ElemIs (P : Program) (e : TypeId) (size bytes : Nat) : Prop := ∃ i z, P.info? e = some i ∧ i.zero = some z ∧ i.size = size ∧ i.bytes = bytes ∧ z.cells.size = size ∧ 0 < size
theorem ElemIs.mk {P : Program} {e : TypeId} {z : Value} {size bytes : Nat} (h : (P.info? e).map (fun i => (i.zero, i.size, i.bytes)) = some (some z, size, bytes)) (hz : z.cells.size = size) (hs : 0 < size) : ElemIs P e size bytes := by
  obtain ⟨i, h1, h2, h3, h4⟩ := info_parts h
  exact ⟨i, z, h1, h2, h3, h4, hz, hs⟩

/-- 'out = append(out, x)', the element's cells just laid in a block of their own. -/
theorem wpList_append_lit {P : Program} {ops : Array Oper} {rest : List Oper} {o : Oper} {a : Act} {Q : Exit → Act → World → Prop} (hgd : o.guard = none) (s x : Operand) (t e : TypeId)
    (ho : o.op = .call { callee := .builtin .append, args := #[s, x], argTypes := #[t, t] }) (ht : P.underlying t = some (.slice e)) {size bytes : Nat} (hel : ElemIs P e size bytes)
    (w : World) (base n : Nat) (xs : List Value) (v : Value) (hs : a.eval s = v) (hown : w.ownsRow base e size v n xs) (cs : Array Value)
    (hx : a.eval x = .slice (some ⟨w.heap.size, 0, none⟩) 1 1) (hcs : cs.size = size) (h1 : ∀ u ∈ cs.toList, u.oneCell' = true) (hn : n < 9223372036854775807) (hb : (n + 1) * bytes ≤ 140737488355328) (hbase : base ≤ w.heap.size)
    (h : ∀ v' w', w'.ownsRow base e size v' (n + 1) (xs ++ cs.toList) → Below base w w' → wpList P ops Q rest (a.put o.dst v') w') : wpList P ops Q (o :: rest) a (w.alloc (.cells cs e)) := by
  obtain ⟨i, z, hi, hz, hsize, hby, hzs, hpos⟩ := hel
  refine wpList_append_own _ hgd s x t ho base e i z size bytes ht hi hz hsize hby hzs hpos v n xs hs (hown.alloc _) ⟨w.heap.size, 0, none⟩ 1 1 cs.toList hx (by simp [hcs]) ?_ h1 (by unfold maxLen; omega) hb (by simp; omega) ?_
  · intro j u hu
    have hadd : (⟨w.heap.size, 0, none⟩ : Addr).add j = ⟨w.heap.size, j, none⟩ := by unfold Addr.add; split <;> simp_all
    rw [hadd, cell_of_row _ _ j cs e (0, 0) (heap_alloc_new w _)]
    simpa using hu
  · intro v' w' hown' hg _
    refine h v' w' hown' ?_
    exact ((Below.refl base w).alloc hbase _).grown hg (by simp; omega) (fun k hk => (hown.lt k hk).1)

/-- 'x := f()', the result an array or a struct: the variable's block, just laid, is written whole. -/
theorem wpList_store_whole {P : Program} {ops : Array Oper} {rest : List Oper} {o : Oper} {a : Act} {Q : Exit → Act → World → Prop} (hgd : o.guard = none) (ty : TypeId) (x y : Operand) (ho : o.op = .store ty x y)
    (w : World) (old cells : Array Value) (B : Nat) (hx : a.eval x = .pointer (some ⟨B, 0, none⟩)) (hB : w.heap.size = B) (hy : a.eval y = .agg cells) (hi : (P.info? ty).map (·.size) = some cells.size)
    (hold : old.size = cells.size) (h1 : cells.all (·.oneCell') = true) (h : wpList P ops Q rest (a.put o.dst undef) (w.alloc (.cells cells ty))) : wpList P ops Q (o :: rest) a (w.alloc (.cells old ty)) := by
  subst hB
  refine wpList_store_row hgd ty x y ho w.heap.size cells hx hy ty old (heap_alloc_new w _) hi hold h1 ?_
  rw [World.setRow_alloc_new]
  exact h

/-- ONE WALK SERVES EVERY ORDER, in a class of worlds of one's own. -/
theorem wp_region_class {P : Program} {id : Nat} {Q : Exit → Act → World → Prop} {a : Act} {w : World} {l : List Oper} (C : World → Prop) (hm : P.follows .mixedOrders = true) (hB : Region.lexB .any l.toArray = true) (hC : C w.drew)
    (h : wpQuiet P l.toArray C (fun a' => ∀ w', C w' → Q .normal a' w') l a) : (Code.region id l.toArray true).wp P Q a w :=
  wp_region_quiet (C := C) hm hB hC (by simpa using h)
end Go.Proofs.YtmopjmhapeinjaaGreatDoor

/- Laws for regions that draw their order, in a class of worlds: a whole row is loaded, one cell is loaded, a function is called, whatever else reads no world. No condition. -/
namespace Go.Proofs.YtmopjmhapeinjaaGreatDoor
open Go.RowKit
section
variable {P : Program} {ops : Array Oper} {C : World → Prop} {Q : Act → Prop} {o : Oper} {rest : List Oper} {a : Act}

theorem wpQuiet_value (v : Value) (hg : Region.wanted o (yielded ops a.tmps) = true) (h : ∀ w, C w → (execOp a.eval o).run P w = .ok (.value v) w) (k : wpQuiet P ops C Q rest (a.put o.dst v)) : wpQuiet P ops C Q (o :: rest) a := by
  unfold wpQuiet
  rw [if_pos hg]
  refine ⟨v, fun w hw => ?_, k⟩
  unfold Oper.quietAt
  rw [h w hw]
  exact ⟨rfl, rfl⟩

theorem wpQuiet_load_row (hg : Region.wanted o (yielded ops a.tmps) = true) (ty : TypeId) (x : Operand) (ho : o.op = .load ty x)
    (g : Nat) (hx : a.eval x = .pointer (some ⟨g, 0, none⟩)) (t : TypeId) (cs : Array Value) (fr : Nat × Nat) (d : TypeDesc) (hrow : ∀ w, C w → w.heap[g]? = some (.cells cs t fr))
    (hu : P.underlying ty = some d) (hd : (match d with | .struct _ | .array _ _ => true | _ => false) = true) (hi : (P.info? ty).map (·.size) = some cs.size)
    (k : wpQuiet P ops C Q rest (a.put o.dst (.agg cs))) : wpQuiet P ops C Q (o :: rest) a := by
  refine wpQuiet_value _ hg (fun w hw => ?_) k
  unfold execOp
  simp only [ho, hx, Instr.loadAt, Instr.sureAddr, Sem.run_bind, Sem.run_pure, Result.andThen_ok, run_loadVar_row w g t ty cs fr d (hrow w hw) hu hd hi]

theorem wpQuiet_load_cell (hg : Region.wanted o (yielded ops a.tmps) = true) (ty : TypeId) (x : Operand) (ho : o.op = .load ty x)
    (g off : Nat) (hx : a.eval x = .pointer (some ⟨g, off, none⟩)) (v : Value) (hrow : ∀ w, C w → w.cell? ⟨g, off, none⟩ = some v)
    (d : TypeDesc) (hu : P.underlying ty = some d) (hd : d.isRow = false)
    (k : wpQuiet P ops C Q rest (a.put o.dst v)) : wpQuiet P ops C Q (o :: rest) a := by
  refine wpQuiet_value _ hg (fun w hw => ?_) k
  have hc := hrow w hw
  have hagg : (isAgg ty).run P w = .ok false w := by
    unfold isAgg
    rw [Sem.run_bind, run_underlying hu w]
    cases d <;> simp_all
  unfold execOp
  simp only [ho, hx, Instr.loadAt, Instr.sureAddr, Sem.run_bind, Sem.run_pure, Result.andThen_ok, loadVar, hagg]
  simp [hc]

theorem wpQuiet_call (v : Value) (hg : Region.wanted o (yielded ops a.tmps) = true) (f : FuncId) (args : Array Value) (he : ∀ w, C w → (execOp a.eval o).run P w = .ok (.enter f args) w)
    (hc : ∀ w, C w → Calls P f args w fun e w' => e = .returned v ∧ C w') (k : wpQuiet P ops C Q rest (a.put o.dst v)) : wpQuiet P ops C Q (o :: rest) a := by
  unfold wpQuiet
  rw [if_pos hg]
  refine ⟨v, fun w hw => ?_, k⟩
  unfold Oper.quietAt
  rw [he w hw]
  exact ⟨rfl, hc w hw⟩
end

/-- 'make([]T, 0, c)'. -/
theorem wpList_make_lit {P : Program} {ops : Array Oper} {rest : List Oper} {o : Oper} {a : Act} {Q : Exit → Act → World → Prop} (hg : o.guard = none) (l c : Operand) (t e : TypeId) (hop : o.op = Op.makeSlice t l c)
    (ht : P.underlying t = some (.slice e)) {size bytes : Nat} (hel : ElemIs P e size bytes) (w : World) (base : Nat) (kl kc : IntKind) (C : Int) (n : Nat) (hl : a.eval l = .int kl 0) (hc : a.eval c = .int kc C) (hC : C = (n : Int))
    (b2 : bytes * n ≤ 281474976710656) (b3 : n ≤ 9223372036854775807) (b4 : base ≤ w.heap.size)
    (hK : ∀ w', w'.ownsRow base e size (.slice (some ⟨w.heap.size, 0, none⟩) 0 n) 0 [] → Below base w w' → wpList P ops Q rest (a.put o.dst (.slice (some ⟨w.heap.size, 0, none⟩) 0 n)) w') :
    wpList P ops Q (o :: rest) a w := by
  obtain ⟨i, z, hi, hz, hsize, hby, hzs, hpos⟩ := hel
  refine wpList_make_own w hg l c t hop base e i z size ht hi hz hsize kl kc C n hl hc hC (by rw [hby]; exact b2) (by unfold maxLen; omega) b4 ?_
  intro w' h1 h2
  exact hK w' h1 ((Below.refl base w).grown h2 b4 (fun k hk => by cases hk))
theorem own_form {w : World} {base : Nat} {e : TypeId} {size : Nat} {v : Value} {n : Nat} {xs : List Value} (h : w.ownsRow base e size v (n + 1) xs) : ∃ g cap, v = .slice (some ⟨g, 0, none⟩) (n + 1) cap ∧ n + 1 ≤ cap ∧ base ≤ g ∧ cap ≤ 9223372036854775807 := by
  obtain ⟨_, ⟨_, h0⟩ | ⟨g, cap, cur, rfl, hb, _, hc, hm, _⟩⟩ := h
  · omega
  · unfold maxLen at hm; exact ⟨g, cap, rfl, hc, hb, by omega⟩
theorem RowIs.at {w : World} {size : Nat} {a : Option Addr} {cap n : Nat} {xs : List Value} (h : RowIs w size (.slice a n cap) n xs) : ∃ b off, 0 < n → a = some ⟨b, off, none⟩ ∧ n ≤ cap ∧ ∀ i, i < n * size → w.cell? ⟨b, off + i, none⟩ = xs[i]? := by
  obtain ⟨_, _, ⟨h0, _⟩ | ⟨b, off, cap2, he, hc, hd⟩⟩ := h
  · exact ⟨0, 0, fun hp => by omega⟩
  · injection he with h1 _ h3
    subst h3
    exact ⟨b, off, fun _ => ⟨h1, hc, hd⟩⟩
theorem wpList_load_whole {P : Program} {ops : Array Oper} {rest : List Oper} {o : Oper} {a : Act} {w : World} {Q : Exit → Act → World → Prop} (hg : Region.wanted o (yielded ops a.tmps) = true) (ty : TypeId) (x : Operand) (ho : o.op = .load ty x)
    (g : Nat) (hx : a.eval x = .pointer (some ⟨g, 0, none⟩)) (t : TypeId) (cs : Array Value) (fr : Nat × Nat) (d : TypeDesc) (hrow : w.heap[g]? = some (.cells cs t fr))
    (hu : P.underlying ty = some d) (hd : (match d with | .struct _ | .array _ _ => true | _ => false) = true) (hi : (P.info? ty).map (·.size) = some cs.size)
    (h : wpList P ops Q rest (a.put o.dst (.agg cs)) w) : wpList P ops Q (o :: rest) a w := by
  unfold wpList
  rw [if_pos hg]
  exact .inl (wp_load_row ty x ho g hx t cs fr d hrow hu hd hi h)
end Go.Proofs.YtmopjmhapeinjaaGreatDoor

/- Slices of slices: what a cut from the front and a cut from the back read as, and their runs as equations for the walk. No condition. -/
namespace Go.Proofs.YtmopjmhapeinjaaGreatDoor
open Go.RowKit

/-- The address behind 'a[k:]'. -/
def tailAddr (a : Option Addr) (cap k size : Nat) : Option Addr := if cap = k then a else a.map (·.add (k * size))

theorem RowIs.take {w : World} {size : Nat} {a : Option Addr} {cap n : Nat} {xs : List Value} (h : RowIs w size (.slice a n cap) n xs) {k : Nat} (hk : k ≤ n) : RowIs w size (.slice a k cap) k (xs.take (k * size)) := by
  obtain ⟨h1, h2, h3⟩ := h
  have hks : k * size ≤ n * size := Nat.mul_le_mul_right _ hk
  refine ⟨by rw [List.length_take, h1]; omega, by omega, ?_⟩
  rcases h3 with ⟨h0, a', cap', he, hz⟩ | ⟨b, off, cap', he, hc, hd⟩
  · injection he with e1 _ e3
    subst e1; subst e3
    have hk0 : k = 0 := by omega
    exact .inl ⟨hk0, a, cap, by rw [hk0], hz⟩
  · injection he with e1 _ e3
    subst e1; subst e3
    refine .inr ⟨b, off, cap, rfl, by omega, fun i hi => ?_⟩
    rw [hd i (by omega), List.getElem?_take_of_lt hi]

theorem RowIs.drop {w : World} {size : Nat} {a : Option Addr} {cap n : Nat} {xs : List Value} (h : RowIs w size (.slice a n cap) n xs) (k : Nat) : RowIs w size (.slice (tailAddr a cap k size) (n - k) (cap - k)) (n - k) (xs.drop (k * size)) := by
  obtain ⟨h1, h2, h3⟩ := h
  refine ⟨by rw [List.length_drop, h1, Nat.sub_mul], by omega, ?_⟩
  rcases h3 with ⟨h0, a', cap', he, hz⟩ | ⟨b, off, cap', he, hc, hd⟩
  · injection he with e1 _ e3
    subst e1; subst e3
    refine .inl ⟨by omega, _, _, by rw [show n - k = 0 by omega], fun hn => ?_⟩
    unfold tailAddr at hn
    split at hn
    · rw [hz hn]; omega
    · simp at hn; rw [hz hn]; omega
  · injection he with e1 _ e3
    subst e1; subst e3
    by_cases hkn : n ≤ k
    · refine .inl ⟨by omega, _, _, by rw [show n - k = 0 by omega], fun hn => ?_⟩
      unfold tailAddr at hn
      split at hn
      · simp at hn
      · simp at hn
    · refine .inr ⟨b, off + k * size, cap - k, ?_, by omega, fun i hi => ?_⟩
      · unfold tailAddr
        rw [if_neg (by omega), Option.map_some, Addr.add_mid]
      · have e : (n - k) * size = n * size - k * size := Nat.sub_mul _ _ _
        rw [Nat.add_assoc, hd (k * size + i) (by omega), List.getElem?_drop]

theorem run_cut_front {P : Program} {t e : TypeId} {size : Nat} (ht : P.underlying t = some (.slice e)) (he : (P.info? e).map (·.size) = some size) (a : Option Addr) (n cap k : Nat) (hk : k ≤ cap) (w : World) :
    (Instr.slice t (.slice a n cap) none (some (.int .i64 (k : Int))) none).run P w = .ok (.slice a k cap) w := by
  have hel : P.elem t = e := by simp [Program.elem, ht]
  have ht' : P.underlying t = some (.slice (P.elem t)) := by rw [hel]; exact ht
  have hs : (sizeOf e).run P w = .ok size w := by
    cases hq : P.info? e with
    | none => simp [hq] at he
    | some i => simp [hq] at he; simp [sizeOf, typeInfo, hq, he]
  rw [run_slice_h w t a n cap ht' .i64 (k : Int) (by omega) (by omega), hel, hs]
  simp only [Result.andThen_ok, sliced, Int.toNat_natCast, Nat.zero_mul, Nat.sub_zero]
  congr 2
  split
  · rfl
  · cases a <;> simp [Addr.add]

theorem run_cut_back {P : Program} {t e : TypeId} {size : Nat} (ht : P.underlying t = some (.slice e)) (he : (P.info? e).map (·.size) = some size) (a : Option Addr) (n cap k : Nat) (hk : k ≤ n) (w : World) :
    (Instr.slice t (.slice a n cap) (some (.int .i64 (k : Int))) none none).run P w = .ok (.slice (tailAddr a cap k size) (n - k) (cap - k)) w := by
  have hel : P.elem t = e := by simp [Program.elem, ht]
  have ht' : P.underlying t = some (.slice (P.elem t)) := by rw [hel]; exact ht
  have hs : (sizeOf e).run P w = .ok size w := by
    cases hq : P.info? e with
    | none => simp [hq] at he
    | some i => simp [hq] at he; simp [sizeOf, typeInfo, hq, he]
  rw [run_slice_l w t a n cap ht' .i64 (k : Int) (by omega) (by omega), hel, hs]
  simp only [Result.andThen_ok, sliced, Int.toNat_natCast, tailAddr]
/-- A callee's contract, in a region's class of worlds. -/
theorem calls_same {P : Program} {f : FuncId} {args : Array Value} {W w : World} {v : Value} (h : Ext W w) (c : Calls P f args w fun e w' => e = .returned v ∧ w = w') : Calls P f args w fun e w' => e = .returned v ∧ Ext W w' :=
  c.mono fun _ _ ⟨he, hw⟩ => ⟨he, hw ▸ h⟩
theorem calls_ext {P : Program} {f : FuncId} {args : Array Value} {W w : World} {v : Value} (h : Ext W w) (c : Calls P f args w fun e w' => e = .returned v ∧ Ext w w') : Calls P f args w fun e w' => e = .returned v ∧ Ext W w' :=
  c.mono fun _ _ ⟨he, hw⟩ => ⟨he, h.trans hw⟩

/-- 'append(out, xs...)', out nil or the call's own, xs whatever row there is. -/
theorem wpList_append_row {P : Program} {ops : Array Oper} {rest : List Oper} {o : Oper} {a : Act} {Q : Exit → Act → World → Prop} (hgd : o.guard = none) (s x : Operand) (t e : TypeId)
    (ho : o.op = .call { callee := .builtin .append, args := #[s, x], argTypes := #[t, t] }) (ht : P.underlying t = some (.slice e)) {size bytes : Nat} (hel : ElemIs P e size bytes)
    (w : World) (base n : Nat) (xs : List Value) (v : Value) (hs : a.eval s = v) (hown : w.ownsRow base e size v n xs) (xv : Value) (m : Nat) (news : List Value)
    (hx : a.eval x = xv) (hr : RowIs w size xv m news) (h1 : ∀ u ∈ news, u.oneCell' = true) (hn : n + m ≤ 9223372036854775807) (hb : (n + m) * bytes ≤ 140737488355328) (hbase : base ≤ w.heap.size)
    (h : ∀ v' w', w'.ownsRow base e size v' (n + m) (xs ++ news) → Below base w w' → wpList P ops Q rest (a.put o.dst v') w') : wpList P ops Q (o :: rest) a w := by
  obtain ⟨i, z, hi, hz, hsize, hby, hzs, hpos⟩ := hel
  have hk : ∀ ad c, xv = .slice (some ad) m c → (∀ j u, news[j]? = some u → w.cell? (ad.add j) = some u) → wpList P ops Q (o :: rest) a w := by
    intro ad c hxv hcell
    refine wpList_append_own _ hgd s x t ho base e i z size bytes ht hi hz hsize hby hzs hpos v n xs hs hown ad m c news (by rw [hx, hxv]) hr.1 hcell h1 (by unfold maxLen; omega) hb hbase ?_
    intro v' w' hown' hg _
    exact h v' w' hown' ((Below.refl base w).grown hg hbase (fun k hk => (hown.lt k hk).1))
  obtain ⟨hl, _, ⟨rfl, ad, c, rfl, hnil⟩ | ⟨b, off, c, rfl, hc, hd⟩⟩ := hr
  · have hnews : news = [] := List.eq_nil_of_length_eq_zero (by omega)
    subst hnews
    cases ad with
    | none =>
      obtain rfl := hnil rfl
      refine wpList_append_own_none hgd s x t ho base e i size ht hi v n xs hs hown hx ?_
      have := h v w (by simpa using hown) (Below.refl _ _)
      exact this
    | some ad => exact hk ad c rfl (fun j u hj => by simp at hj)
  · refine hk ⟨b, off, none⟩ c rfl (fun j u hj => ?_)
    have hj' : j < news.length := (List.getElem?_eq_some_iff.1 hj).1
    rw [Addr.add_mid, hd j (by omega), hj]
/-- A literal's block, just laid. -/
theorem RowIs.lit (w : World) (size n : Nat) (cs : Array Value) (e : TypeId) (fr : Nat × Nat) (hcs : cs.size = n * size) (hn : n ≤ 9223372036854775807) :
    RowIs (w.alloc (.cells cs e fr)) size (.slice (some ⟨w.heap.size, 0, none⟩) n n) n cs.toList := by
  refine ⟨by simpa using hcs, hn, .inr ⟨w.heap.size, 0, n, rfl, Nat.le_refl _, fun i hi => ?_⟩⟩
  rw [Nat.zero_add, cell_of_row _ _ i cs e fr (heap_alloc_new w _)]
  simp
end Go.Proofs.YtmopjmhapeinjaaGreatDoor

/- Append at one operation (in a region that draws its order too), and append to one of several rows of the call's own. No condition. -/
namespace Go.Proofs.YtmopjmhapeinjaaGreatDoor
open Go.RowKit

theorem wp_append_row {P : Program} {o : Oper} {a : Act} {K : Act → World → Prop} {Q : Exit → Act → World → Prop} (s x : Operand) (t e : TypeId)
    (ho : o.op = .call { callee := .builtin .append, args := #[s, x], argTypes := #[t, t] }) (ht : P.underlying t = some (.slice e)) {size bytes : Nat} (hel : ElemIs P e size bytes)
    (w : World) (base n : Nat) (xs : List Value) (v : Value) (hs : a.eval s = v) (hown : w.ownsRow base e size v n xs) (xv : Value) (m : Nat) (news : List Value)
    (hx : a.eval x = xv) (hr : RowIs w size xv m news) (h1 : ∀ u ∈ news, u.oneCell' = true) (hn : n + m ≤ 9223372036854775807) (hb : (n + m) * bytes ≤ 140737488355328) (hbase : base ≤ w.heap.size)
    (h : ∀ v' w', w'.ownsRow base e size v' (n + m) (xs ++ news) → Below base w w' → K (a.put o.dst v') w') : o.wp P a w K Q := by
  obtain ⟨i, z, hi, hz, hsize, hby, hzs, hpos⟩ := hel
  have hk : ∀ ad c, xv = .slice (some ad) m c → (∀ j u, news[j]? = some u → w.cell? (ad.add j) = some u) → o.wp P a w K Q := by
    intro ad c hxv hcell
    refine wp_append_own w s x t ho base e i z size bytes ht hi hz hsize hby hzs hpos v n xs hs hown ad m c news (by rw [hx, hxv]) hr.1 hcell h1 (by unfold maxLen; omega) hb hbase ?_
    intro v' w' hown' hg _
    exact h v' w' hown' ((Below.refl base w).grown hg hbase (fun k hk => (hown.lt k hk).1))
  obtain ⟨hl, _, ⟨rfl, ad, c, rfl, hnil⟩ | ⟨b, off, c, rfl, hc, hd⟩⟩ := hr
  · have hnews : news = [] := List.eq_nil_of_length_eq_zero (by omega)
    subst hnews
    cases ad with
    | none =>
      obtain rfl := hnil rfl
      have hrun := run_append_owned_none (P := P) (w := w) base t o.type e i size ht hi v n xs hown
      unfold Oper.wp
      simp [execOp, ho, resolve, invoke, builtin, hs, hx, hrun, Result.andThen]
      exact h v w (by simpa using hown) (Below.refl _ _)
    | some ad => exact hk ad c rfl (fun j u hj => by simp at hj)
  · refine hk ⟨b, off, none⟩ c rfl (fun j u hj => ?_)
    have hj' : j < news.length := (List.getElem?_eq_some_iff.1 hj).1
    rw [Addr.add_mid, hd j (by omega), hj]

theorem step_append_row {P : Program} {ops : Array Oper} {o : Oper} {a : Act} {K : Act → World → Prop} {Q : Exit → Act → World → Prop} {E : Prop} (hg : Region.wanted o (yielded ops a.tmps) = true) (s x : Operand) (t e : TypeId)
    (ho : o.op = .call { callee := .builtin .append, args := #[s, x], argTypes := #[t, t] }) (ht : P.underlying t = some (.slice e)) {size bytes : Nat} (hel : ElemIs P e size bytes)
    (w : World) (base n : Nat) (xs : List Value) (v : Value) (hs : a.eval s = v) (hown : w.ownsRow base e size v n xs) (xv : Value) (m : Nat) (news : List Value)
    (hx : a.eval x = xv) (hr : RowIs w size xv m news) (h1 : ∀ u ∈ news, u.oneCell' = true) (hn : n + m ≤ 9223372036854775807) (hb : (n + m) * bytes ≤ 140737488355328) (hbase : base ≤ w.heap.size)
    (h : ∀ v' w', w'.ownsRow base e size v' (n + m) (xs ++ news) → Below base w w' → K (a.put o.dst v') w') : if Region.wanted o (yielded ops a.tmps) = true then Oper.wp P o a w K Q else E := by
  rw [if_pos hg]
  exact wp_append_row s x t e ho ht hel w base n xs v hs hown xv m news hx hr h1 hn hb hbase h

/-- Two slices do not lie in one block. -/
def Sep (v u : Value) : Prop := ∀ g, v.ownBlock = some g → u.ownBlock ≠ some g
theorem Sep.symm {v u : Value} (h : Sep v u) : Sep u v := fun g hg hu => h g hu hg
theorem Sep.nil (u : Value) : Sep (.slice none 0 0) u := fun g hg => by simp [Value.ownBlock] at hg
/-- What another row of the call's own is, behind an append to v that gave v'. -/
def Keeps (w w' : World) (v v' : Value) : Prop := ∀ (base : Nat) (e : TypeId) (size : Nat) (u : Value) (n : Nat) (xs : List Value), w.ownsRow base e size u n xs → Sep v u → w'.ownsRow base e size u n xs ∧ Sep v' u

theorem wpList_append_sep {P : Program} {ops : Array Oper} {rest : List Oper} {o : Oper} {a : Act} {Q : Exit → Act → World → Prop} (hgd : o.guard = none) (s x : Operand) (t e : TypeId)
    (ho : o.op = .call { callee := .builtin .append, args := #[s, x], argTypes := #[t, t] }) (ht : P.underlying t = some (.slice e)) {size bytes : Nat} (hel : ElemIs P e size bytes)
    (w : World) (base n : Nat) (xs : List Value) (v : Value) (hs : a.eval s = v) (hown : w.ownsRow base e size v n xs) (cs : Array Value)
    (hx : a.eval x = .slice (some ⟨w.heap.size, 0, none⟩) 1 1) (hcs : cs.size = size) (h1 : ∀ u ∈ cs.toList, u.oneCell' = true) (hn : n < 9223372036854775807) (hb : (n + 1) * bytes ≤ 140737488355328) (hbase : base ≤ w.heap.size)
    (h : ∀ v' w', w'.ownsRow base e size v' (n + 1) (xs ++ cs.toList) → Below base w w' → Keeps w w' v v' → wpList P ops Q rest (a.put o.dst v') w') : wpList P ops Q (o :: rest) a (w.alloc (.cells cs e)) := by
  obtain ⟨i, z, hi, hz, hsize, hby, hzs, hpos⟩ := hel
  refine wpList_append_own_at _ hgd s x t ho base e i z size bytes ht hi hz hsize hby hzs hpos v n xs hs (hown.alloc _) ⟨w.heap.size, 0, none⟩ 1 1 cs.toList hx (by simp [hcs]) ?_ h1 (by unfold maxLen; omega) hb (by simp; omega) ?_
  · intro j u hu
    rw [Addr.add_mid, Nat.zero_add, cell_of_row _ _ j cs e (0, 0) (heap_alloc_new w _)]
    simpa using hu
  · intro v' w' hown' hg _ hat
    refine h v' w' hown' (((Below.refl base w).alloc hbase _).grown hg (by simp; omega) (fun k hk => (hown.lt k hk).1)) ?_
    intro base2 e2 size2 u n2 xs2 hu hsep
    refine ⟨(hu.alloc _).kept hg ?_, ?_⟩
    · cases hub : u.ownBlock with
      | none => exact .inl rfl
      | some k => exact .inr (fun hk => hsep.symm k hub hk.symm)
    · intro g hg' hug
      rcases hat with hat | hat
      · exact hsep g (hat ▸ hg') hug
      · rw [hat] at hg'
        have := (hu.lt g hug).2
        simp at hg'
        omega
end Go.Proofs.YtmopjmhapeinjaaGreatDoor

/- Append to one of several rows of the call's own, at one operation of a region that draws its order. No condition. -/
namespace Go.Proofs.YtmopjmhapeinjaaGreatDoor
open Go.RowKit

theorem wp_append_sep {P : Program} {o : Oper} {a : Act} {K : Act → World → Prop} {Q : Exit → Act → World → Prop} (s x : Operand) (t e : TypeId)
    (ho : o.op = .call { callee := .builtin .append, args := #[s, x], argTypes := #[t, t] }) (ht : P.underlying t = some (.slice e)) {size bytes : Nat} (hel : ElemIs P e size bytes)
    (w : World) (base n : Nat) (xs : List Value) (v : Value) (hs : a.eval s = v) (hown : w.ownsRow base e size v n xs) (cs : Array Value)
    (hx : a.eval x = .slice (some ⟨w.heap.size, 0, none⟩) 1 1) (hcs : cs.size = size) (h1 : ∀ u ∈ cs.toList, u.oneCell' = true) (hn : n < 9223372036854775807) (hb : (n + 1) * bytes ≤ 140737488355328) (hbase : base ≤ w.heap.size)
    (h : ∀ v' w', w'.ownsRow base e size v' (n + 1) (xs ++ cs.toList) → Below base w w' → Keeps w w' v v' → K (a.put o.dst v') w') : o.wp P a (w.alloc (.cells cs e)) K Q := by
  obtain ⟨i, z, hi, hz, hsize, hby, hzs, hpos⟩ := hel
  obtain ⟨v', w', hr, hown', hg, _, hat⟩ := run_append_own_at (P := P) (w.alloc (.cells cs e)) base t o.type e i z size bytes ht hi hz hsize hby hzs hpos v n xs (hown.alloc _) ⟨w.heap.size, 0, none⟩ 1 1 cs.toList (by simp [hcs]) (by
    intro j u hu
    rw [Addr.add_mid, Nat.zero_add, cell_of_row _ _ j cs e (0, 0) (heap_alloc_new w _)]
    simpa using hu) h1 (by unfold maxLen; omega) hb (by simp; omega)
  unfold Oper.wp execOp
  simp only [ho, resolve, invoke, builtin, Sem.run_bind, Sem.run_pure, Result.andThen_ok, List.map_toArray, List.map_cons, List.map_nil, hs, hx, hr]
  refine h v' w' hown' (((Below.refl base w).alloc hbase _).grown hg (by simp; omega) (fun k hk => (hown.lt k hk).1)) ?_
  intro base2 e2 size2 u n2 xs2 hu hsep
  refine ⟨(hu.alloc _).kept hg ?_, ?_⟩
  · cases hub : u.ownBlock with
    | none => exact .inl rfl
    | some k => exact .inr (fun hk => hsep.symm k hub hk.symm)
  · intro g hg' hug
    rcases hat with hat | hat
    · exact hsep g (hat ▸ hg') hug
    · rw [hat] at hg'
      have := (hu.lt g hug).2
      simp at hg'
      omega

theorem step_append_sep {P : Program} {ops : Array Oper} {o : Oper} {a : Act} {K : Act → World → Prop} {Q : Exit → Act → World → Prop} {E : Prop} (hg : Region.wanted o (yielded ops a.tmps) = true) (s x : Operand) (t e : TypeId)
    (ho : o.op = .call { callee := .builtin .append, args := #[s, x], argTypes := #[t, t] }) (ht : P.underlying t = some (.slice e)) {size bytes : Nat} (hel : ElemIs P e size bytes)
    (w : World) (base n : Nat) (xs : List Value) (v : Value) (hs : a.eval s = v) (hown : w.ownsRow base e size v n xs) (cs : Array Value)
    (hx : a.eval x = .slice (some ⟨w.heap.size, 0, none⟩) 1 1) (hcs : cs.size = size) (h1 : ∀ u ∈ cs.toList, u.oneCell' = true) (hn : n < 9223372036854775807) (hb : (n + 1) * bytes ≤ 140737488355328) (hbase : base ≤ w.heap.size)
    (h : ∀ v' w', w'.ownsRow base e size v' (n + 1) (xs ++ cs.toList) → Below base w w' → Keeps w w' v v' → K (a.put o.dst v') w') : if Region.wanted o (yielded ops a.tmps) = true then Oper.wp P o a (w.alloc (.cells cs e)) K Q else E := by
  rw [if_pos hg]
  exact wp_append_sep s x t e ho ht hel w base n xs v hs hown cs hx hcs h1 hn hb hbase h
end Go.Proofs.YtmopjmhapeinjaaGreatDoor

/- A piece of a block is loaded in a region that draws its order. No condition. -/
namespace Go.Proofs.YtmopjmhapeinjaaGreatDoor
open Go.RowKit
theorem wpQuiet_load_mid {P : Program} {ops : Array Oper} {C : World → Prop} {Q : Act → Prop} {o : Oper} {rest : List Oper} {a : Act} (hg : Region.wanted o (yielded ops a.tmps) = true) (ty : TypeId) (x : Operand) (ho : o.op = .load ty x)
    (b off : Nat) (hx : a.eval x = .pointer (some ⟨b, off, none⟩)) (cs : List Value) (d : TypeDesc) (hrow : ∀ w, C w → w.rangeAt b off cs)
    (hu : P.underlying ty = some d) (hd : d.isRow = true) (hi : (P.info? ty).map (·.size) = some cs.length)
    (k : wpQuiet P ops C Q rest (a.put o.dst (.agg cs.toArray))) : wpQuiet P ops C Q (o :: rest) a := by
  refine wpQuiet_value _ hg (fun w hw => ?_) k
  unfold execOp
  simp only [ho, hx, Sem.run_bind, Result.andThen_ok, run_loadAt_mid w b off ty cs d (hrow w hw) hu hd hi, Sem.run_pure]
/-- The like in a region in the text's order, the load guarded. -/
theorem wpList_load_mid_on {P : Program} {ops : Array Oper} {rest : List Oper} {o : Oper} {a : Act} {w : World} {Q : Exit → Act → World → Prop} (hg : Region.wanted o (yielded ops a.tmps) = true) (ty : TypeId) (x : Operand) (ho : o.op = .load ty x)
    (b off : Nat) (hx : a.eval x = .pointer (some ⟨b, off, none⟩)) (cs : List Value) (d : TypeDesc) (hc : w.rangeAt b off cs)
    (hu : P.underlying ty = some d) (hd : d.isRow = true) (hi : (P.info? ty).map (·.size) = some cs.length)
    (h : wpList P ops Q rest (a.put o.dst (.agg cs.toArray)) w) : wpList P ops Q (o :: rest) a w := by
  unfold wpList
  rw [if_pos hg]
  exact .inl (wp_load_mid ty x ho b off hx cs d hc hu hd hi h)
end Go.Proofs.YtmopjmhapeinjaaGreatDoor
