/- Several texts in one: Cb LM1 Sz1. No condition. -/
import Derived.Test.YtmopjmhapeinjaaGreatDoorGrA0
import Derived.Test.YtmopjmhapeinjaaGreatDoorGrA1
import Derived.Test.YtmopjmhapeinjaaGreatDoorChk
import Derived.Test.YtmopjmhapeinjaaGreatDoorGrA3
import Derived.Test.YtmopjmhapeinjaaGreatDoorGrA4
import Derived.WalkSpells
import Derived.Maps.OwnOps
import Derived.Maps.OwnSet
import Derived.Maps.Ext
import Derived.Sort.KeysCollected
import Derived.StringKeys
import Derived.BigRegion
import Derived.Deep.Cut
import Derived.StillTailTactics
import Derived.Deep.RegionHeld3
import Derived.BigQuiet
import Derived.Deep.CutRange
/- What the texts TwR TwC TwA TwB TwD TwS LfS LM1 LM7 Sz1 TwN Rn6 Rn6b Rn6c stand on, out of other texts. (Printed by extract.py.) No condition. -/
namespace Go.Proofs.YtmopjmhapeinjaaGreatDoor
open Go.RowKit
set_option maxRecDepth 100000
set_option maxHeartbeats 2000000
/-! ### ModN -/
def zRe : Array Value := #[.int .i64 0, .bool false, .slice none 0 0]
/-! ### Mod1 -/
structure Rw where
  key : ByteArray
  val : ByteArray
def rowR (r : Rw) : Array Value := #[.string r.key, .string r.val]
/-! ### Mod2 -/
theorem askc {w : World} {b : Nat} {x : Ak} {u : Value} (h : w.heap[b]? = some (.cells (x.row u) 50 (0, 0))) : w.cell? ⟨b, 0, none⟩ = some (.int .u8 x.kind) ∧ w.cell? ⟨b, 1, none⟩ = some (.string x.key) ∧ w.cell? ⟨b, 2, none⟩ = some (.string x.val) ∧ w.cell? ⟨b, 3, none⟩ = some (.string x.old) ∧ w.cell? ⟨b, 4, none⟩ = some (.bool x.new) ∧ w.cell? ⟨b, 5, none⟩ = some (.string x.to) ∧ w.cell? ⟨b, 6, none⟩ = some (.int .i64 x.many) ∧ w.cell? ⟨b, 7, none⟩ = some u := by
  refine ⟨?_, ?_, ?_, ?_, ?_, ?_, ?_, ?_⟩ <;> (rw [cell_of_row _ _ _ _ 50 (0, 0) h]; rfl)
theorem re_cells {w : World} {g : Nat} {a : Int} {b : Bool} {v : Value} (h : w.heap[g]? = some (.cells #[.int .i64 a, .bool b, v] 61 (0, 0))) : w.cell? ⟨g, 0, none⟩ = some (.int .i64 a) ∧ w.cell? ⟨g, 1, none⟩ = some (.bool b) ∧ w.cell? ⟨g, 2, none⟩ = some v := by
  refine ⟨?_, ?_, ?_⟩ <;> (rw [cell_of_row _ _ _ _ 61 (0, 0) h]; rfl)
/-- May a cas be made? -/
def casB (o : Option (Rw × Nat)) (x : Ak) : Bool := match o with
  | none => x.new
  | some p => !x.new && (p.1.val.toList == x.old.toList)
/-! ### Mod4 -/
def rwL (r : Rw) : List Value := [.string r.key, .string r.val]
theorem el_row : ElemIs Tryz.prog 134 2 32 := by
  refine ElemIs.mk (z := .agg #[.string ⟨#[]⟩, .string ⟨#[]⟩]) (by kernel_rfl) (by kernel_rfl) (by decide)
theorem info_row : (Tryz.prog.info? 134).map (·.size) = some 2 := by kernel_rfl
theorem rowR_one (r : Rw) : (rowR r).all (·.oneCell') = true := by kernel_rfl
theorem run_bs_row (r : Rw) (w : World) : (Instr.buildSlice 58 1 #[(0, .agg (rowR r))]).run Tryz.prog w = .ok (.slice (some ⟨w.heap.size, 0, none⟩) 1 1) (w.alloc (.cells (rowR r) 134)) := by kernel_rfl
theorem wpList_bs_row {ops : Array Oper} {rest : List Oper} {o : Oper} {a : Act} {Q : Exit → Act → World → Prop} {w : World} (hgd : o.guard = none) (p : Operand) (ho : o.op = .buildSlice 58 1 #[(0, p)]) (r : Rw) (hp : a.eval p = .agg (rowR r))
    (h : wpList Tryz.prog ops Q rest (a.put o.dst (.slice (some ⟨w.heap.size, 0, none⟩) 1 1)) (w.alloc (.cells (rowR r) 134))) : wpList Tryz.prog ops Q (o :: rest) a w := by
  refine wpList_plain hgd fun K hK => ?_
  unfold Oper.wp execOp
  simp only [ho, hp, List.map_toArray, List.map_cons, List.map_nil, Sem.run_bind, Result.andThen_ok, run_bs_row, Sem.run_pure]
  exact hK _ _ h
/-! ### Mod7 -/
def reH (i : Int) (b : Bool) (v : Value) : Array Value := #[.int .i64 i, .bool b, v]
theorem reH_one (i : Int) (b : Bool) (a : Option Addr) (n c : Nat) : (reH i b (.slice a n c)).all (·.oneCell') = true := by kernel_rfl
/-! ### Mod12 -/
theorem ba_data {a b : ByteArray} (h : a.data.toList = b.data.toList) : a = b := by
  obtain ⟨⟨a⟩⟩ := a; obtain ⟨⟨b⟩⟩ := b
  simp only at h
  rw [h]
/-! ### Mod20 -/
theorem el_said : ElemIs Tryz.prog 136 5 48 := by
  refine ElemIs.mk (z := .agg #[.int .u8 0, .int .u32 0, .int .i64 0, .bool false, .slice none 0 0]) (by kernel_rfl) (by kernel_rfl) (by decide)
/-! ### LM2 -/
def cszAux : Nat → List Ch → Nat
  | n, [] => n
  | n, x :: r => if n ≤ 1048576 then cszAux (n + x.key.size + x.val.size) r else n
def Ak.base (x : Ak) : Nat := 1 + x.key.size + x.val.size + x.old.size + x.to.size
def Ak.sz (x : Ak) : Nat := if x.base ≤ 1048576 then x.base + cszAux x.chs.length x.chs else x.base
theorem csz_stop (l : List Ch) (n : Nat) (h : ¬ n ≤ 1048576) : cszAux n l = n := by
  cases l with
  | nil => rfl
  | cons c r => unfold cszAux; rw [if_neg h]
theorem csz_le : ∀ (l : List Ch) (n : Nat), (∀ c ∈ l, c.small) → cszAux n l ≤ max n 1048576 + 281474976702464
  | [], n, _ => by unfold cszAux; omega
  | c :: r, n, h => by
    have ih := csz_le r (n + c.key.size + c.val.size) (fun d hd => h d (List.mem_cons_of_mem _ hd))
    obtain ⟨h1, h2⟩ := h c (List.mem_cons_self ..)
    unfold cszAux
    split
    · by_cases h3 : n + c.key.size + c.val.size ≤ 1048576
      · omega
      · rw [csz_stop r _ h3]; omega
    · omega
theorem Ak.sz_le {x : Ak} (hs : x.small) (hc : ∀ c ∈ x.chs, c.small) (hl : x.chs.length ≤ 140737488351232) : x.sz ≤ 2000000000000000 := by
  obtain ⟨_, s1, s2, s3, s4, _⟩ := hs
  have := csz_le x.chs x.chs.length hc
  unfold Ak.sz Ak.base
  split <;> omega
/-! ### Mod21 -/
theorem info_said : (Tryz.prog.info? 136).map (·.size) = some 5 := by kernel_rfl
/-! ### LM8 -/
theorem OffB.row {B : Nat → Prop} {w w' : World} (h : OffB B w w') {b : Nat} {o : Obj} (hb : w.heap[b]? = some o) (hn : ¬ B b) : w'.heap[b]? = some o := (h.block b (Array.getElem?_eq_some_iff.1 hb).1 hn).trans hb
/-! ### Rn0 -/
/-- Who said what, as the document keeps it: the reply's rows lie at v. -/
structure Sa where
  cl : Nat
  num : Nat
  e : Int
  yes : Bool
  rows : List Rw
  v : Value
def Sa.cells (p : Sa) : List Value := [.int .u8 (p.cl : Int), .int .u32 (p.num : Int), .int .i64 p.e, .bool p.yes, p.v]
theorem own_ty {w : World} {base : Nat} {e : TypeId} {z n : Nat} {v : Value} {xs : List Value} (h : OwnC w base e z v n xs) {q : Nat} (hq : v.ownBlock = some q) : ∃ c, w.heap[q]? = some (.cells c e (0, 0)) := by
  obtain ⟨_, ⟨e1, _⟩ | ⟨g, cap, cur, e1, _, h6, _⟩⟩ := h
  · rw [e1] at hq; cases hq
  · rw [e1] at hq
    injection hq with hq
    have hq : g = q := hq
    exact ⟨cur, by rw [← hq]; exact h6⟩
/-! ### Rn1 -/
theorem keyR_any (w : World) (s : ByteArray) (hs : s.size ≤ 140737488351232) : Calls Tryz.prog 107 #[.string s] w fun e w' => e = .returned (.bool (keyB s)) ∧ w = w' := by
  by_cases h1 : 1 ≤ s.size
  · by_cases h2 : s.size ≤ 24
    · have hr : keyB s = true := by unfold keyB; exact decide_eq_true ⟨h1, h2⟩
      have h1i : (1 : Int) ≤ (s.size : Int) := by omega
      have h2i : (s.size : Int) ≤ 24 := by omega
      rw [hr]
      clear hr
      go_enter Tryz.func107, Tryz.ntmps107
      go_wp2_with fail
      go_ret
      exact ⟨rfl, rfl⟩
    · have hr : keyB s = false := by unfold keyB; exact decide_eq_false (fun h => h2 h.2)
      have h1i : (1 : Int) ≤ (s.size : Int) := by omega
      have h2i : ¬ (s.size : Int) ≤ 24 := by omega
      rw [hr]
      clear hr
      go_enter Tryz.func107, Tryz.ntmps107
      go_wp2_with fail
      go_ret
      exact ⟨rfl, rfl⟩
  · have hr : keyB s = false := by unfold keyB; exact decide_eq_false (fun h => h1 h.1)
    have h1i : ¬ (1 : Int) ≤ (s.size : Int) := by omega
    rw [hr]
    clear hr
    go_enter Tryz.func107, Tryz.ntmps107
    go_wp2_with fail
    go_ret
    exact ⟨rfl, rfl⟩
theorem valR_any (w : World) (s : ByteArray) (hs : s.size ≤ 140737488351232) : Calls Tryz.prog 106 #[.string s] w fun e w' => e = .returned (.bool (valB s)) ∧ w = w' := by
  have hr : valB s = decide ((s.size : Int) ≤ 256) := by unfold valB; rw [Bool.eq_iff_iff, decide_eq_true_eq, decide_eq_true_eq]; omega
  rw [hr]
  clear hr
  go_enter Tryz.func106, Tryz.ntmps106
  go_wp2_with fail
  go_ret
  exact ⟨rfl, rfl⟩
/-! ### Rn3 -/
def saRow (x : Sa) (va : Option Addr) (vn vc : Nat) : Array Value := #[.int .u8 (x.cl : Int), .int .u32 (x.num : Int), .int .i64 x.e, .bool x.yes, .slice va vn vc]
theorem saRow_one (x : Sa) (va : Option Addr) (vn vc : Nat) : (saRow x va vn vc).all (·.oneCell') = true := by kernel_rfl
theorem sa_cells {x : Sa} {va : Option Addr} {vn vc : Nat} (h : x.v = .slice va vn vc) : x.cells = (saRow x va vn vc).toList := by unfold Sa.cells saRow; rw [h]
theorem sas_range {w : World} {l : List Sa} {b off : Nat} (hd : ∀ i, i < l.length * 5 → w.cell? ⟨b, off + i, none⟩ = (l.flatMap Sa.cells)[i]?) {k : Nat} {x : Sa} (h : l[k]? = some x) : w.rangeAt b (off + k * 5) x.cells := fun r v hv => by
  have hr : r < 5 := (List.getElem?_eq_some_iff.1 hv).1
  have hk : k < l.length := (List.getElem?_eq_some_iff.1 h).1
  rw [Nat.add_assoc, hd (k * 5 + r) (by omega), flatMap_at Sa.cells 5 (by decide) (fun _ => rfl) l k x h r hr _ rfl]; exact hv
/-! ### Sg0 -/
/-- Without where the rows lie. -/
def Sa.bare (p : Sa) : Sa := ⟨p.cl, p.num, p.e, p.yes, p.rows, .slice none 0 0⟩
/-- Each one's rows lie in memory from base on. -/
def SaOwn (w : World) (base : Nat) (sd : List Sa) : Prop := ∀ p ∈ sd, OwnC w base 134 2 p.v p.rows.length (p.rows.flatMap rwL)
theorem SaOwn.ext {w w' : World} {base : Nat} {sd : List Sa} (h : SaOwn w base sd) (hE : Ext w w') : SaOwn w' base sd := fun p hp => (h p hp).ext hE
theorem SaOwn.weak {w : World} {base b : Nat} {sd : List Sa} (h : SaOwn w b sd) (hb : base ≤ b) : SaOwn w base sd := fun p hp => (h p hp).weak hb
theorem SaOwn.offB {w w' : World} {base : Nat} {sd : List Sa} {B : Nat → Prop} (h : SaOwn w base sd) (hO : OffB B w w') (hB : ∀ q, base ≤ q → q < w.heap.size → ¬ B q) : SaOwn w' base sd := fun p hp => (h p hp).offB hO (fun q hq => hB q ((h p hp).lt q hq).1 ((h p hp).lt q hq).2)
theorem SaOwn.nil (w : World) (base : Nat) : SaOwn w base [] := fun _ h => nomatch h
theorem SaOwn.snoc {w : World} {base : Nat} {sd : List Sa} {x : Sa} (h : SaOwn w base sd) (hx : OwnC w base 134 2 x.v x.rows.length (x.rows.flatMap rwL)) : SaOwn w base (sd ++ [x]) := fun p hp => by
  rcases List.mem_append.1 hp with hp | hp
  · exact h p hp
  · rw [List.mem_singleton.1 hp]; exact hx
section
variable {W : World} {g : Nat} {x : Sa} {va : Option Addr} {vn vc : Nat}
theorem sa_cs (h : W.heap[g]? = some (.cells (saRow x va vn vc) 136 (0, 0))) : W.cell? ⟨g, 0, none⟩ = some (.int .u8 (x.cl : Int)) ∧ W.cell? ⟨g, 1, none⟩ = some (.int .u32 (x.num : Int)) ∧ W.cell? ⟨g, 2, none⟩ = some (.int .i64 x.e) ∧ W.cell? ⟨g, 3, none⟩ = some (.bool x.yes) ∧ W.cell? ⟨g, 4, none⟩ = some (.slice va vn vc) := by
  refine ⟨?_, ?_, ?_, ?_, ?_⟩ <;> (rw [cell_of_row _ _ _ _ _ _ h]; rfl)
end
theorem run_bs_sa (x : Sa) (va : Option Addr) (vn vc : Nat) (w : World) : (Instr.buildSlice 59 1 #[(0, .agg (saRow x va vn vc))]).run Tryz.prog w = .ok (.slice (some ⟨w.heap.size, 0, none⟩) 1 1) (w.alloc (.cells (saRow x va vn vc) 136)) := by kernel_rfl
theorem wpList_bs_sa {ops : Array Oper} {rest : List Oper} {o : Oper} {a : Act} {Q : Exit → Act → World → Prop} {w : World} (hgd : o.guard = none) (p : Operand) (ho : o.op = .buildSlice 59 1 #[(0, p)]) (x : Sa) (va : Option Addr) (vn vc : Nat) (hp : a.eval p = .agg (saRow x va vn vc))
    (h : wpList Tryz.prog ops Q rest (a.put o.dst (.slice (some ⟨w.heap.size, 0, none⟩) 1 1)) (w.alloc (.cells (saRow x va vn vc) 136))) : wpList Tryz.prog ops Q (o :: rest) a w := by
  refine wpList_plain hgd fun K hK => ?_
  unfold Oper.wp execOp
  simp only [ho, hp, List.map_toArray, List.map_cons, List.map_nil, Sem.run_bind, Result.andThen_ok, run_bs_sa, Sem.run_pure]
  exact hK _ _ h
theorem sar_all (x : Sa) (va : Option Addr) (vn vc : Nat) : ∀ u ∈ (saRow x va vn vc).toList, u.oneCell' = true := fun u hu => Array.all_eq_true_iff_forall_mem.1 (saRow_one x va vn vc) u (by simpa using hu)
/-- A list of what was said grows: rows stay. -/
theorem own_kept_ty {w w' : World} {base base' : Nat} {e e' : TypeId} (hne : e ≠ e') {z z' n n' : Nat} {v u : Value} {xs ys : List Value} (h : OwnC w base e z v n xs) (ho : OwnC w base' e' z' u n' ys) (hg : w.grownBy w' u.ownBlock) : OwnC w' base e z v n xs := by
  refine h.kept hg ?_
  cases hv : v.ownBlock with
  | none => exact .inl rfl
  | some q =>
    refine .inr (fun hq => ?_)
    obtain ⟨c, hc⟩ := own_ty h hv
    obtain ⟨d, hd⟩ := own_ty ho hq.symm
    rw [hc] at hd
    injection hd with hd
    injection hd with _ hd
    exact hne hd
/-! ### Sg1 -/
/-- Rows of what was said, where each lies. -/
def SaAt (w : World) (q : List Sa) : Prop := ∀ p ∈ q, ∃ a c, p.v = .slice a p.rows.length c ∧ RowIs w 2 (.slice a p.rows.length c) p.rows.length (p.rows.flatMap rwL)
theorem SaAt.ext {w w' : World} {q : List Sa} (h : SaAt w q) (hE : Ext w w') : SaAt w' q := fun p hp => by
  obtain ⟨a, c, h1, h2⟩ := h p hp
  exact ⟨a, c, h1, h2.ext hE⟩
/-! ### Gm2 -/
/-- No two have their rows in one block. -/
def SaSep (sd : List Sa) : Prop := sd.Pairwise fun p q => ∀ b, p.v.ownBlock = some b → q.v.ownBlock ≠ some b
theorem SaSep.snoc {sd : List Sa} {x : Sa} {w : World} {base : Nat} (h : SaSep sd) (ho : SaOwn w base sd) (hx : ∀ b, x.v.ownBlock = some b → w.heap.size ≤ b) : SaSep (sd ++ [x]) := by
  unfold SaSep
  rw [List.pairwise_append]
  refine ⟨h, List.pairwise_singleton _ _, fun p hp q hq b hb hqb => ?_⟩
  rw [List.mem_singleton.1 hq] at hqb
  have h1 := ((ho p hp).lt b hb).2
  have h2 := hx b hqb
  omega
/-! ### MgA -/
def nuL (l : List Nat) : List Value := l.map fun (s : Nat) => .int .u64 (s : Int)
/-! ### MgC -/
theorem el_u64 : ElemIs Tryz.prog 54 1 8 := by
  refine ElemIs.mk (z := .int .u64 0) (by kernel_rfl) (by rfl) (by decide)
theorem tn_cut {w : World} {base : Nat} {a : Option Addr} {k cap : Nat} {xs ys : List Value} (h : OwnC w base 54 1 (.slice a (k + 1) cap) (k + 1) (xs ++ ys)) (hx : xs.length = k * 1) : OwnC w base 54 1 (.slice a k cap) k xs := by
  have := h.cut (m := k) (by omega)
  rwa [← hx, List.take_left] at this
end Go.Proofs.YtmopjmhapeinjaaGreatDoor

/- SameRows. No condition. -/
namespace Go.Proofs.YtmopjmhapeinjaaGreatDoor
open Go.RowKit
theorem rws_range {w : World} {l : List Rw} {b off : Nat} (hd : ∀ i, i < l.length * 2 → w.cell? ⟨b, off + i, none⟩ = (l.flatMap rwL)[i]?) {k : Nat} {x : Rw} (h : l[k]? = some x) : w.rangeAt b (off + k * 2) (rowR x).toList := fun r v hv => by
  have hr : r < 2 := (List.getElem?_eq_some_iff.1 hv).1
  have hk : k < l.length := (List.getElem?_eq_some_iff.1 h).1
  rw [Nat.add_assoc, hd (k * 2 + r) (by omega), flatMap_at rwL 2 (by decide) (fun _ => rfl) l k x h r hr _ rfl]; exact hv
def sameRB (a b : Rw) : Bool := a.key.toList == b.key.toList && a.val.toList == b.val.toList
theorem tl_ext {a b : ByteArray} (h : a.toList = b.toList) : a = b := ba_data (by rw [← ByteArray.toList_eq, ← ByteArray.toList_eq]; exact h)
theorem sameR_iff {a b : Rw} : sameRB a b = true ↔ a = b := by
  unfold sameRB
  rw [Bool.and_eq_true, beq_iff_eq, beq_iff_eq]
  constructor
  · rintro ⟨h1, h2⟩
    obtain ⟨m, v⟩ := a; obtain ⟨m', v'⟩ := b
    simp only at h1 h2
    rw [tl_ext h1, tl_ext h2]
  · rintro rfl; exact ⟨rfl, rfl⟩
instance : DecidableEq Rw := fun _ _ => decidable_of_iff _ sameR_iff
theorem wpQuiet_neq_rw {ops : Array Oper} {C : World → Prop} {Q : Act → Prop} {o : Oper} {rest : List Oper} {a : Act} (hg : Region.wanted o (yielded ops a.tmps) = true) (x y : Operand) (ho : o.op = .binOp .neq 134 x y 134) (m n : Rw) (hx : a.eval x = .agg (rowR m)) (hy : a.eval y = .agg (rowR n))
    (k : wpQuiet Tryz.prog ops C Q rest (a.put o.dst (.bool (!sameRB m n)))) : wpQuiet Tryz.prog ops C Q (o :: rest) a := by
  refine wpQuiet_value _ hg (fun w _ => ?_) k
  unfold execOp
  simp only [ho, hx, hy, rowR]
  go_simp
  unfold sameRB
  by_cases h1 : m.key.toList = n.key.toList <;> by_cases h4 : m.val.toList = n.val.toList <;> simp [h1, h4]
set_option maxRecDepth 100000 in
set_option maxHeartbeats 1000000 in
theorem srows_any (w : World) (l l' : List Rw) (a a' : Option Addr) (cap cap' : Nat) (h1 : RowIs w 2 (.slice a l.length cap) l.length (l.flatMap rwL)) (h2 : RowIs w 2 (.slice a' l'.length cap') l'.length (l'.flatMap rwL)) :
    Calls Tryz.prog 112 #[.slice a l.length cap, .slice a' l'.length cap'] w fun e w' => e = .returned (.bool (decide (l = l'))) ∧ Ext w w' := by
  by_cases hn : l.length = l'.length
  · have hn' : (l.length : Int) = (l'.length : Int) := by omega
    have hnn := h1.2.1
    obtain ⟨n, hl1⟩ : ∃ n, n = l.length := ⟨_, rfl⟩
    have hl2 : n = l'.length := by omega
    rw [← hl1] at h1 hnn
    rw [← hl2] at h2
    rw [← hl1, ← hl2]
    have hq1 := Lib.hid hl1
    have hq2 := Lib.hid hl2
    clear hn hn' hl1 hl2
    obtain ⟨r, hr⟩ : ∃ r, r = decide (l = l') := ⟨_, rfl⟩
    have hr' := Lib.hid hr
    rw [← hr]
    clear hr
    go_enter Tryz.func112, Tryz.ntmps112
    go_wp2_with fail
    go_loopw [5] (fun i wr => ∃ k : Nat, k ≤ n ∧ i = .int .i64 k ∧ l.take k = l'.take k ∧ Ext w wr) (fun i _ => n - (intOf i).toNat)
    case atStart => exact ⟨0, by omega, rfl, rfl, Ext.refl _⟩
    case round =>
      obtain ⟨k, hk, rfl, heq, hE⟩ := hrel
      by_cases hlt : k < n
      · have hli : (k : Int) < (n : Int) := by omega
        obtain ⟨c, hc⟩ : ∃ c, l[k]? = some c := ⟨_, List.getElem?_eq_getElem (by rw [← hq1.out]; exact hlt)⟩
        obtain ⟨c', hc'⟩ : ∃ c, l'[k]? = some c := ⟨_, List.getElem?_eq_getElem (by rw [← hq2.out]; exact hlt)⟩
        obtain ⟨b, off, hat⟩ := (h1.ext hE).at
        obtain ⟨b', off', hat'⟩ := (h2.ext hE).at
        obtain ⟨rfl, _, hd⟩ := hat (by omega)
        obtain ⟨rfl, _, hd'⟩ := hat' (by omega)
        have p := rws_range (by rw [← hq1.out]; exact hd) hc
        have q := rws_range (by rw [← hq2.out]; exact hd') hc'
        clear hd hd' hat hat'
        have htk : l.take (k + 1) = l.take k ++ [c] := by rw [List.take_add_one, hc]; rfl
        have htk' : l'.take (k + 1) = l'.take k ++ [c'] := by rw [List.take_add_one, hc']; rfl
        have heq' := Lib.hid heq
        have htk2 := Lib.hid htk
        have htk3 := Lib.hid htk'
        have hcc := Lib.hid hc
        have hcc' := Lib.hid hc'
        clear heq htk htk' hc hc'
        go_upto_region 6 with fail
        refine wp_region_class (Ext wr) (by kernel_rfl) (by kernel_rfl) (Ext.refl _).drew ?_
        iterate 3 (refine wpQuiet_step (fun K hK => ?_); go_simp; first | (refine hK _ ?_; clear hK K) | (refine ⟨_, fun _ _ => rfl, hK _ ?_⟩; clear hK K))
        refine wpQuiet_load_mid (by rfl) 134 _ (by rfl) b (off + k * 2) (by rfl) _ _ (fun w' h r u hu => h.cell (p r u hu)) Tryz.underlying134 rfl (by exact info_row) ?_
        iterate 3 (refine wpQuiet_step (fun K hK => ?_); go_simp; first | (refine hK _ ?_; clear hK K) | (refine ⟨_, fun _ _ => rfl, hK _ ?_⟩; clear hK K))
        refine wpQuiet_load_mid (by rfl) 134 _ (by rfl) b' (off' + k * 2) (by rfl) _ _ (fun w' h r u hu => h.cell (q r u hu)) Tryz.underlying134 rfl (by exact info_row) ?_
        refine wpQuiet_neq_rw (by rfl) (.tmp 20) (.tmp 24) (by rfl) c c' (by rfl) (by rfl) ?_
        refine wpQuiet_nil (fun w5 hE5 => ?_)
        simp only [Act.put, List.setIfInBounds_toArray, List.set_cons_zero, List.set_cons_succ]
        cases hse : sameRB c c'
        all_goals simp only [Bool.not_true, Bool.not_false]
        · have hne : r = false := by
            rw [hr'.out]
            refine decide_eq_false fun h => ?_
            subst h
            have := hcc.out.symm.trans hcc'.out
            injection this with this
            rw [sameR_iff.2 this] at hse
            exact Bool.noConfusion hse
          have hne' := Lib.hid hne
          clear hne
          go_wp2_with fail
          go_ret
          exact ⟨by rw [hne'.out]; rfl, hE.trans hE5⟩
        · have hcc2 := Lib.hid (sameR_iff.1 hse)
          go_wp2_with fail
          go_roundw
          case rel => first | exact ⟨k + 1, by omega, by go_num, by rw [htk2.out, htk3.out, heq'.out, hcc2.out], hE.trans hE5⟩ | exact ⟨_, _, _, _, _, _, _, _, _, _, _, _, _, ⟨k + 1, by omega, by go_num, by rw [htk2.out, htk3.out, heq'.out, hcc2.out], hE.trans hE5⟩, rfl⟩
          case measure => simp [intOf]; omega
      · have hli : ¬ (k : Int) < (n : Int) := by omega
        have hne : r = true := by
          rw [hr'.out]
          refine decide_eq_true ?_
          rw [List.take_of_length_le (by rw [← hq1.out]; omega), List.take_of_length_le (by rw [← hq2.out]; omega)] at heq
          exact heq
        have hne' := Lib.hid hne
        clear hne heq
        go_wp2_with fail
        go_ret
        exact ⟨by rw [hne'.out]; rfl, hE⟩
  · have hn' : ¬ (l.length : Int) = (l'.length : Int) := by omega
    rw [decide_eq_false (fun h => hn (congrArg List.length h))]
    clear h1 h2
    go_enter Tryz.func112, Tryz.ntmps112
    go_wp2_with fail
    go_ret
    exact ⟨rfl, Ext.refl _⟩
end Go.Proofs.YtmopjmhapeinjaaGreatDoor

/- RowsSize, ReplySize, SaidSize, SaidsSize. (RowsSize printed by gsz.py.) No condition. -/
namespace Go.Proofs.YtmopjmhapeinjaaGreatDoor
open Go.RowKit
def rszAux : Nat → List Rw → Nat
  | n, [] => n
  | n, x :: r => if n ≤ 1048576 then rszAux (n + x.key.size + x.val.size) r else n
set_option maxRecDepth 100000 in
set_option maxHeartbeats 1000000 in
theorem rsize_any (w : World) (l : List Rw) (a : Option Addr) (cap : Nat) (hg : ∀ x ∈ l, x.key.size ≤ 140737488351232 ∧ x.val.size ≤ 140737488351232) (hl : l.length ≤ 140737488351232) (h1 : RowIs w 2 (.slice a l.length cap) l.length (l.flatMap rwL)) :
    Calls Tryz.prog 98 #[.slice a l.length cap] w fun e w' => e = .returned (.int .i64 (rszAux l.length l : Nat)) ∧ Ext w w' := by
  obtain ⟨S, hS⟩ : ∃ S, S = rszAux l.length l := ⟨_, rfl⟩
  rw [← hS]
  have hS' := Lib.hid hS
  clear hS
  go_enter Tryz.func98, Tryz.ntmps98
  go_wp2_with fail
  go_loopw [3, 4] (fun n i wr => ∃ k N : Nat, k ≤ l.length ∧ n = .int .i64 (N : Int) ∧ i = .int .i64 k ∧ S = rszAux N (l.drop k) ∧ N ≤ 500000000000000 ∧ Ext w wr) (fun _ i _ => l.length - (intOf i).toNat)
  case atStart => exact ⟨0, l.length, by omega, rfl, rfl, hS'.out, by omega, Ext.refl _⟩
  case round =>
    obtain ⟨k, N, hk, rfl, rfl, hs, hN, hE⟩ := hrel
    have hs' := Lib.hid hs
    clear hs
    by_cases hlt : k < l.length
    · have hli : (k : Int) < (l.length : Int) := by omega
      obtain ⟨c, hc⟩ : ∃ c, l[k]? = some c := ⟨_, List.getElem?_eq_getElem hlt⟩
      obtain ⟨g1, g2⟩ := hg c (List.mem_of_getElem? hc)
      have hdr : l.drop k = c :: l.drop (k + 1) := by
        rw [List.drop_eq_getElem_cons hlt]
        have := List.getElem?_eq_getElem hlt
        rw [hc] at this
        injection this with this
        rw [← this]
      have hdr' := Lib.hid hdr
      clear hdr
      by_cases hsm : N ≤ 1048576
      · have hsi : (N : Int) ≤ 1048576 := by omega
        obtain ⟨b, off, hat⟩ := (h1.ext hE).at
        obtain ⟨rfl, _, hd⟩ := hat (by omega)
        have p := rws_range hd hc
        have p0 := p 0 _ rfl
        have p3 := p 1 _ rfl
        rw [Nat.add_zero] at p0
        clear hd hat p hc
        have e1 : IntKind.i64.wrap ((N : Int) + (c.key.size : Int)) = (N : Int) + (c.key.size : Int) := by rw [IntKind.wrap_i64]; omega
        have e2 : IntKind.i64.wrap ((N : Int) + (c.key.size : Int) + (c.val.size : Int)) = (N : Int) + (c.key.size : Int) + (c.val.size : Int) := by rw [IntKind.wrap_i64]; omega
        go_wp2_with fail
        go_still (by kernel_rfl)
        change Exit.inBlock _ _ _ _ wr.drew
        go_wp2_with fail
        go_roundw
        case rel => exact ⟨k + 1, N + c.key.size + c.val.size, by omega, by go_num, by go_num, by rw [hs'.out, hdr'.out]; simp [rszAux, hsm], by omega, hE.drew⟩
        case measure => simp [intOf]; omega
      · have hsi : ¬ (N : Int) ≤ 1048576 := by omega
        go_wp2_with fail
        go_ret
        exact ⟨by rw [hs'.out, hdr'.out]; simp [rszAux, hsm], hE⟩
    · have hli : ¬ (k : Int) < (l.length : Int) := by omega
      go_wp2_with fail
      go_ret
      exact ⟨by rw [hs'.out, List.drop_eq_nil_of_le (by omega)]; rfl, hE⟩
theorem rsz_stop (l : List Rw) (n : Nat) (h : ¬ n ≤ 1048576) : rszAux n l = n := by
  cases l with
  | nil => rfl
  | cons c r => unfold rszAux; rw [if_neg h]
theorem rsz_le : ∀ (l : List Rw) (n : Nat), (∀ x ∈ l, x.key.size ≤ 140737488351232 ∧ x.val.size ≤ 140737488351232) → rszAux n l ≤ max n 1048576 + 281474976702464
  | [], n, _ => by unfold rszAux; omega
  | c :: r, n, h => by
    have ih := rsz_le r (n + c.key.size + c.val.size) (fun d hd => h d (List.mem_cons_of_mem _ hd))
    obtain ⟨h1, h2⟩ := h c (List.mem_cons_self ..)
    unfold rszAux
    split
    · by_cases h3 : n + c.key.size + c.val.size ≤ 1048576
      · omega
      · rw [rsz_stop r _ h3]; omega
    · omega
theorem rsz_ge : ∀ (l : List Rw) (n : Nat), n ≤ rszAux n l
  | [], n => Nat.le_refl _
  | c :: r, n => by
    unfold rszAux
    split
    · exact Nat.le_trans (by omega) (rsz_ge r _)
    · exact Nat.le_refl _
set_option maxRecDepth 100000
set_option maxHeartbeats 1000000
def smRs (l : List Rw) : Prop := l.length ≤ 140737488351232 ∧ ∀ x ∈ l, x.key.size ≤ 140737488351232 ∧ x.val.size ≤ 140737488351232
def Sa.sz (p : Sa) : Nat := 2 + rszAux p.rows.length p.rows
theorem Sa.sz_le {p : Sa} (h : smRs p.rows) : p.sz ≤ 500000000000000 := by
  have := rsz_le p.rows p.rows.length h.2
  have := h.1
  unfold Sa.sz
  omega
theorem rpsize_any (w : World) (i : Int) (b : Bool) (l : List Rw) (a : Option Addr) (cap : Nat) (hs : smRs l) (hr : RowIs w 2 (.slice a l.length cap) l.length (l.flatMap rwL)) : Calls Tryz.prog 100 #[.agg #[.int .i64 i, .bool b, .slice a l.length cap]] w fun e w' => e = .returned (.int .i64 ((1 + rszAux l.length l : Nat) : Int)) ∧ Ext w w' := by
  obtain ⟨W, hW⟩ : ∃ W, W = w.alloc (.cells (reH i b (.slice a l.length cap)) 61) := ⟨_, rfl⟩
  have hE : Ext w W := by rw [hW]; exact (Ext.refl _).alloc _
  have hX : W.heap[w.heap.size]? = some (.cells (reH i b (.slice a l.length cap)) 61 (0, 0)) := by rw [hW]; exact heap_alloc_new w _
  obtain ⟨c0, c1, c2⟩ := re_cells hX
  have hcall := Lib.hid (rsize_any W l a cap hs.2 hs.1 (hr.ext hE))
  have hbd := rsz_le l l.length hs.2
  have hl := hs.1
  generalize rszAux l.length l = C at *
  have hW' := Lib.hid hW
  clear hW hX hr hs
  unfold reH at hW'
  go_enter Tryz.func100, Tryz.ntmps100
  go_upto_region 1 with fail
  rw [← hW'.out]
  clear hW'
  have hC : C ≤ 500000000000000 := by omega
  clear hbd hl
  go_wp2_with fail
  refine hcall.out.mono ?_
  rintro e w2 ⟨rfl, hE2⟩
  go_wp2_with fail
  go_ret
  exact ⟨congrArg Ending.returned (congrArg (Value.int IntKind.i64) (by omega)), hE.trans hE2⟩
theorem sdsize_any (w : World) (x : Sa) (a : Option Addr) (cap : Nat) (hs : smRs x.rows) (hr : RowIs w 2 (.slice a x.rows.length cap) x.rows.length (x.rows.flatMap rwL)) : Calls Tryz.prog 153 #[.agg (saRow x a x.rows.length cap)] w fun e w' => e = .returned (.int .i64 (x.sz : Nat)) ∧ Ext w w' := by
  obtain ⟨W, hW⟩ : ∃ W, W = w.alloc (.cells (saRow x a x.rows.length cap) 136) := ⟨_, rfl⟩
  have hE : Ext w W := by rw [hW]; exact (Ext.refl _).alloc _
  have hX : W.heap[w.heap.size]? = some (.cells (saRow x a x.rows.length cap) 136 (0, 0)) := by rw [hW]; exact heap_alloc_new w _
  obtain ⟨c0, c1, c2, c3, c4⟩ := sa_cs hX
  have hcall := Lib.hid (rpsize_any W x.e x.yes x.rows a cap hs (hr.ext hE))
  have hbd := rsz_le x.rows x.rows.length hs.2
  have hl := hs.1
  unfold Sa.sz
  generalize rszAux x.rows.length x.rows = C at *
  have hW' := Lib.hid hW
  clear hW hX hr hs
  unfold saRow at hW' ⊢
  go_enter Tryz.func153, Tryz.ntmps153
  go_upto_region 1 with fail
  rw [← hW'.out]
  clear hW'
  have hC : C ≤ 500000000000000 := by omega
  clear hbd hl
  go_wp2_with fail
  refine hcall.out.mono ?_
  rintro e w2 ⟨rfl, hE2⟩
  go_wp2_with fail
  go_ret
  exact ⟨congrArg Ending.returned (congrArg (Value.int IntKind.i64) (by omega)), hE.trans hE2⟩
def sdsAux : Nat → List Sa → Nat
  | n, [] => n
  | n, x :: r => if n ≤ 1048576 then sdsAux (n + x.sz) r else n
theorem sds_stop (l : List Sa) (n : Nat) (h : ¬ n ≤ 1048576) : sdsAux n l = n := by
  cases l with
  | nil => rfl
  | cons c r => unfold sdsAux; rw [if_neg h]
theorem sds_ge : ∀ (l : List Sa) (n : Nat), n ≤ sdsAux n l
  | [], n => Nat.le_refl _
  | c :: r, n => by
    unfold sdsAux
    split
    · exact Nat.le_trans (by omega) (sds_ge r _)
    · exact Nat.le_refl _
theorem sds_le : ∀ (l : List Sa) (n : Nat), (∀ p ∈ l, smRs p.rows) → sdsAux n l ≤ max n 1048576 + 500000000000000
  | [], n, _ => by unfold sdsAux; omega
  | c :: r, n, h => by
    have ih := sds_le r (n + c.sz) (fun d hd => h d (List.mem_cons_of_mem _ hd))
    have h1 := Sa.sz_le (h c (List.mem_cons_self ..))
    unfold sdsAux
    split
    · by_cases h3 : n + c.sz ≤ 1048576
      · omega
      · rw [sds_stop r _ h3]; omega
    · omega
/-- If all together are few, each one's rows are. -/
theorem sds_rows : ∀ (l : List Sa) (n N : Nat), sdsAux n l ≤ N → N ≤ 1048576 → ∀ p ∈ l, p.rows.length ≤ N
  | [], _, _, _, _, _, h => nomatch h
  | c :: r, n, N, h, hN, p, hp => by
    have hn : n ≤ 1048576 := by
      have := sds_ge (c :: r) n
      omega
    unfold sdsAux at h
    rw [if_pos hn] at h
    rcases List.mem_cons.1 hp with rfl | hp
    · have h1 := sds_ge r (n + p.sz)
      have h2 := rsz_ge p.rows p.rows.length
      have h3 : p.sz = 2 + rszAux p.rows.length p.rows := rfl
      omega
    · exact sds_rows r _ N h hN p hp
theorem sdssize_any (w : World) (q : List Sa) (a : Option Addr) (cap : Nat) (hg : ∀ p ∈ q, smRs p.rows) (hv : SaAt w q) (hl : q.length ≤ 140737488351232) (h1 : RowIs w 5 (.slice a q.length cap) q.length (q.flatMap Sa.cells)) :
    Calls Tryz.prog 99 #[.slice a q.length cap] w fun e w' => e = .returned (.int .i64 (sdsAux q.length q : Nat)) ∧ Ext w w' := by
  obtain ⟨S, hS⟩ : ∃ S, S = sdsAux q.length q := ⟨_, rfl⟩
  rw [← hS]
  have hS' := Lib.hid hS
  have hg' := Lib.hid hg
  have hv' := Lib.hid hv
  obtain ⟨m, hm0⟩ : ∃ m, m = q.length := ⟨_, rfl⟩
  rw [← hm0] at h1 hl ⊢
  have hm := Lib.hid hm0
  have h1' := Lib.hid h1
  clear hS hg hv hm0 h1
  go_enter Tryz.func99, Tryz.ntmps99
  go_wp2_with fail
  go_loopw [3, 4] (fun n i wr => ∃ k N : Nat, k ≤ m ∧ n = .int .i64 (N : Int) ∧ i = .int .i64 k ∧ Hid (S = sdsAux N (q.drop k)) ∧ N ≤ 1000000000000000 ∧ Ext w wr) (fun _ i _ => m - (intOf i).toNat)
  case atStart => exact ⟨0, m, by omega, rfl, rfl, Lib.hid (by rw [hm.out]; exact hS'.out), by omega, Ext.refl _⟩
  case round =>
    obtain ⟨k, N, hk, rfl, rfl, hs, hN, hE⟩ := hrel
    by_cases hlt : k < m
    · have hli : (k : Int) < (m : Int) := by omega
      obtain ⟨y, hy⟩ : ∃ y, q[k]? = some y := ⟨_, List.getElem?_eq_getElem (by rw [← hm.out]; exact hlt)⟩
      have hdr : Hid (S = if N ≤ 1048576 then sdsAux (N + y.sz) (q.drop (k + 1)) else N) := Lib.hid (by
        obtain ⟨hlt2, he⟩ := List.getElem?_eq_some_iff.1 hy
        rw [hs.out, List.drop_eq_getElem_cons hlt2, he]
        rfl)
      obtain ⟨ob, oo, hat⟩ := (h1'.out.ext hE).at
      obtain ⟨rfl, _, hdy⟩ := hat (by omega)
      have hrg := sas_range (by rw [← hm.out]; exact hdy) hy
      obtain ⟨va, vc, hv, hyr⟩ := hv'.out y (List.mem_of_getElem? hy)
      rw [sa_cells hv] at hrg
      have hsy := hg'.out y (List.mem_of_getElem? hy)
      have hcall := Lib.hid (fun W (hW : Ext wr W) => sdsize_any W y va vc hsy (hyr.ext (hE.trans hW)))
      have hyz := Sa.sz_le hsy
      clear hat hdy hy hv hyr hsy
      by_cases hsm : N ≤ 1048576
      · have hsi : (N : Int) ≤ 1048576 := by omega
        generalize Sa.sz y = C at *
        go_wp2_with (first | (refine wpList_load_mid (by rfl) 136 (.tmp 20) (by rfl) ob (oo + k * 5) (by rfl) (saRow y va y.rows.length vc).toList _ hrg Tryz.underlying136 rfl (by exact info_said) ?_) | fail)
        refine (hcall.out wr (Ext.refl _)).mono ?_
        rintro e w2 ⟨rfl, hE2⟩
        go_wp2_with fail
        go_roundw
        case rel => exact ⟨k + 1, N + C, by omega, by go_num, by go_num, Lib.hid (by rw [hdr.out, if_pos hsm]), by omega, hE.trans hE2⟩
        case measure => simp [intOf]; omega
      · have hsi : ¬ (N : Int) ≤ 1048576 := by omega
        clear hrg hcall
        go_wp2_with fail
        go_ret
        exact ⟨by rw [hdr.out, if_neg hsm]; rfl, hE⟩
    · have hli : ¬ (k : Int) < (m : Int) := by omega
      go_wp2_with fail
      go_ret
      exact ⟨by rw [hs.out, List.drop_eq_nil_of_le (by rw [← hm.out]; omega)]; rfl, hE⟩
end Go.Proofs.YtmopjmhapeinjaaGreatDoor
