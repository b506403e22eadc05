/- A state in memory; New; what put, del, cas, get are answered. (Printed by wip/tools/gmod2.py.) No condition. -/
import Derived.Test.YtmjoaiepfipmaaaMod1
import Derived.BigRegion
import Derived.Deep.Cut
import Derived.StillTailTactics
import Derived.Deep.RegionHeld3
import Derived.BigQuiet
namespace Go.Proofs.Ytmjoaiepfipmaaa
open Go.RowKit Go.Maps Go.WideMaps
set_option maxRecDepth 100000
set_option maxHeartbeats 1000000
/-- What a client said last: its number, and what was replied (no rows). -/
structure Sv where
  num : Nat
  e : Int
  yes : Bool
def svc (s : Sv) : List Value := [.int .u32 (s.num : Int), .int .i64 s.e, .bool s.yes, .slice none 0 0]
def stRow (mb : Nat) (sd : List Sv) : Array Value := (.map (some mb) :: sd.flatMap svc).toArray
theorem grown_of_ext {w w' : World} (he : Ext w w') : w.grownBy w' none := ⟨Below.os he, Below.tape he, Below.output he, Below.size he, fun k hk _ => Below.block he k hk⟩
theorem MapAt.ext {w w' : World} {base mb : Nat} {rs : List (Rw × Nat)} (h : MapAt w base mb rs) (he : Ext w w') : MapAt w' base mb rs :=
  ⟨h.1.kept (grown_of_ext he) (by simp), h.2.1, fun p hp => ⟨(h.2.2 p hp).1, (h.2.2 p hp).2.1, he.row (h.2.2 p hp).2.2⟩⟩
/-- A state that a call made, in memory that came behind w0: its rows, with their blocks, and who said what last. -/
def StX (w0 w : World) (st : Nat) (rs : List (Rw × Nat)) (sd : List Sv) : Prop := Ext w0 w ∧ sd.length = 9 ∧ ∃ mb, MapAt w w0.heap.size mb rs ∧ w0.heap.size ≤ st ∧ st ≠ mb ∧ (∀ p ∈ rs, p.2 ≠ st) ∧ w.heap[st]? = some (.cells (stRow mb sd) 37 (0, 0))
theorem StX.ext {w0 w w' : World} {st : Nat} {rs : List (Rw × Nat)} {sd : List Sv} (h : StX w0 w st rs sd) (he : Ext w w') : StX w0 w' st rs sd := by
  obtain ⟨h0, h1, mb, h2, h3, h4, h5, h6⟩ := h
  exact ⟨h0.trans he, h1, mb, h2.ext he, h3, h4, h5, he.row h6⟩
theorem StX.lt {w0 w : World} {st : Nat} {rs : List (Rw × Nat)} {sd : List Sv} (h : StX w0 w st rs sd) : st < w.heap.size := by
  obtain ⟨h0, h1, mb, h2, h3, h4, h5, h6⟩ := h
  exact (Array.getElem?_eq_some_iff.1 h6).1
theorem StX.rlt {w0 w : World} {st : Nat} {rs : List (Rw × Nat)} {sd : List Sv} (h : StX w0 w st rs sd) {p : Rw × Nat} (hp : p ∈ rs) : p.2 < w.heap.size := by
  obtain ⟨h0, h1, mb, h2, h3, h4, h5, h6⟩ := h
  exact (Array.getElem?_eq_some_iff.1 (h2.2.2 p hp).2.2).1
theorem StX.map {w0 w : World} {st : Nat} {rs : List (Rw × Nat)} {sd : List Sv} (h : StX w0 w st rs sd) : ∃ mb, MapAt w w0.heap.size mb rs ∧ w.cell? ⟨st, 0, none⟩ = some (.map (some mb)) := by
  obtain ⟨h0, h1, mb, h2, h3, h4, h5, h6⟩ := h
  exact ⟨mb, h2, by rw [cell_of_row _ _ 0 _ 37 (0, 0) h6]; rfl⟩
theorem st_there {w0 w : World} {st : Nat} {rs : List (Rw × Nat)} {sd : List Sv} (h : StX w0 w st rs sd) : Calls Try.prog 33 #[.pointer (some ⟨st, 0, none⟩)] w fun e w' => e = .returned (.bool true) ∧ w = w' := by
  obtain ⟨mb, _, h2⟩ := h.map
  have hm : ∀ w, _ := fun w => run_neq_map_nil (P := Try.prog) w 28 9 92 (some mb) Try.underlying28
  go_enter Try.func33, Try.ntmps33
  go_wp2
  go_ret
  exact ⟨rfl, rfl⟩
def zSd : List Sv := List.replicate 9 ⟨0, 0, false⟩
theorem st_new (w : World) : Calls Try.prog 41 #[] w fun e w' => e = .returned (.pointer (some ⟨w.heap.size + 1, 0, none⟩)) ∧ StX w w' (w.heap.size + 1) [] zSd := by
  have hmm := @run_makeMap Try.prog
  go_enter Try.func41, Try.ntmps41
  go_wp2
  go_ret
  refine ⟨rfl, ((Ext.refl _).alloc _).alloc _, rfl, w.heap.size, ⟨(World.ownsMap_made w _ _ _).alloc _, Nat.le_refl _, fun _ h => by cases h⟩, by omega, by omega, fun _ h => (by cases h), ?_⟩
  have h2 := heap_alloc_new (w.alloc (.map #[] 0)) (.cells (stRow w.heap.size zSd) 37)
  rw [show (w.alloc (.map #[] 0)).heap.size = w.heap.size + 1 by simp] at h2
  exact h2
theorem askc {w : World} {b : Nat} {x : Ak} {u : Value} (h : w.heap[b]? = some (.cells (x.row u) 26 (0, 0))) : w.cell? ⟨b, 0, none⟩ = some (.int .u8 x.kind) ∧ w.cell? ⟨b, 1, none⟩ = some (.string x.key) ∧ w.cell? ⟨b, 2, none⟩ = some (.string x.val) ∧ w.cell? ⟨b, 3, none⟩ = some (.string x.old) ∧ w.cell? ⟨b, 4, none⟩ = some (.bool x.new) ∧ w.cell? ⟨b, 5, none⟩ = some (.string x.to) ∧ w.cell? ⟨b, 6, none⟩ = some (.int .i64 x.many) ∧ w.cell? ⟨b, 7, none⟩ = some u := by
  refine ⟨?_, ?_, ?_, ?_, ?_, ?_, ?_, ?_⟩ <;> (rw [cell_of_row _ _ _ _ 26 (0, 0) h]; rfl)
/-- A reply without rows. -/
def reB (b : Bool) : Array Value := #[.int .i64 0, .bool b, .slice none 0 0]
theorem reB_one (b : Bool) : (reB b).all (·.oneCell') = true := by kernel_rfl
theorem re_cells {w : World} {g : Nat} {a : Int} {b : Bool} {v : Value} (h : w.heap[g]? = some (.cells #[.int .i64 a, .bool b, v] 32 (0, 0))) : w.cell? ⟨g, 0, none⟩ = some (.int .i64 a) ∧ w.cell? ⟨g, 1, none⟩ = some (.bool b) ∧ w.cell? ⟨g, 2, none⟩ = some v := by
  refine ⟨?_, ?_, ?_⟩ <;> (rw [cell_of_row _ _ _ _ 32 (0, 0) h]; rfl)
theorem st_put {w0 w : World} {st : Nat} {rs : List (Rw × Nat)} {sd : List Sv} (hS : StX w0 w st rs sd) (x : Ak) (u : Value) : Calls Try.prog 51 #[.pointer (some ⟨st, 0, none⟩), .agg (x.row u)] w fun e w' => e = .returned (.agg (reB true)) ∧ Ext w w' := by
  obtain ⟨W, hW⟩ : ∃ W, W = (w.alloc (.cells (x.row u) 26)).alloc (.cells zRe 32) := ⟨_, rfl⟩
  have hE : Ext w W := by rw [hW]; exact ((Ext.refl _).alloc _).alloc _
  have hX : W.heap[w.heap.size]? = some (.cells (x.row u) 26 (0, 0)) := by rw [hW]; exact ((Ext.refl _).alloc _).row (heap_alloc_new w _)
  have hR : W.heap[w.heap.size + 1]? = some (.cells zRe 32 (0, 0)) := by
    have h1 := heap_alloc_new (w.alloc (.cells (x.row u) 26)) (.cells zRe 32)
    rw [show (w.alloc (.cells (x.row u) 26)).heap.size = w.heap.size + 1 by simp] at h1
    rw [hW]; exact h1
  have hT := hS.ext hE
  have hsb : st ≠ w.heap.size + 1 := by have := hS.lt; omega
  have hrc := askc hX
  have hW' := Lib.hid hW
  clear hW hX
  unfold Ak.row zRe at hW'
  unfold Ak.row
  go_enter Try.func51, Try.ntmps51
  go_upto_region 1 with fail
  rw [← hW'.out]
  clear hW'
  go_wp2_with (first | (refine wpList_store_row (by rfl) 32 (.tmp 4) (.tmp 5) (by rfl) (w.heap.size + 1) (reB true) (by rfl) (by rfl) 32 zRe hR (by exact info_reply) (by rfl) (reB_one true) ?_) | fail)
  have hset : (W.setRow (w.heap.size + 1) (reB true)).heap[w.heap.size + 1]? = some (.cells (reB true) 32 (0, 0)) := by rw [setRow_heap _ _ _ _ _ _ hR]
  have hEf : Ext w (W.setRow (w.heap.size + 1) (reB true)) := hE.setRow (by omega) _
  generalize W.setRow (w.heap.size + 1) (reB true) = Wf at *
  obtain ⟨b0, b1, b2⟩ := re_cells hset
  exact bodyPost_ret (v := .agg (reB true)) (by simp [results, Try.results51, go_sem, b0, b1, b2, reB]) rfl ⟨rfl, hEf⟩
/-- What a key leads to, as a pointer. -/
def ptrOf (rs : List (Rw × Nat)) (k : ByteArray) : Value := .pointer ((rs.find? (keyIs k)).map fun p => ⟨p.2, 0, none⟩)
theorem st_del {w0 w : World} {st : Nat} {rs : List (Rw × Nat)} {sd : List Sv} (hS : StX w0 w st rs sd) (x : Ak) (hx : x.key.size ≤ 140737488351232) (u : Value) : Calls Try.prog 52 #[.pointer (some ⟨st, 0, none⟩), .agg (x.row u)] w fun e w' => e = .returned (.agg (reB (rs.find? (keyIs x.key)).isSome)) ∧ Ext w w' := by
  obtain ⟨W, hW⟩ : ∃ W, W = (w.alloc (.cells (x.row u) 26)).alloc (.cells zRe 32) := ⟨_, rfl⟩
  have hE : Ext w W := by rw [hW]; exact ((Ext.refl _).alloc _).alloc _
  have hX : W.heap[w.heap.size]? = some (.cells (x.row u) 26 (0, 0)) := by rw [hW]; exact ((Ext.refl _).alloc _).row (heap_alloc_new w _)
  have hR : W.heap[w.heap.size + 1]? = some (.cells zRe 32 (0, 0)) := by
    have h1 := heap_alloc_new (w.alloc (.cells (x.row u) 26)) (.cells zRe 32)
    rw [show (w.alloc (.cells (x.row u) 26)).heap.size = w.heap.size + 1 by simp] at h1
    rw [hW]; exact h1
  have hT := hS.ext hE
  have hsb : st ≠ w.heap.size + 1 := by have := hS.lt; omega
  have hrc := askc hX
  have hW' := Lib.hid hW
  clear hW hX
  unfold Ak.row zRe at hW'
  unfold Ak.row
  go_enter Try.func52, Try.ntmps52
  obtain ⟨mb, hM, hc0⟩ := hT.map
  have hlk := (hM.ext (Ext.refl W).drew).look x.key hx
  obtain ⟨_, k1, _⟩ := hrc
  generalize (rs.find? (keyIs x.key)) = o at *
  cases o with
  | none =>
    simp only [Option.map_none] at hlk
    go_upto_region 1 with fail
    rw [← hW'.out]
    clear hW'
    go_still_tail 9, (by kernel_rfl)
    change wpList _ _ _ _ _ W.drew
    refine wpList_store_row (by rfl) 32 (.tmp 4) (.tmp 13) (by rfl) (w.heap.size + 1) (reB false) (by rfl) (by rfl) 32 zRe (show W.drew.heap[w.heap.size + 1]? = _ from hR) (by exact info_reply) (by rfl) (reB_one false) ?_
    have hset : (W.drew.setRow (w.heap.size + 1) (reB false)).heap[w.heap.size + 1]? = some (.cells (reB false) 32 (0, 0)) := by rw [setRow_heap _ _ _ _ _ _ (show W.drew.heap[w.heap.size + 1]? = _ from hR)]
    have hEf : Ext w (W.drew.setRow (w.heap.size + 1) (reB false)) := hE.drew.setRow (by omega) _
    generalize W.drew.setRow (w.heap.size + 1) (reB false) = Wf at *
    obtain ⟨b0, b1, b2⟩ := re_cells hset
    clear hlk
    go_wp2_with fail
    exact bodyPost_ret (v := .agg (reB false)) (by simp [results, Try.results52, go_sem, b0, b1, b2, reB]) rfl ⟨rfl, hEf⟩
  | some p =>
    simp only [Option.map_some] at hlk
    go_upto_region 1 with fail
    rw [← hW'.out]
    clear hW'
    go_still_tail 9, (by kernel_rfl)
    change wpList _ _ _ _ _ W.drew
    refine wpList_store_row (by rfl) 32 (.tmp 4) (.tmp 13) (by rfl) (w.heap.size + 1) (reB true) (by rfl) (by rfl) 32 zRe (show W.drew.heap[w.heap.size + 1]? = _ from hR) (by exact info_reply) (by rfl) (reB_one true) ?_
    have hset : (W.drew.setRow (w.heap.size + 1) (reB true)).heap[w.heap.size + 1]? = some (.cells (reB true) 32 (0, 0)) := by rw [setRow_heap _ _ _ _ _ _ (show W.drew.heap[w.heap.size + 1]? = _ from hR)]
    have hEf : Ext w (W.drew.setRow (w.heap.size + 1) (reB true)) := hE.drew.setRow (by omega) _
    generalize W.drew.setRow (w.heap.size + 1) (reB true) = Wf at *
    obtain ⟨b0, b1, b2⟩ := re_cells hset
    clear hlk
    go_wp2_with fail
    exact bodyPost_ret (v := .agg (reB true)) (by simp [results, Try.results52, go_sem, b0, b1, b2, reB]) rfl ⟨rfl, hEf⟩
/-- May a cas be made? -/
def casB (o : Option (Rw × Nat)) (x : Ak) : Bool := match o with
  | none => x.new
  | some p => !x.new && (p.1.val.toList == x.old.toList)
theorem row_cells {w : World} {g : Nat} {r : Rw} (h : w.heap[g]? = some (.cells (rowR r) 62 (0, 0))) : w.cell? ⟨g, 0, none⟩ = some (.string r.key) ∧ w.cell? ⟨g, 1, none⟩ = some (.string r.val) := by
  refine ⟨?_, ?_⟩ <;> (rw [cell_of_row _ _ _ _ 62 (0, 0) h]; rfl)
theorem Below.setRow {base : Nat} {w w' : World} (h : Below base w w') {g : Nat} (hg : base ≤ g) (cs : Array Value) : Below base w (w'.setRow g cs) :=
  Below.trans h ⟨rfl, rfl, rfl, by simp, fun k hk => setRow_other w' g k cs (by omega)⟩
/-- A reply is stored whole. -/
theorem st_re {base : Nat} {wr W : World} {b : Nat} {old : Array Value} (hb : W.heap[b]? = some (.cells old 32 (0, 0))) (ho : old.size = 3) (hE : Below base wr W) (hle : base ≤ b) (z : Bool) :
    ∃ W', (storeCells ⟨b, 0, none⟩ (reB z).toList).run Try.prog W = .ok () W' ∧ Below base wr W' ∧ W'.heap[b]? = some (.cells (reB z) 32 (0, 0)) := by
  refine ⟨W.setRow b (reB z), ?_, Below.setRow hE hle _, by rw [setRow_heap _ _ _ _ _ _ hb]⟩
  rw [run_storeCells_from b 32 (reB z).toList 0 old W hb (by rw [ho]; rfl) (fun v hv => Array.all_eq_true_iff_forall_mem.1 (reB_one z) v (by simpa using hv))]
  match old, ho with
  | ⟨[x, y, t]⟩, _ => rfl
/-- A box: what stands in it is not laid open by a tactic that looks at the goal (a walk that passes operations over would be run to its end each time). -/
structure Bx (p : Prop) : Prop where
  out : p
theorem bxSkip {P : Program} {ops : Array Oper} {w : World} {Q : Act → Prop} {o : Oper} {rest : List Oper} {a : Act} (hw : Region.wanted o (yielded ops a.tmps) = false) (h : Bx (wpStill P ops w Q rest (a.put o.dst undef))) : Bx (wpStill P ops w Q (o :: rest) a) := by
  refine ⟨?_⟩
  unfold wpStill
  rw [if_neg (by rw [hw]; decide)]
  exact h.out
theorem bxStep {P : Program} {ops : Array Oper} {w : World} {Q : Act → Prop} {o : Oper} {rest : List Oper} {a : Act} (h : ∀ K : Act → Prop, (∀ a, Bx (wpStill P ops w Q rest a) → K a) → if Region.wanted o (yielded ops a.tmps) then o.still P a w K else K (a.put o.dst undef)) : Bx (wpStill P ops w Q (o :: rest) a) :=
  ⟨wpStill_step fun K hK => h K fun a h => hK a h.out⟩
theorem bxNil {P : Program} {ops : Array Oper} {w : World} {Q : Act → Prop} {a : Act} (h : Q a) : Bx (wpStill P ops w Q [] a) := ⟨h⟩
theorem bxTail {P : Program} {id : Nat} {Q : Exit → Act → World → Prop} {a : Act} {w : World} {l : List Oper} (n : Nat) (hm : P.follows .mixedOrders = true) (hB : Region.lexTailB .any l.toArray n = true)
    (h : Bx (wpStill P l.toArray { w with drawn := w.drawn + 1 } (fun a' => wpList P l.toArray Q (l.drop n) a' { w with drawn := w.drawn + 1 }) (l.take n) a)) : (Code.region id l.toArray true).wp P Q a w := wp_region_still_tail n hm hB h.out
theorem st_cas {w0 w : World} {st : Nat} {rs : List (Rw × Nat)} {sd : List Sv} (hS : StX w0 w st rs sd) (x : Ak) (hx : x.key.size ≤ 140737488351232) (u : Value) : Calls Try.prog 40 #[.pointer (some ⟨st, 0, none⟩), .agg (x.row u)] w fun e w' => e = .returned (.agg (reB (casB (rs.find? (keyIs x.key)) x))) ∧ Ext w w' := by
  obtain ⟨W, hW⟩ : ∃ W, W = (w.alloc (.cells (x.row u) 26)).alloc (.cells zRe 32) := ⟨_, rfl⟩
  have hE : Ext w W := by rw [hW]; exact ((Ext.refl _).alloc _).alloc _
  have hX : W.heap[w.heap.size]? = some (.cells (x.row u) 26 (0, 0)) := by rw [hW]; exact ((Ext.refl _).alloc _).row (heap_alloc_new w _)
  have hR : W.heap[w.heap.size + 1]? = some (.cells zRe 32 (0, 0)) := by
    have h1 := heap_alloc_new (w.alloc (.cells (x.row u) 26)) (.cells zRe 32)
    rw [show (w.alloc (.cells (x.row u) 26)).heap.size = w.heap.size + 1 by simp] at h1
    rw [hW]; exact h1
  have hT := hS.ext hE
  have hsb : st ≠ w.heap.size + 1 := by have := hS.lt; omega
  have hrc := askc hX
  have hW' := Lib.hid hW
  clear hW hX
  unfold Ak.row zRe at hW'
  unfold Ak.row
  go_enter Try.func40, Try.ntmps40
  obtain ⟨mb, hM, hc0⟩ := hT.map
  have hlk := (hM.ext (Ext.refl W).drew).look x.key hx
  have hrow : ∀ p, rs.find? (keyIs x.key) = some p → W.heap[p.2]? = some (.cells (rowR p.1) 62 (0, 0)) := fun p hp => (hM.2.2 p (List.mem_of_find?_eq_some hp)).2.2
  have hpl0 : ∀ p, rs.find? (keyIs x.key) = some p → p.2 < w.heap.size := fun p hp => hS.rlt (List.mem_of_find?_eq_some hp)
  obtain ⟨_, k1, _, k3, k4, _⟩ := hrc
  generalize (rs.find? (keyIs x.key)) = o at *
  have hBB : ∃ b, b = casB o x := ⟨_, rfl⟩
  obtain ⟨bb, hbb⟩ := hBB
  rw [← hbb]
  have hbb' := Lib.hid hbb
  clear hbb hM hT
  cases o with
  | none =>
    clear hrow hpl0
    simp only [Option.map_none] at hlk
    go_upto_region 1 with fail
    rw [← hW'.out]
    clear hW'
    go_still (by kernel_rfl)
    rw [show ({ heap := W.heap, tape := W.tape, drawn := W.drawn + 1, os := W.os, output := W.output } : World) = W.drew from rfl]
    clear hlk
    replace k3 : W.drew.cell? ⟨w.heap.size, 3, none⟩ = some (.string x.old) := k3
    replace k4 : W.drew.cell? ⟨w.heap.size, 4, none⟩ = some (.bool x.new) := k4
    replace hR : W.drew.heap[w.heap.size + 1]? = some (.cells zRe 32 (0, 0)) := hR
    replace hE := hE.drew
    clear k1 hc0
    generalize W.drew = W2 at *
    cases hn : x.new
    · have hb2 : bb = false := by rw [hbb'.out]; simp [casB, hn]
      rw [hn] at k4
      subst hb2
      have hn' := Lib.hid hn
      clear hn
      go_upto_region 2 with fail
      refine bxTail 19 (by kernel_rfl) (by kernel_rfl) ?_
      simp only [List.take_succ_cons, List.take_zero, List.drop_succ_cons, List.drop_zero]
      iterate 19 (first | (refine bxSkip (by rfl) ?_; simp only [Act.put, List.setIfInBounds_toArray, List.set_cons_zero, List.set_cons_succ]) | (refine bxStep (fun K hK => ?_); go_simp; refine hK _ ?_; clear hK K))
      refine bxNil ?_
      change wpList _ _ _ _ _ W2.drew
      refine wpList_store_row (by rfl) 32 (.tmp 4) (.tmp 31) (by rfl) (w.heap.size + 1) (reB false) (by rfl) (by rfl) 32 zRe (show W2.drew.heap[w.heap.size + 1]? = _ from hR) (by exact info_reply) (by rfl) (reB_one false) ?_
      have hset : (W2.drew.setRow (w.heap.size + 1) (reB false)).heap[w.heap.size + 1]? = some (.cells (reB false) 32 (0, 0)) := by rw [setRow_heap _ _ _ _ _ _ (show W2.drew.heap[w.heap.size + 1]? = _ from hR)]
      have hEf : Ext w (W2.drew.setRow (w.heap.size + 1) (reB false)) := hE.drew.setRow (by omega) _
      generalize W2.drew.setRow (w.heap.size + 1) (reB false) = Wf at *
      obtain ⟨b0, b1, b2⟩ := re_cells hset
      go_wp2_with fail
      exact bodyPost_ret (v := .agg (reB false)) (by simp [results, Try.results40, go_sem, b0, b1, b2, reB]) rfl ⟨rfl, hEf⟩
    · have hb2 : bb = true := by rw [hbb'.out]; simp [casB, hn]
      rw [hn] at k4
      subst hb2
      have hn' := Lib.hid hn
      clear hn
      go_upto_region 2 with fail
      refine bxTail 19 (by kernel_rfl) (by kernel_rfl) ?_
      simp only [List.take_succ_cons, List.take_zero, List.drop_succ_cons, List.drop_zero]
      iterate 19 (first | (refine bxSkip (by rfl) ?_; simp only [Act.put, List.setIfInBounds_toArray, List.set_cons_zero, List.set_cons_succ]) | (refine bxStep (fun K hK => ?_); go_simp; refine hK _ ?_; clear hK K))
      refine bxNil ?_
      change wpList _ _ _ _ _ W2.drew
      refine wpList_store_row (by rfl) 32 (.tmp 4) (.tmp 31) (by rfl) (w.heap.size + 1) (reB true) (by rfl) (by rfl) 32 zRe (show W2.drew.heap[w.heap.size + 1]? = _ from hR) (by exact info_reply) (by rfl) (reB_one true) ?_
      have hset : (W2.drew.setRow (w.heap.size + 1) (reB true)).heap[w.heap.size + 1]? = some (.cells (reB true) 32 (0, 0)) := by rw [setRow_heap _ _ _ _ _ _ (show W2.drew.heap[w.heap.size + 1]? = _ from hR)]
      have hEf : Ext w (W2.drew.setRow (w.heap.size + 1) (reB true)) := hE.drew.setRow (by omega) _
      generalize W2.drew.setRow (w.heap.size + 1) (reB true) = Wf at *
      obtain ⟨b0, b1, b2⟩ := re_cells hset
      go_wp2_with fail
      exact bodyPost_ret (v := .agg (reB true)) (by simp [results, Try.results40, go_sem, b0, b1, b2, reB]) rfl ⟨rfl, hEf⟩
  | some p =>
    have hpl : p.2 < w.heap.size + 1 := by have := hpl0 p rfl; omega
    obtain ⟨_, q1⟩ := row_cells (hrow p rfl)
    clear hpl0
    clear hrow
    simp only [Option.map_some] at hlk
    go_upto_region 1 with fail
    rw [← hW'.out]
    clear hW'
    go_still (by kernel_rfl)
    rw [show ({ heap := W.heap, tape := W.tape, drawn := W.drawn + 1, os := W.os, output := W.output } : World) = W.drew from rfl]
    clear hlk
    replace k3 : W.drew.cell? ⟨w.heap.size, 3, none⟩ = some (.string x.old) := k3
    replace k4 : W.drew.cell? ⟨w.heap.size, 4, none⟩ = some (.bool x.new) := k4
    replace hR : W.drew.heap[w.heap.size + 1]? = some (.cells zRe 32 (0, 0)) := hR
    replace hE := hE.drew
    clear k1 hc0
    replace q1 : W.drew.cell? ⟨p.2, 1, none⟩ = some (.string p.1.val) := q1
    generalize W.drew = W2 at *
    cases hn : x.new
    · cases ho : p.1.val.toList == x.old.toList
      · have hb2 : bb = false := by rw [hbb'.out]; simp [casB, hn, ho]
        rw [hn] at k4
        subst hb2
        have hn' := Lib.hid hn
        clear hn
        go_upto_region 2 with fail
        refine bxTail 19 (by kernel_rfl) (by kernel_rfl) ?_
        simp only [List.take_succ_cons, List.take_zero, List.drop_succ_cons, List.drop_zero]
        iterate 19 (first | (refine bxSkip (by rfl) ?_; simp only [Act.put, List.setIfInBounds_toArray, List.set_cons_zero, List.set_cons_succ]) | (refine bxStep (fun K hK => ?_); go_simp; refine hK _ ?_; clear hK K))
        refine bxNil ?_
        change wpList _ _ _ _ _ W2.drew
        refine wpList_store_row (by rfl) 32 (.tmp 4) (.tmp 31) (by rfl) (w.heap.size + 1) (reB false) (by rfl) (by rfl) 32 zRe (show W2.drew.heap[w.heap.size + 1]? = _ from hR) (by exact info_reply) (by rfl) (reB_one false) ?_
        have hset : (W2.drew.setRow (w.heap.size + 1) (reB false)).heap[w.heap.size + 1]? = some (.cells (reB false) 32 (0, 0)) := by rw [setRow_heap _ _ _ _ _ _ (show W2.drew.heap[w.heap.size + 1]? = _ from hR)]
        have hEf : Ext w (W2.drew.setRow (w.heap.size + 1) (reB false)) := hE.drew.setRow (by omega) _
        generalize W2.drew.setRow (w.heap.size + 1) (reB false) = Wf at *
        obtain ⟨b0, b1, b2⟩ := re_cells hset
        go_wp2_with fail
        exact bodyPost_ret (v := .agg (reB false)) (by simp [results, Try.results40, go_sem, b0, b1, b2, reB]) rfl ⟨rfl, hEf⟩
      · have hb2 : bb = true := by rw [hbb'.out]; simp [casB, hn, ho]
        rw [hn] at k4
        subst hb2
        have hn' := Lib.hid hn
        clear hn
        go_upto_region 2 with fail
        refine bxTail 19 (by kernel_rfl) (by kernel_rfl) ?_
        simp only [List.take_succ_cons, List.take_zero, List.drop_succ_cons, List.drop_zero]
        iterate 19 (first | (refine bxSkip (by rfl) ?_; simp only [Act.put, List.setIfInBounds_toArray, List.set_cons_zero, List.set_cons_succ]) | (refine bxStep (fun K hK => ?_); go_simp; refine hK _ ?_; clear hK K))
        refine bxNil ?_
        change wpList _ _ _ _ _ W2.drew
        refine wpList_store_row (by rfl) 32 (.tmp 4) (.tmp 31) (by rfl) (w.heap.size + 1) (reB true) (by rfl) (by rfl) 32 zRe (show W2.drew.heap[w.heap.size + 1]? = _ from hR) (by exact info_reply) (by rfl) (reB_one true) ?_
        have hset : (W2.drew.setRow (w.heap.size + 1) (reB true)).heap[w.heap.size + 1]? = some (.cells (reB true) 32 (0, 0)) := by rw [setRow_heap _ _ _ _ _ _ (show W2.drew.heap[w.heap.size + 1]? = _ from hR)]
        have hEf : Ext w (W2.drew.setRow (w.heap.size + 1) (reB true)) := hE.drew.setRow (by omega) _
        generalize W2.drew.setRow (w.heap.size + 1) (reB true) = Wf at *
        obtain ⟨b0, b1, b2⟩ := re_cells hset
        go_wp2_with fail
        exact bodyPost_ret (v := .agg (reB true)) (by simp [results, Try.results40, go_sem, b0, b1, b2, reB]) rfl ⟨rfl, hEf⟩
    · have hb2 : bb = false := by rw [hbb'.out]; simp [casB, hn]
      rw [hn] at k4
      subst hb2
      have hn' := Lib.hid hn
      clear hn
      go_upto_region 2 with fail
      refine bxTail 19 (by kernel_rfl) (by kernel_rfl) ?_
      simp only [List.take_succ_cons, List.take_zero, List.drop_succ_cons, List.drop_zero]
      iterate 19 (first | (refine bxSkip (by rfl) ?_; simp only [Act.put, List.setIfInBounds_toArray, List.set_cons_zero, List.set_cons_succ]) | (refine bxStep (fun K hK => ?_); go_simp; refine hK _ ?_; clear hK K))
      refine bxNil ?_
      change wpList _ _ _ _ _ W2.drew
      refine wpList_store_row (by rfl) 32 (.tmp 4) (.tmp 31) (by rfl) (w.heap.size + 1) (reB false) (by rfl) (by rfl) 32 zRe (show W2.drew.heap[w.heap.size + 1]? = _ from hR) (by exact info_reply) (by rfl) (reB_one false) ?_
      have hset : (W2.drew.setRow (w.heap.size + 1) (reB false)).heap[w.heap.size + 1]? = some (.cells (reB false) 32 (0, 0)) := by rw [setRow_heap _ _ _ _ _ _ (show W2.drew.heap[w.heap.size + 1]? = _ from hR)]
      have hEf : Ext w (W2.drew.setRow (w.heap.size + 1) (reB false)) := hE.drew.setRow (by omega) _
      generalize W2.drew.setRow (w.heap.size + 1) (reB false) = Wf at *
      obtain ⟨b0, b1, b2⟩ := re_cells hset
      go_wp2_with fail
      exact bodyPost_ret (v := .agg (reB false)) (by simp [results, Try.results40, go_sem, b0, b1, b2, reB]) rfl ⟨rfl, hEf⟩
end Go.Proofs.Ytmjoaiepfipmaaa
