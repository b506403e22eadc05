/- A table's from, Get. No condition. -/
import Derived.Test.YtfcpnkalcijflaaGreatDoorTab3
namespace Go.Proofs.YtfcpnkalcijflaaGreatDoor
open Go.RowKit
theorem lastAt_cases {l : List Nd} {h : Nat} (hx : ∃ x ∈ l, hit h x = true) : ∃ p x q, l = p ++ x :: q ∧ hit h x = true ∧ (∀ y ∈ q, hit h y = false) ∧ lastAt l h = some x.addr := by
  unfold lastAt
  cases hf : l.reverse.find? (hit h) with
  | none =>
    obtain ⟨x, hx1, hx2⟩ := hx
    have := List.find?_eq_none.1 hf x (List.mem_reverse.2 hx1)
    exact absurd hx2 this
  | some n =>
    obtain ⟨h1, q, p, h2, h3⟩ := List.find?_eq_some_iff_append.1 hf
    refine ⟨p.reverse, n, q.reverse, ?_, h1, fun y hy => by have := h3 y (List.mem_reverse.1 hy); simpa using this, rfl⟩
    have := congrArg List.reverse h2
    simpa using this
theorem head_hits {hd : Nat} {ns : List Nd} {h : Nat} (h8 : h < 8) : ∃ x ∈ headN hd :: ns, hit h x = true := ⟨headN hd, List.mem_cons_self .., by unfold hit headN; simpa using h8⟩
/-- At each height: the last tower ahead of m, and what it leads to. -/
theorem SkAt.last {w : World} {tb hd : Nat} {ns : List Nd} (hS : SkAt w tb hd ns) (m : Mk) {h : Nat} (h8 : h < 8) : ∃ p x q, headN hd :: aheadN ns m = p ++ x :: q ∧ hit h x = true ∧ (∀ y ∈ q, hit h y = false) ∧ lastAt (headN hd :: aheadN ns m) h = some ⟨x.blk, 0, none⟩ ∧ TwAt w x.blk x.e (links x (q ++ restN ns m)) ∧ links x (q ++ restN ns m) h = nextAt (restN ns m) h := by
  obtain ⟨p, x, q, h1, h2, h3, h4⟩ := lastAt_cases (l := headN hd :: aheadN ns m) (h := h) (head_hits h8)
  have hc := hS.chain
  have h5 : headN hd :: ns = p ++ x :: (q ++ restN ns m) := by
    have : headN hd :: ns = (headN hd :: aheadN ns m) ++ restN ns m := by rw [List.cons_append, aheadN_rest]
    rw [this, h1]; simp
  rw [h5] at hc
  refine ⟨p, x, q, h1, h2, h3, h4, hc.at, ?_⟩
  unfold links
  have : h < x.tall := by unfold hit at h2; simpa using h2
  rw [if_pos this, nextAt_skip h3]
theorem there_nil (w : World) : Calls Tryz.prog 19 #[.pointer none] w fun e w' => e = .returned (.bool false) ∧ w = w' := by
  go_enter Tryz.func19, Tryz.ntmps19
  go_wp2
  go_ret
  exact ⟨rfl, rfl⟩
theorem there_empty (w : World) (tb : Nat) (h : w.cell? ⟨tb, 0, none⟩ = some (.pointer none)) : Calls Tryz.prog 19 #[.pointer (some ⟨tb, 0, none⟩)] w fun e w' => e = .returned (.bool false) ∧ w = w' := by
  go_enter Tryz.func19, Tryz.ntmps19
  go_wp2
  go_ret
  exact ⟨rfl, rfl⟩
theorem run_idx_arr (a b c d e f g h : Option Addr) (w : World) : (Instr.index 62 (.agg #[.pointer a, .pointer b, .pointer c, .pointer d, .pointer e, .pointer f, .pointer g, .pointer h]) (.int .i64 0)).run Tryz.prog w = .ok (.pointer a) w := by kernel_rfl
set_option maxRecDepth 100000 in
theorem fromp_any (w : World) (tb hd : Nat) (ns : List Nd) (m : Mk) (hS : SkAt w tb hd ns) : Calls Tryz.prog 24 #[.pointer (some ⟨tb, 0, none⟩), .agg #[.string m.key, .int .u64 (m.seq : Int), .bool m.gone]] w fun e w' => e = .returned (.pointer (nextAt (restN ns m) 0)) ∧ Ext w w' := by
  obtain ⟨W, hW⟩ : ∃ W, W = w.alloc (.cells #[.string m.key, .int .u64 (m.seq : Int), .bool m.gone] 47) := ⟨_, rfl⟩
  have hE : Ext w W := by rw [hW]; exact (Ext.refl _).alloc _
  have hM : MkAt W w.heap.size m := by rw [hW]; exact heap_alloc_new w _
  have hSW := hS.ext hE
  have hrg := hM.range
  have hW' := Lib.hid hW
  clear hW
  go_enter Tryz.func24, Tryz.ntmps24
  go_wp2_with fail
  rw [← hW'.out]
  clear hW'
  refine (there_ok hSW).mono ?_
  rintro e w' ⟨rfl, rfl⟩
  go_wp2_with (first | (refine wpList_load_mid (by rfl) 47 (.tmp 3) (by rfl) w.heap.size 0 (by rfl) (mkRow m) _ hrg Tryz.underlying47 rfl (by exact info_mark) ?_) | fail)
  refine (ahead_any W tb hd ns m hSW).mono ?_
  rintro e w1 ⟨rfl, hE1⟩
  have hS1 := hSW.ext hE1
  obtain ⟨p, x, q, e1, e2, e3, hla, hT, hli⟩ := hS1.last m (h := 0) (by omega)
  clear e1 e2 e3
  have hc4 := hT.cells.2.2.2.2.1 0 (by omega)
  rw [hli] at hc4
  unfold lastRow
  rw [hla]
  have hix := run_idx_arr
  clear hla hT hli
  go_wp2_with fail
  go_ret
  exact ⟨rfl, hE.trans hE1⟩
/-- An entry's cells. -/
def enRow (e : En) : Array Value := #[.string e.mark.key, .int .u64 (e.mark.seq : Int), .bool e.mark.gone, .string e.val]
theorem info_entry : (Tryz.prog.info? 49).map (·.size) = some 4 := by kernel_rfl
theorem en_one (e : En) : (enRow e).all (·.oneCell') = true := by kernel_rfl
theorem en_cells {w : World} {b : Nat} {e : En} (h : w.heap[b]? = some (.cells (enRow e) 49 (0, 0))) : w.cell? ⟨b, 0, none⟩ = some (.string e.mark.key) ∧ w.cell? ⟨b, 1, none⟩ = some (.int .u64 (e.mark.seq : Int)) ∧ w.cell? ⟨b, 2, none⟩ = some (.bool e.mark.gone) ∧ w.cell? ⟨b, 3, none⟩ = some (.string e.val) := by
  refine ⟨?_, ?_, ?_, ?_⟩ <;> (rw [cell_of_row _ _ _ _ 49 (0, 0) h]; rfl)
theorem TwAt.entry {w : World} {b : Nat} {e : En} {f : Nat → Option Addr} (h : TwAt w b e f) : w.rangeAt b 0 (enRow e).toList := fun r v hv => by
  have hr : r < 4 := (List.getElem?_eq_some_iff.1 hv).1
  rw [Nat.zero_add, cell_of_row _ _ r _ 64 (0, 0) h, ← hv]
  obtain rfl | rfl | rfl | rfl : r = 0 ∨ r = 1 ∨ r = 2 ∨ r = 3 := by omega
  all_goals rfl
/-- What Get tells: the first entry from the mark (key, seq, gone) on, if it is of the key. -/
def getS (l : List En) (key : ByteArray) (seq : Nat) : Option En := match restL l ⟨key, seq, true⟩ with
  | [] => none
  | x :: _ => if x.mark.key.toList == key.toList then some x else none
def Got (o : Option En) (w : World) (e : Ending) (w' : World) : Prop := e = .returned (.tuple #[.agg (enRow (o.getD zEn)), .bool o.isSome]) ∧ Ext w w'
theorem rest_cons {w : World} {tb hd : Nat} {ns : List Nd} (hS : SkAt w tb hd ns) {m : Mk} {n : Nd} {r : List Nd} (h : restN ns m = n :: r) : hit 0 n = true ∧ TwAt w n.blk n.e (links n r) := by
  have h1 : n ∈ ns := by
    have : n ∈ aheadN ns m ++ restN ns m := List.mem_append.2 (.inr (by rw [h]; exact List.mem_cons_self ..))
    rw [aheadN_rest] at this; exact this
  refine ⟨by unfold hit; have := (hS.tall n h1).1; simp; omega, ?_⟩
  have hc := hS.chain
  have h5 : headN hd :: ns = (headN hd :: aheadN ns m) ++ n :: r := by rw [List.cons_append, ← h, aheadN_rest]
  rw [h5] at hc
  exact hc.at
set_option maxRecDepth 100000 in
set_option maxHeartbeats 1000000 in
theorem get_any (w : World) (tb hd : Nat) (ns : List Nd) (key : ByteArray) (seq : Nat) (hS : SkAt w tb hd ns) : Calls Tryz.prog 8 #[.pointer (some ⟨tb, 0, none⟩), .string key, .int .u64 (seq : Int)] w (Got (getS (ns.map Nd.e) key seq) w) := by
  obtain ⟨W, hW⟩ : ∃ W, W = w.alloc (.cells #[.string ⟨#[]⟩, .int .u64 0, .bool false, .string ⟨#[]⟩] 49) := ⟨_, rfl⟩
  have hE : Ext w W := by rw [hW]; exact (Ext.refl _).alloc _
  have hR : W.heap[w.heap.size]? = some (.cells (enRow zEn) 49 (0, 0)) := by rw [hW]; exact heap_alloc_new w _
  have hSW := hS.ext hE
  have hW' := Lib.hid hW
  clear hW
  go_enter Tryz.func8, Tryz.ntmps8
  go_wp2_with fail
  rw [← hW'.out]
  clear hW'
  refine (fromp_any W tb hd ns ⟨key, seq, true⟩ hSW).mono ?_
  rintro e w1 ⟨rfl, hE1⟩
  have hR1 := hE1.row hR
  have hS1 := hSW.ext hE1
  have hE2 := hE.trans hE1
  have hgs : getS (ns.map Nd.e) key seq = match restN ns ⟨key, seq, true⟩ with | [] => none | n :: _ => if n.e.mark.key.toList == key.toList then some n.e else none := by
    unfold getS
    rw [← restN_map]
    cases restN ns ⟨key, seq, true⟩ <;> rfl
  have hgs' := Lib.hid hgs
  clear hgs hR
  cases hr : restN ns ⟨key, seq, true⟩ with
  | nil =>
    have hfin : getS (ns.map Nd.e) key seq = none := by rw [hgs'.out, hr]
    have hfin' := Lib.hid hfin
    rw [show nextAt [] 0 = none from rfl]
    clear hgs' hr hfin
    go_wp2_with (first | (refine wpList_store_row (by rfl) 49 (.tmp 6) (.tmp 26) (by rfl) w.heap.size (enRow zEn) (by rfl) (by rfl) 49 (enRow zEn) hR1 (by exact info_entry) (by rfl) (by exact en_one zEn) ?_) | fail)
    have hset : (w1.setRow w.heap.size (enRow zEn)).heap[w.heap.size]? = some (.cells (enRow zEn) 49 (0, 0)) := by rw [setRow_heap _ _ _ _ _ _ hR1]
    have hEf : Ext w (w1.setRow w.heap.size (enRow zEn)) := hE2.setRow (Nat.le_refl _) _
    generalize w1.setRow w.heap.size (enRow zEn) = Wf at *
    obtain ⟨b0, b1, b2, b3⟩ := en_cells hset
    exact bodyPost_ret (v := .tuple #[.agg (enRow zEn), .bool false]) (by simp [results, Tryz.results8, go_sem, b0, b1, b2, b3, enRow]) rfl (by rw [hfin'.out]; exact ⟨rfl, hEf⟩)
  | cons n r =>
    obtain ⟨hh, hT⟩ := rest_cons hS1 hr
    rw [nextAt_hit hh]
    unfold Nd.addr
    obtain ⟨t0, _, _, _, _, _⟩ := hT.cells
    have hen := hT.entry
    clear hT
    cases hk : n.e.mark.key.toList == key.toList
    · have hfin : getS (ns.map Nd.e) key seq = none := by rw [hgs'.out, hr]; simp only [hk]; rfl
      have hfin' := Lib.hid hfin
      clear hgs' hr hfin
      go_wp2_with (first | (refine wpList_store_row (by rfl) 49 (.tmp 6) (.tmp 26) (by rfl) w.heap.size (enRow zEn) (by rfl) (by rfl) 49 (enRow zEn) hR1 (by exact info_entry) (by rfl) (by exact en_one zEn) ?_) | fail)
      have hset : (w1.setRow w.heap.size (enRow zEn)).heap[w.heap.size]? = some (.cells (enRow zEn) 49 (0, 0)) := by rw [setRow_heap _ _ _ _ _ _ hR1]
      have hEf : Ext w (w1.setRow w.heap.size (enRow zEn)) := hE2.setRow (Nat.le_refl _) _
      generalize w1.setRow w.heap.size (enRow zEn) = Wf at *
      obtain ⟨b0, b1, b2, b3⟩ := en_cells hset
      exact bodyPost_ret (v := .tuple #[.agg (enRow zEn), .bool false]) (by simp [results, Tryz.results8, go_sem, b0, b1, b2, b3, enRow]) rfl (by rw [hfin'.out]; exact ⟨rfl, hEf⟩)
    · have hfin : getS (ns.map Nd.e) key seq = some n.e := by rw [hgs'.out, hr]; simp only [hk]; rfl
      have hfin' := Lib.hid hfin
      clear hgs' hr hfin
      go_wp2_with (first | (refine wpList_load_mid (by rfl) 49 (.tmp 29) (by rfl) n.blk 0 (by rfl) (enRow n.e).toList _ hen Tryz.underlying49 rfl (by exact info_entry) ?_) | (refine wpList_store_row (by rfl) 49 (.tmp 6) (.tmp 30) (by rfl) w.heap.size (enRow n.e) (by rfl) (by rfl) 49 (enRow zEn) hR1 (by exact info_entry) (by rfl) (by exact en_one n.e) ?_) | fail)
      have hset : (w1.setRow w.heap.size (enRow n.e)).heap[w.heap.size]? = some (.cells (enRow n.e) 49 (0, 0)) := by rw [setRow_heap _ _ _ _ _ _ hR1]
      have hEf : Ext w (w1.setRow w.heap.size (enRow n.e)) := hE2.setRow (Nat.le_refl _) _
      generalize w1.setRow w.heap.size (enRow n.e) = Wf at *
      obtain ⟨b0, b1, b2, b3⟩ := en_cells hset
      exact bodyPost_ret (v := .tuple #[.agg (enRow n.e), .bool true]) (by simp [results, Tryz.results8, go_sem, b0, b1, b2, b3, enRow]) rfl (by rw [hfin'.out]; exact ⟨rfl, hEf⟩)
end Go.Proofs.YtfcpnkalcijflaaGreatDoor
