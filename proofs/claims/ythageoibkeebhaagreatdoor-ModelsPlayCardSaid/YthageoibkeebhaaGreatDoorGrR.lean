/- Several texts in one: Rn7 Rn8. No condition. -/
import Derived.Test.YthageoibkeebhaaGreatDoorGrO
import Derived.Test.YthageoibkeebhaaGreatDoorGrH
import Derived.Test.YthageoibkeebhaaGreatDoorRn2
/- The document's state: would a KiCas be made; what an ask would change. No condition. -/
namespace Go.Proofs.YthageoibkeebhaaGreatDoor
open Go.RowKit
set_option maxRecDepth 100000
set_option maxHeartbeats 4000000
section
variable {base st : Nat} {w : World} {rows : List Rw} {sd : List Sa}
theorem madeR_any (h : RefM base w st rows sd) (x : Ak) (a : Option Addr) (n cap : Nat) : Calls Tryz.prog 101 #[.pointer (some ⟨st, 0, none⟩), .agg (x.row (.slice a n cap))] w fun e w' => e = .returned (.bool (casW (findW rows x.key) x)) ∧ Ext w w' := by
  obtain ⟨V, hV⟩ : ∃ W, W = w.alloc (.cells (x.row (.slice a n cap)) 66) := ⟨_, rfl⟩
  have hE0 : Ext w V := by rw [hV]; exact (Ext.refl _).alloc _
  have h1 : V.heap[w.heap.size]? = some (.cells (x.row (.slice a n cap)) 66 (0, 0)) := by rw [hV]; exact heap_alloc_new w _
  have hx := Lib.hid (fun W (hE : Ext V W) => askc (hE.row h1))
  have hget := Lib.hid (getR_any (h.ext hE0) x.key)
  obtain ⟨o, ho⟩ : ∃ o, o = findW rows x.key := ⟨_, rfl⟩
  rw [← ho] at hget ⊢
  obtain ⟨x0, x1, x2, x3, x4, x5, x6, x7⟩ := askc h1
  have hV' := Lib.hid hV
  clear h ho h1 hV
  unfold Ak.row at hV' ⊢
  go_enter Tryz.func101, Tryz.ntmps101
  go_upto_region 1 with fail
  rw [← hV'.out]
  go_wp2_with fail
  refine hget.out.mono ?_
  rintro e w1 ⟨rfl, hE1⟩
  clear x0 x1 x2 x3 x4 x5 x6 x7
  obtain ⟨x0, x1, x2, x3, x4, x5, x6, x7⟩ := hx.out w1 hE1
  obtain ⟨r, hr⟩ : ∃ r, r = o.getD zRw := ⟨_, rfl⟩
  obtain ⟨b, hb⟩ : ∃ b, b = o.isSome := ⟨_, rfl⟩
  rw [← hr, ← hb]
  have hfin : Hid (casW o x = if b then !x.new && (r.val.toList == x.old.toList) else x.new) := Lib.hid (by rw [hr, hb]; cases o <;> rfl)
  clear hr hb
  unfold rowR
  go_upto_region 2 with fail
  have hE2 := hE1.alloc (.cells #[.string r.key, .string r.val] 84)
  have hr2 := heap_alloc_new w1 (.cells #[.string r.key, .string r.val] 84)
  clear x0 x1 x2 x3 x4 x5 x6 x7
  obtain ⟨x0, x1, x2, x3, x4, x5, x6, x7⟩ := hx.out _ hE2
  generalize w1.alloc _ = W2 at *
  have r1 := (row_cells (r := r) hr2).2
  have hEz := hE0.trans hE2
  clear hr2 hE2
  obtain ⟨nw, hn⟩ : ∃ nw, nw = x.new := ⟨_, rfl⟩
  rw [← hn] at x4
  have hn' := Lib.hid hn
  clear hn
  cases b <;> cases nw
  all_goals
    go_wp2_with fail
    go_ret
    exact ⟨by rw [hfin.out, ← hn'.out]; simp, hEz⟩
end
end Go.Proofs.YthageoibkeebhaaGreatDoor

/- The document's reply to an ask that is done, all kinds but KiScan. (Printed by mkrn8.py.) No condition. -/
namespace Go.Proofs.YthageoibkeebhaaGreatDoor
open Go.RowKit
set_option maxRecDepth 100000
set_option maxHeartbeats 4000000
/-- The four blocks: the ask, the result, the row that was found, the reply. -/
def RpS (w W : World) (x : Ak) (u : Value) (g : Nat) (r : Rw) (y : Bool) (v : Value) : Prop := Ext w W ∧ w.heap.size + 2 ≤ g ∧ W.heap[w.heap.size]? = some (.cells (x.row u) 66 (0, 0)) ∧ W.heap[w.heap.size + 1]? = some (.cells zRe 74 (0, 0)) ∧ W.heap[g]? = some (.cells (rowR r) 84 (0, 0)) ∧ W.heap[g + 1]? = some (.cells (reH 0 y v) 74 (0, 0))
section
variable {w W W' : World} {x : Ak} {u v : Value} {g : Nat} {r : Rw} {y : Bool}
theorem RpS.ext (h : RpS w W x u g r y v) (hE : Ext W W') : RpS w W' x u g r y v := ⟨h.1.trans hE, h.2.1, hE.row h.2.2.1, hE.row h.2.2.2.1, hE.row h.2.2.2.2.1, hE.row h.2.2.2.2.2⟩
theorem RpS.put (h : RpS w W x u g r y v) (k : Nat) (z : Value) {y' : Bool} {v' : Value} (hb : (reH 0 y v).setIfInBounds k z = reH 0 y' v') : RpS w (W.setCell ⟨g + 1, k, none⟩ z) x u g r y' v' := by
  obtain ⟨h1, h2, h3, h4, h5, h6⟩ := h
  refine ⟨h1.setCell (by show w.heap.size ≤ g + 1; omega) _, h2, (Below.heap_setCell _ _ _ _ (by simp; omega)).trans h3, (Below.heap_setCell _ _ _ _ (by simp; omega)).trans h4, (Below.heap_setCell _ _ _ _ (by simp)).trans h5, ?_⟩
  rw [setCell_eq_setRow _ _ _ _ _ _ _ h6, setRow_heap _ _ _ _ _ _ h6, hb]
theorem RpS.start {V w1 : World} (hE0 : Ext w V) (hs : w.heap.size + 2 ≤ V.heap.size) (h1 : V.heap[w.heap.size]? = some (.cells (x.row u) 66 (0, 0))) (h2 : V.heap[w.heap.size + 1]? = some (.cells zRe 74 (0, 0))) (hE : Ext V w1) (r : Rw) : RpS w ((w1.alloc (.cells #[.string r.key, .string r.val] 84)).alloc (.cells #[.int .i64 0, .bool false, .slice none 0 0] 74)) x u w1.heap.size r false (.slice none 0 0) := by
  have hz := hE.size
  refine ⟨((hE0.trans hE).alloc _).alloc _, by omega, ((hE.alloc _).alloc _).row h1, ((hE.alloc _).alloc _).row h2, ((Ext.refl _).alloc _).row (heap_alloc_new w1 _), ?_⟩
  have h3 := heap_alloc_new (w1.alloc (.cells #[.string r.key, .string r.val] 84)) (.cells #[.int .i64 0, .bool false, .slice none 0 0] 74)
  rw [show (w1.alloc (.cells #[.string r.key, .string r.val] 84)).heap.size = w1.heap.size + 1 by simp] at h3
  exact h3
theorem RpS.cells (h : RpS w W x u g r y v) : W.heap[w.heap.size + 1]? = some (.cells zRe 74 (0, 0)) ∧ W.frozen? ⟨g + 1, 1, none⟩ = false ∧ W.frozen? ⟨g + 1, 2, none⟩ = false := ⟨h.2.2.2.1, fz h.2.2.2.2.2, fz h.2.2.2.2.2⟩
/-- Rows told are in no block of a reply. -/
theorem own_re {W W' : World} {base n k : Nat} {v : Value} {xs : List Value} {cs : Array Value} (ho : OwnC W base 84 2 v n xs) (hk : W.heap[k]? = some (.cells cs 74 (0, 0))) (hO : OffB (· = k) W W') : OwnC W' base 84 2 v n xs := by
  refine ho.offB hO (fun q hq hB => ?_)
  have hB : q = k := hB
  obtain ⟨c, hc⟩ := own_ty ho hq
  rw [hB, hk] at hc
  injection hc with hc
  injection hc with _ hc
  revert hc; decide
theorem RpS.fin {a : Option Addr} {n c : Nat} {xs : List Value} (h : RpS w W x u g r y (.slice a n c)) (ho : OwnC W w.heap.size 84 2 (.slice a n c) n xs) : (W.setRow (w.heap.size + 1) (reH 0 y (.slice a n c))).heap[w.heap.size + 1]? = some (.cells (reH 0 y (.slice a n c)) 74 (0, 0)) ∧ OwnC (W.setRow (w.heap.size + 1) (reH 0 y (.slice a n c))) w.heap.size 84 2 (.slice a n c) n xs ∧ Ext w (W.setRow (w.heap.size + 1) (reH 0 y (.slice a n c))) := by
  obtain ⟨h1, h2, h3, h4, h5, h6⟩ := h
  exact ⟨by rw [setRow_heap _ _ _ _ _ _ h4], own_re ho h4 ⟨rfl, rfl, rfl, by simp, fun k _ hq => setRow_other _ _ _ _ hq⟩, h1.setRow (by omega) _⟩
end
/-- A reply without rows. -/
def YesE (b : Bool) (w : World) (e : Ending) (w' : World) : Prop := e = .returned (.agg (reH 0 b (.slice none 0 0))) ∧ Ext w w'
theorem YesE.twin {b : Bool} {w w' : World} {e : Ending} (h : YesE b w e w') : TwinE 0 b [] w e w' := ⟨none, 0, h.1, OwnC.nil _ _ _ _, h.2⟩
section
variable {base st : Nat} {w : World} {rows : List Rw} {sd : List Sa}
theorem replyR_put (h : RefM base w st rows sd) (x : Ak) (a : Option Addr) (n cap : Nat) (hk : x.kind = 1) : Calls Tryz.prog 105 #[.pointer (some ⟨st, 0, none⟩), .agg (x.row (.slice a n cap))] w (YesE true w) := by
  obtain ⟨V, hV⟩ : ∃ W, W = (w.alloc (.cells (x.row (.slice a n cap)) 66)).alloc (.cells zRe 74) := ⟨_, rfl⟩
  have hE0 : Ext w V := by rw [hV]; exact ((Ext.refl _).alloc _).alloc _
  have hVs : w.heap.size + 2 ≤ V.heap.size := by rw [hV]; simp
  have hVx : V.heap[w.heap.size]? = some (.cells (x.row (.slice a n cap)) 66 (0, 0)) := by rw [hV]; exact ((Ext.refl _).alloc _).row (heap_alloc_new w _)
  have hVr : V.heap[w.heap.size + 1]? = some (.cells zRe 74 (0, 0)) := by
    have h1 := heap_alloc_new (w.alloc (.cells (x.row (.slice a n cap)) 66)) (.cells zRe 74)
    rw [show (w.alloc (.cells (x.row (.slice a n cap)) 66)).heap.size = w.heap.size + 1 by simp] at h1
    rw [hV]; exact h1
  have hget := Lib.hid (getR_any (h.ext hE0) x.key)
  have h' := Lib.hid h
  obtain ⟨o, ho⟩ : ∃ o, o = findW rows x.key := ⟨_, rfl⟩
  rw [← ho] at hget
  try rw [← ho]
  have ho' := Lib.hid ho
  obtain ⟨x0, x1, x2, x3, x4, x5, x6, x7⟩ := askc hVx
  have hst := Lib.hid (fun (w1 : World) (hE1 : Ext V w1) (r : Rw) => RpS.start hE0 hVs hVx hVr hE1 r)
  have hV' := Lib.hid hV
  have hk' := Lib.hid hk
  clear h hV hVx hVr hk ho hVs
  unfold Ak.row zRe at hV'
  unfold Ak.row
  go_enter Tryz.func105, Tryz.ntmps105
  go_upto_region 1 with fail
  rw [← hV'.out]
  go_wp2_with fail
  refine hget.out.mono ?_
  rintro e w1 ⟨rfl, hE1⟩
  obtain ⟨r, hr⟩ : ∃ r, r = o.getD zRw := ⟨_, rfl⟩
  obtain ⟨b, hb⟩ : ∃ b, b = o.isSome := ⟨_, rfl⟩
  rw [← hr, ← hb]
  have hr' := Lib.hid hr
  have hb' := Lib.hid hb
  have hS := hst.out w1 hE1 r
  obtain ⟨g, hg⟩ : ∃ g, g = w1.heap.size := ⟨_, rfl⟩
  have hg' := Lib.hid hg
  clear hr hb hget x0 x1 x2 x3 x4 x5 x6 x7 hst hV' hg
  unfold rowR
  go_upto_region 3 with fail
  generalize World.alloc _ _ = W2 at hS ⊢
  rw [← hg'.out] at hS ⊢
  clear hE1
  have hS2 := Lib.hid hS
  clear hS
  obtain ⟨x0, x1, x2, x3, x4, x5, x6, x7⟩ := askc hS2.out.2.2.1
  obtain ⟨r0, r1⟩ := row_cells hS2.out.2.2.2.2.1
  obtain ⟨y0, y1, y2⟩ := re_cells hS2.out.2.2.2.2.2
  obtain ⟨_, z1, z2⟩ := hS2.out.cells
  rw [hk'.out] at x0
  go_upto_region 21 with fail
  clear x0 x1 x2 x3 x4 x5 x6 x7 r0 r1 y0 y1 y2 z1 z2
  have hS3 := hS2.out.put 1 (.bool true) (y' := true) (v' := .slice none 0 0) rfl
  generalize World.setCell _ _ _ = W3 at hS3 ⊢
  have hS4 := Lib.hid hS3
  clear hS3
  obtain ⟨y0, y1, y2⟩ := re_cells hS4.out.2.2.2.2.2
  have hR3 := hS4.out.cells.1
  obtain ⟨hset, hown3, hEf⟩ := hS4.out.fin (show OwnC _ w.heap.size 84 2 (.slice none 0 0) 0 [] from OwnC.nil _ _ _ _)
  have hset' := Lib.hid hset
  have hown3' := Lib.hid hown3
  have hEf' := Lib.hid hEf
  clear hset hown3 hEf
  go_wp2_with (first | (refine wpList_store_row (by rfl) 74 (.tmp 4) (.tmp 98) (by rfl) (w.heap.size + 1) (reH 0 true (.slice none 0 0)) (by rfl) (by rfl) 74 zRe hR3 (by exact info_reply) (by rfl) (reH_one _ _ _ _ _) ?_) | fail)
  generalize World.setRow _ _ _ = Wf at hset' hown3' hEf' ⊢
  obtain ⟨c0, c1, c2'⟩ := re_cells hset'.out
  exact bodyPost_ret (v := .agg (reH 0 true (.slice none 0 0))) (by simp [results, Tryz.results105, go_sem, c0, c1, c2', reH]) rfl (⟨rfl, hEf'.out⟩)
theorem replyR_batch (h : RefM base w st rows sd) (x : Ak) (a : Option Addr) (n cap : Nat) (hk : x.kind = 4) : Calls Tryz.prog 105 #[.pointer (some ⟨st, 0, none⟩), .agg (x.row (.slice a n cap))] w (YesE true w) := by
  obtain ⟨V, hV⟩ : ∃ W, W = (w.alloc (.cells (x.row (.slice a n cap)) 66)).alloc (.cells zRe 74) := ⟨_, rfl⟩
  have hE0 : Ext w V := by rw [hV]; exact ((Ext.refl _).alloc _).alloc _
  have hVs : w.heap.size + 2 ≤ V.heap.size := by rw [hV]; simp
  have hVx : V.heap[w.heap.size]? = some (.cells (x.row (.slice a n cap)) 66 (0, 0)) := by rw [hV]; exact ((Ext.refl _).alloc _).row (heap_alloc_new w _)
  have hVr : V.heap[w.heap.size + 1]? = some (.cells zRe 74 (0, 0)) := by
    have h1 := heap_alloc_new (w.alloc (.cells (x.row (.slice a n cap)) 66)) (.cells zRe 74)
    rw [show (w.alloc (.cells (x.row (.slice a n cap)) 66)).heap.size = w.heap.size + 1 by simp] at h1
    rw [hV]; exact h1
  have hget := Lib.hid (getR_any (h.ext hE0) x.key)
  have h' := Lib.hid h
  obtain ⟨o, ho⟩ : ∃ o, o = findW rows x.key := ⟨_, rfl⟩
  rw [← ho] at hget
  try rw [← ho]
  have ho' := Lib.hid ho
  obtain ⟨x0, x1, x2, x3, x4, x5, x6, x7⟩ := askc hVx
  have hst := Lib.hid (fun (w1 : World) (hE1 : Ext V w1) (r : Rw) => RpS.start hE0 hVs hVx hVr hE1 r)
  have hV' := Lib.hid hV
  have hk' := Lib.hid hk
  clear h hV hVx hVr hk ho hVs
  unfold Ak.row zRe at hV'
  unfold Ak.row
  go_enter Tryz.func105, Tryz.ntmps105
  go_upto_region 1 with fail
  rw [← hV'.out]
  go_wp2_with fail
  refine hget.out.mono ?_
  rintro e w1 ⟨rfl, hE1⟩
  obtain ⟨r, hr⟩ : ∃ r, r = o.getD zRw := ⟨_, rfl⟩
  obtain ⟨b, hb⟩ : ∃ b, b = o.isSome := ⟨_, rfl⟩
  rw [← hr, ← hb]
  have hr' := Lib.hid hr
  have hb' := Lib.hid hb
  have hS := hst.out w1 hE1 r
  obtain ⟨g, hg⟩ : ∃ g, g = w1.heap.size := ⟨_, rfl⟩
  have hg' := Lib.hid hg
  clear hr hb hget x0 x1 x2 x3 x4 x5 x6 x7 hst hV' hg
  unfold rowR
  go_upto_region 3 with fail
  generalize World.alloc _ _ = W2 at hS ⊢
  rw [← hg'.out] at hS ⊢
  clear hE1
  have hS2 := Lib.hid hS
  clear hS
  obtain ⟨x0, x1, x2, x3, x4, x5, x6, x7⟩ := askc hS2.out.2.2.1
  obtain ⟨r0, r1⟩ := row_cells hS2.out.2.2.2.2.1
  obtain ⟨y0, y1, y2⟩ := re_cells hS2.out.2.2.2.2.2
  obtain ⟨_, z1, z2⟩ := hS2.out.cells
  rw [hk'.out] at x0
  go_upto_region 21 with fail
  clear x0 x1 x2 x3 x4 x5 x6 x7 r0 r1 y0 y1 y2 z1 z2
  have hS3 := hS2.out.put 1 (.bool true) (y' := true) (v' := .slice none 0 0) rfl
  generalize World.setCell _ _ _ = W3 at hS3 ⊢
  have hS4 := Lib.hid hS3
  clear hS3
  obtain ⟨y0, y1, y2⟩ := re_cells hS4.out.2.2.2.2.2
  have hR3 := hS4.out.cells.1
  obtain ⟨hset, hown3, hEf⟩ := hS4.out.fin (show OwnC _ w.heap.size 84 2 (.slice none 0 0) 0 [] from OwnC.nil _ _ _ _)
  have hset' := Lib.hid hset
  have hown3' := Lib.hid hown3
  have hEf' := Lib.hid hEf
  clear hset hown3 hEf
  go_wp2_with (first | (refine wpList_store_row (by rfl) 74 (.tmp 4) (.tmp 98) (by rfl) (w.heap.size + 1) (reH 0 true (.slice none 0 0)) (by rfl) (by rfl) 74 zRe hR3 (by exact info_reply) (by rfl) (reH_one _ _ _ _ _) ?_) | fail)
  generalize World.setRow _ _ _ = Wf at hset' hown3' hEf' ⊢
  obtain ⟨c0, c1, c2'⟩ := re_cells hset'.out
  exact bodyPost_ret (v := .agg (reH 0 true (.slice none 0 0))) (by simp [results, Tryz.results105, go_sem, c0, c1, c2', reH]) rfl (⟨rfl, hEf'.out⟩)
theorem replyR_del (h : RefM base w st rows sd) (x : Ak) (a : Option Addr) (n cap : Nat) (hk : x.kind = 2) : Calls Tryz.prog 105 #[.pointer (some ⟨st, 0, none⟩), .agg (x.row (.slice a n cap))] w (YesE (findW rows x.key).isSome w) := by
  obtain ⟨V, hV⟩ : ∃ W, W = (w.alloc (.cells (x.row (.slice a n cap)) 66)).alloc (.cells zRe 74) := ⟨_, rfl⟩
  have hE0 : Ext w V := by rw [hV]; exact ((Ext.refl _).alloc _).alloc _
  have hVs : w.heap.size + 2 ≤ V.heap.size := by rw [hV]; simp
  have hVx : V.heap[w.heap.size]? = some (.cells (x.row (.slice a n cap)) 66 (0, 0)) := by rw [hV]; exact ((Ext.refl _).alloc _).row (heap_alloc_new w _)
  have hVr : V.heap[w.heap.size + 1]? = some (.cells zRe 74 (0, 0)) := by
    have h1 := heap_alloc_new (w.alloc (.cells (x.row (.slice a n cap)) 66)) (.cells zRe 74)
    rw [show (w.alloc (.cells (x.row (.slice a n cap)) 66)).heap.size = w.heap.size + 1 by simp] at h1
    rw [hV]; exact h1
  have hget := Lib.hid (getR_any (h.ext hE0) x.key)
  have h' := Lib.hid h
  obtain ⟨o, ho⟩ : ∃ o, o = findW rows x.key := ⟨_, rfl⟩
  rw [← ho] at hget
  try rw [← ho]
  have ho' := Lib.hid ho
  obtain ⟨x0, x1, x2, x3, x4, x5, x6, x7⟩ := askc hVx
  have hst := Lib.hid (fun (w1 : World) (hE1 : Ext V w1) (r : Rw) => RpS.start hE0 hVs hVx hVr hE1 r)
  have hV' := Lib.hid hV
  have hk' := Lib.hid hk
  clear h hV hVx hVr hk ho hVs
  unfold Ak.row zRe at hV'
  unfold Ak.row
  go_enter Tryz.func105, Tryz.ntmps105
  go_upto_region 1 with fail
  rw [← hV'.out]
  go_wp2_with fail
  refine hget.out.mono ?_
  rintro e w1 ⟨rfl, hE1⟩
  obtain ⟨r, hr⟩ : ∃ r, r = o.getD zRw := ⟨_, rfl⟩
  obtain ⟨b, hb⟩ : ∃ b, b = o.isSome := ⟨_, rfl⟩
  rw [← hr, ← hb]
  have hr' := Lib.hid hr
  have hb' := Lib.hid hb
  have hS := hst.out w1 hE1 r
  obtain ⟨g, hg⟩ : ∃ g, g = w1.heap.size := ⟨_, rfl⟩
  have hg' := Lib.hid hg
  clear hr hb hget x0 x1 x2 x3 x4 x5 x6 x7 hst hV' hg
  unfold rowR
  go_upto_region 3 with fail
  generalize World.alloc _ _ = W2 at hS ⊢
  rw [← hg'.out] at hS ⊢
  clear hE1
  have hS2 := Lib.hid hS
  clear hS
  obtain ⟨x0, x1, x2, x3, x4, x5, x6, x7⟩ := askc hS2.out.2.2.1
  obtain ⟨r0, r1⟩ := row_cells hS2.out.2.2.2.2.1
  obtain ⟨y0, y1, y2⟩ := re_cells hS2.out.2.2.2.2.2
  obtain ⟨_, z1, z2⟩ := hS2.out.cells
  rw [hk'.out] at x0
  go_upto_region 21 with fail
  clear x0 x1 x2 x3 x4 x5 x6 x7 r0 r1 y0 y1 y2 z1 z2
  have hS3 := hS2.out.put 1 (.bool b) (y' := b) (v' := .slice none 0 0) rfl
  generalize World.setCell _ _ _ = W3 at hS3 ⊢
  have hS4 := Lib.hid hS3
  clear hS3
  obtain ⟨y0, y1, y2⟩ := re_cells hS4.out.2.2.2.2.2
  have hR3 := hS4.out.cells.1
  obtain ⟨hset, hown3, hEf⟩ := hS4.out.fin (show OwnC _ w.heap.size 84 2 (.slice none 0 0) 0 [] from OwnC.nil _ _ _ _)
  have hset' := Lib.hid hset
  have hown3' := Lib.hid hown3
  have hEf' := Lib.hid hEf
  clear hset hown3 hEf
  go_wp2_with (first | (refine wpList_store_row (by rfl) 74 (.tmp 4) (.tmp 98) (by rfl) (w.heap.size + 1) (reH 0 b (.slice none 0 0)) (by rfl) (by rfl) 74 zRe hR3 (by exact info_reply) (by rfl) (reH_one _ _ _ _ _) ?_) | fail)
  generalize World.setRow _ _ _ = Wf at hset' hown3' hEf' ⊢
  obtain ⟨c0, c1, c2'⟩ := re_cells hset'.out
  exact bodyPost_ret (v := .agg (reH 0 b (.slice none 0 0))) (by simp [results, Tryz.results105, go_sem, c0, c1, c2', reH]) rfl (⟨by rw [hb'.out], hEf'.out⟩)
theorem replyR_cas (h : RefM base w st rows sd) (x : Ak) (a : Option Addr) (n cap : Nat) (hk : x.kind = 3) : Calls Tryz.prog 105 #[.pointer (some ⟨st, 0, none⟩), .agg (x.row (.slice a n cap))] w (YesE (casW (findW rows x.key) x) w) := by
  obtain ⟨V, hV⟩ : ∃ W, W = (w.alloc (.cells (x.row (.slice a n cap)) 66)).alloc (.cells zRe 74) := ⟨_, rfl⟩
  have hE0 : Ext w V := by rw [hV]; exact ((Ext.refl _).alloc _).alloc _
  have hVs : w.heap.size + 2 ≤ V.heap.size := by rw [hV]; simp
  have hVx : V.heap[w.heap.size]? = some (.cells (x.row (.slice a n cap)) 66 (0, 0)) := by rw [hV]; exact ((Ext.refl _).alloc _).row (heap_alloc_new w _)
  have hVr : V.heap[w.heap.size + 1]? = some (.cells zRe 74 (0, 0)) := by
    have h1 := heap_alloc_new (w.alloc (.cells (x.row (.slice a n cap)) 66)) (.cells zRe 74)
    rw [show (w.alloc (.cells (x.row (.slice a n cap)) 66)).heap.size = w.heap.size + 1 by simp] at h1
    rw [hV]; exact h1
  have hget := Lib.hid (getR_any (h.ext hE0) x.key)
  have h' := Lib.hid h
  obtain ⟨o, ho⟩ : ∃ o, o = findW rows x.key := ⟨_, rfl⟩
  rw [← ho] at hget
  try rw [← ho]
  have ho' := Lib.hid ho
  obtain ⟨x0, x1, x2, x3, x4, x5, x6, x7⟩ := askc hVx
  have hst := Lib.hid (fun (w1 : World) (hE1 : Ext V w1) (r : Rw) => RpS.start hE0 hVs hVx hVr hE1 r)
  have hV' := Lib.hid hV
  have hk' := Lib.hid hk
  clear h hV hVx hVr hk ho hVs
  unfold Ak.row zRe at hV'
  unfold Ak.row
  go_enter Tryz.func105, Tryz.ntmps105
  go_upto_region 1 with fail
  rw [← hV'.out]
  go_wp2_with fail
  refine hget.out.mono ?_
  rintro e w1 ⟨rfl, hE1⟩
  obtain ⟨r, hr⟩ : ∃ r, r = o.getD zRw := ⟨_, rfl⟩
  obtain ⟨b, hb⟩ : ∃ b, b = o.isSome := ⟨_, rfl⟩
  rw [← hr, ← hb]
  have hr' := Lib.hid hr
  have hb' := Lib.hid hb
  have hS := hst.out w1 hE1 r
  obtain ⟨g, hg⟩ : ∃ g, g = w1.heap.size := ⟨_, rfl⟩
  have hg' := Lib.hid hg
  clear hr hb hget x0 x1 x2 x3 x4 x5 x6 x7 hst hV' hg
  unfold rowR
  go_upto_region 3 with fail
  generalize World.alloc _ _ = W2 at hS ⊢
  rw [← hg'.out] at hS ⊢
  clear hE1
  have hS2 := Lib.hid hS
  clear hS
  obtain ⟨x0, x1, x2, x3, x4, x5, x6, x7⟩ := askc hS2.out.2.2.1
  obtain ⟨r0, r1⟩ := row_cells hS2.out.2.2.2.2.1
  obtain ⟨y0, y1, y2⟩ := re_cells hS2.out.2.2.2.2.2
  obtain ⟨_, z1, z2⟩ := hS2.out.cells
  rw [hk'.out] at x0
  have hrg := ask_rng hS2.out.2.2.1
  have hmd := Lib.hid (madeR_any (h'.out.ext hS2.out.1) x a n cap)
  rw [← ho'.out] at hmd
  obtain ⟨Y, hY⟩ : ∃ Y, Y = casW o x := ⟨_, rfl⟩
  rw [← hY] at hmd
  have hY' := Lib.hid hY
  clear hY
  unfold Ak.row at hmd hrg
  go_wp2_with (first | (refine wpList_load_mid (by rfl) 66 (.tmp 3) (by rfl) w.heap.size 0 (by rfl) (x.row (.slice a n cap)).toList _ hrg Tryz.underlying66 rfl (by rw [ask_ln]; exact ask_inf) ?_) | fail)
  refine hmd.out.mono ?_
  rintro e w3 ⟨rfl, hE3⟩
  clear hrg hmd
  have hS5 := Lib.hid (hS2.out.ext hE3)
  clear hS2 hE3
  clear x0 x1 x2 x3 x4 x5 x6 x7 r0 r1 y0 y1 y2 z1 z2
  obtain ⟨x0, x1, x2, x3, x4, x5, x6, x7⟩ := askc hS5.out.2.2.1
  obtain ⟨r0, r1⟩ := row_cells hS5.out.2.2.2.2.1
  obtain ⟨y0, y1, y2⟩ := re_cells hS5.out.2.2.2.2.2
  obtain ⟨_, z1, z2⟩ := hS5.out.cells
  rw [hk'.out] at x0
  go_upto_region 21 with fail
  clear x0 x1 x2 x3 x4 x5 x6 x7 r0 r1 y0 y1 y2 z1 z2
  have hS3 := hS5.out.put 1 (.bool Y) (y' := Y) (v' := .slice none 0 0) rfl
  generalize World.setCell _ _ _ = W3 at hS3 ⊢
  have hS4 := Lib.hid hS3
  clear hS3
  obtain ⟨y0, y1, y2⟩ := re_cells hS4.out.2.2.2.2.2
  have hR3 := hS4.out.cells.1
  obtain ⟨hset, hown3, hEf⟩ := hS4.out.fin (show OwnC _ w.heap.size 84 2 (.slice none 0 0) 0 [] from OwnC.nil _ _ _ _)
  have hset' := Lib.hid hset
  have hown3' := Lib.hid hown3
  have hEf' := Lib.hid hEf
  clear hset hown3 hEf
  go_wp2_with (first | (refine wpList_store_row (by rfl) 74 (.tmp 4) (.tmp 98) (by rfl) (w.heap.size + 1) (reH 0 Y (.slice none 0 0)) (by rfl) (by rfl) 74 zRe hR3 (by exact info_reply) (by rfl) (reH_one _ _ _ _ _) ?_) | fail)
  generalize World.setRow _ _ _ = Wf at hset' hown3' hEf' ⊢
  obtain ⟨c0, c1, c2'⟩ := re_cells hset'.out
  exact bodyPost_ret (v := .agg (reH 0 Y (.slice none 0 0))) (by simp [results, Tryz.results105, go_sem, c0, c1, c2', reH]) rfl (⟨by rw [hY'.out], hEf'.out⟩)
theorem replyR_get (h : RefM base w st rows sd) (x : Ak) (a : Option Addr) (n cap : Nat) (hk : x.kind = 5) : Calls Tryz.prog 105 #[.pointer (some ⟨st, 0, none⟩), .agg (x.row (.slice a n cap))] w (TwinE 0 (findW rows x.key).isSome (findW rows x.key).toList w) := by
  obtain ⟨V, hV⟩ : ∃ W, W = (w.alloc (.cells (x.row (.slice a n cap)) 66)).alloc (.cells zRe 74) := ⟨_, rfl⟩
  have hE0 : Ext w V := by rw [hV]; exact ((Ext.refl _).alloc _).alloc _
  have hVs : w.heap.size + 2 ≤ V.heap.size := by rw [hV]; simp
  have hVx : V.heap[w.heap.size]? = some (.cells (x.row (.slice a n cap)) 66 (0, 0)) := by rw [hV]; exact ((Ext.refl _).alloc _).row (heap_alloc_new w _)
  have hVr : V.heap[w.heap.size + 1]? = some (.cells zRe 74 (0, 0)) := by
    have h1 := heap_alloc_new (w.alloc (.cells (x.row (.slice a n cap)) 66)) (.cells zRe 74)
    rw [show (w.alloc (.cells (x.row (.slice a n cap)) 66)).heap.size = w.heap.size + 1 by simp] at h1
    rw [hV]; exact h1
  have hget := Lib.hid (getR_any (h.ext hE0) x.key)
  have h' := Lib.hid h
  obtain ⟨o, ho⟩ : ∃ o, o = findW rows x.key := ⟨_, rfl⟩
  rw [← ho] at hget
  try rw [← ho]
  have ho' := Lib.hid ho
  obtain ⟨x0, x1, x2, x3, x4, x5, x6, x7⟩ := askc hVx
  have hst := Lib.hid (fun (w1 : World) (hE1 : Ext V w1) (r : Rw) => RpS.start hE0 hVs hVx hVr hE1 r)
  have hV' := Lib.hid hV
  have hk' := Lib.hid hk
  clear h hV hVx hVr hk ho hVs
  unfold Ak.row zRe at hV'
  unfold Ak.row
  go_enter Tryz.func105, Tryz.ntmps105
  go_upto_region 1 with fail
  rw [← hV'.out]
  go_wp2_with fail
  refine hget.out.mono ?_
  rintro e w1 ⟨rfl, hE1⟩
  obtain ⟨r, hr⟩ : ∃ r, r = o.getD zRw := ⟨_, rfl⟩
  obtain ⟨b, hb⟩ : ∃ b, b = o.isSome := ⟨_, rfl⟩
  rw [← hr, ← hb]
  have hr' := Lib.hid hr
  have hb' := Lib.hid hb
  have hS := hst.out w1 hE1 r
  obtain ⟨g, hg⟩ : ∃ g, g = w1.heap.size := ⟨_, rfl⟩
  have hg' := Lib.hid hg
  clear hr hb hget x0 x1 x2 x3 x4 x5 x6 x7 hst hV' hg
  unfold rowR
  go_upto_region 3 with fail
  generalize World.alloc _ _ = W2 at hS ⊢
  rw [← hg'.out] at hS ⊢
  clear hE1
  have hS2 := Lib.hid hS
  clear hS
  obtain ⟨x0, x1, x2, x3, x4, x5, x6, x7⟩ := askc hS2.out.2.2.1
  obtain ⟨r0, r1⟩ := row_cells hS2.out.2.2.2.2.1
  obtain ⟨y0, y1, y2⟩ := re_cells hS2.out.2.2.2.2.2
  obtain ⟨_, z1, z2⟩ := hS2.out.cells
  rw [hk'.out] at x0
  have hb2 := hb'.out
  have hr2 := hr'.out
  clear hb' hr' ho'
  cases o with
  | none =>
    have hb3 : b = false := hb2
    subst hb3
    clear hb2 hr2
    go_upto_region 21 with fail
    clear x0 x1 x2 x3 x4 x5 x6 x7 r0 r1 y0 y1 y2 z1 z2
    have hS3 := hS2.out.put 1 (.bool false) (y' := false) (v' := .slice none 0 0) rfl
    generalize World.setCell _ _ _ = W3 at hS3 ⊢
    have hS4 := Lib.hid hS3
    clear hS3
    obtain ⟨y0, y1, y2⟩ := re_cells hS4.out.2.2.2.2.2
    have hR3 := hS4.out.cells.1
    obtain ⟨hset, hown3, hEf⟩ := hS4.out.fin (show OwnC _ w.heap.size 84 2 (.slice none 0 0) 0 [] from OwnC.nil _ _ _ _)
    have hset' := Lib.hid hset
    have hown3' := Lib.hid hown3
    have hEf' := Lib.hid hEf
    clear hset hown3 hEf
    go_wp2_with (first | (refine wpList_store_row (by rfl) 74 (.tmp 4) (.tmp 98) (by rfl) (w.heap.size + 1) (reH 0 false (.slice none 0 0)) (by rfl) (by rfl) 74 zRe hR3 (by exact info_reply) (by rfl) (reH_one _ _ _ _ _) ?_) | fail)
    generalize World.setRow _ _ _ = Wf at hset' hown3' hEf' ⊢
    obtain ⟨c0, c1, c2'⟩ := re_cells hset'.out
    exact bodyPost_ret (v := .agg (reH 0 false (.slice none 0 0))) (by simp [results, Tryz.results105, go_sem, c0, c1, c2', reH]) rfl (⟨none, 0, rfl, hown3'.out, hEf'.out⟩)
  | some q =>
    have hb3 : b = true := hb2
    have hr3 : r = q := hr2
    subst hb3 hr3
    clear hb2 hr2
    go_upto_region 14 with fail
    clear x0 x1 x2 x3 x4 x5 x6 x7 r0 r1 y0 y1 y2 z1 z2
    have hS3 := hS2.out.put 1 (.bool true) (y' := true) (v' := .slice none 0 0) rfl
    generalize World.setCell _ _ _ = W3 at hS3 ⊢
    have hS4 := Lib.hid hS3
    clear hS3
    obtain ⟨x0, x1, x2, x3, x4, x5, x6, x7⟩ := askc hS4.out.2.2.1
    obtain ⟨r0, r1⟩ := row_cells hS4.out.2.2.2.2.1
    obtain ⟨y0, y1, y2⟩ := re_cells hS4.out.2.2.2.2.2
    obtain ⟨_, z1, z2⟩ := hS4.out.cells
    have hS5 := Lib.hid (hS4.out.ext ((Ext.refl _).alloc (.cells #[.string r.key, .string r.val] 84)))
    have hnw := heap_alloc_new W3 (.cells #[.string r.key, .string r.val] 84)
    have hsz := hS4.out.1.size
    have hown : Hid (OwnC (W3.alloc (.cells #[.string r.key, .string r.val] 84)) w.heap.size 84 2 (.slice (some ⟨W3.heap.size, 0, none⟩) 1 1) 1 ([r].flatMap rwL)) := Lib.hid ⟨rfl, .inr ⟨W3.heap.size, 1, _, rfl, hsz, hnw, Nat.le_refl _, by unfold maxLen; omega, Nat.le_refl _, rfl⟩⟩
    clear hnw
    have z2' : (W3.alloc (.cells #[.string r.key, .string r.val] 84)).frozen? ⟨g + 1, 2, none⟩ = false := hS5.out.cells.2.2
    have y2' : (W3.alloc (.cells #[.string r.key, .string r.val] 84)).cell? ⟨g + 1, 2, none⟩ = some (.slice none 0 0) := (re_cells hS5.out.2.2.2.2.2).2.2
    go_upto_region 21 with fail
    clear z2' y2'
    clear x0 x1 x2 x3 x4 x5 x6 x7 r0 r1 y0 y1 y2 z1 z2
    have hS6 := hS5.out.put 2 (.slice (some ⟨W3.heap.size, 0, none⟩) 1 1) (y' := true) (v' := .slice (some ⟨W3.heap.size, 0, none⟩) 1 1) rfl
    have hown2 := own_re hown.out hS5.out.2.2.2.2.2 (OffB.setCell (B := (· = g + 1)) (OffB.refl _) (p := ⟨g + 1, 2, none⟩) rfl (.slice (some ⟨W3.heap.size, 0, none⟩) 1 1))
    generalize World.setCell _ _ _ = W4 at hS6 hown2 ⊢
    have hS7 := Lib.hid hS6
    have hown4 := Lib.hid hown2
    clear hS6 hown2 hown hS5
    obtain ⟨y0, y1, y2⟩ := re_cells hS7.out.2.2.2.2.2
    have hR3 := hS7.out.cells.1
    obtain ⟨hset, hown3, hEf⟩ := hS7.out.fin hown4.out
    have hset' := Lib.hid hset
    have hown3' := Lib.hid hown3
    have hEf' := Lib.hid hEf
    clear hset hown3 hEf
    go_wp2_with (first | (refine wpList_store_row (by rfl) 74 (.tmp 4) (.tmp 98) (by rfl) (w.heap.size + 1) (reH 0 true (.slice (some ⟨W3.heap.size, 0, none⟩) 1 1)) (by rfl) (by rfl) 74 zRe hR3 (by exact info_reply) (by rfl) (reH_one _ _ _ _ _) ?_) | fail)
    generalize World.setRow _ _ _ = Wf at hset' hown3' hEf' ⊢
    obtain ⟨c0, c1, c2'⟩ := re_cells hset'.out
    exact bodyPost_ret (v := .agg (reH 0 true (.slice (some ⟨W3.heap.size, 0, none⟩) 1 1))) (by simp [results, Tryz.results105, go_sem, c0, c1, c2', reH]) rfl (⟨some ⟨W3.heap.size, 0, none⟩, 1, rfl, hown3'.out, hEf'.out⟩)
end
end Go.Proofs.YthageoibkeebhaaGreatDoor
