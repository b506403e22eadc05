/- Several texts in one: TwD TwS. No condition. -/
import Derived.Test.YtmopjmhapeinjaaGreatDoorGrA5
import Derived.Test.YtmopjmhapeinjaaGreatDoorGrB0
import Derived.StillTailTactics
/- A twin of a reply, of what was said. No condition. -/
namespace Go.Proofs.YtmopjmhapeinjaaGreatDoor
open Go.RowKit
set_option maxRecDepth 100000
set_option maxHeartbeats 4000000
theorem TwR.weak {w : World} {base base' b n cap : Nat} {l : List Rw} (h : TwR w base' b n cap l) (hb : base ≤ base') : TwR w base b n cap l := OwnC.weak h hb
def TwRpE (i : Int) (y : Bool) (l : List Rw) (n : Nat) (w : World) (e : Ending) (w' : World) : Prop := ∃ b cap, e = .returned (.agg (reH i y (.slice (some ⟨b, 0, none⟩) n cap))) ∧ TwR w' w.heap.size b n cap l ∧ Ext w w'
theorem twinRp_any (w : World) (i : Int) (y : Bool) (l : List Rw) (a : Option Addr) (cap n : Nat) (hn : n = l.length) (hr : RowIs w 2 (.slice a n cap) n (l.flatMap rwL)) (hl : n ≤ 50000) : Calls Tryz.prog 43 #[.agg (reH i y (.slice a n cap))] w (TwRpE i y l n w) := by
  obtain ⟨X, hX⟩ : ∃ X, X = w.heap.size := ⟨_, rfl⟩
  obtain ⟨V, hV⟩ : ∃ W, W = (w.alloc (.cells (reH i y (.slice a n cap)) 61)).alloc (.cells zRe 61) := ⟨_, rfl⟩
  have hE0 : Ext w V := by rw [hV]; exact ((Ext.refl _).alloc _).alloc _
  have hxo : Hid (∀ W, OffB (fun k => k = X + 1) V W → W.cell? ⟨X, 0, none⟩ = some (.int .i64 i) ∧ W.cell? ⟨X, 1, none⟩ = some (.bool y) ∧ W.cell? ⟨X, 2, none⟩ = some (.slice a n cap)) := Lib.hid (fun W hE => by
    have h0 : V.heap[X]? = some (.cells (reH i y (.slice a n cap)) 61 (0, 0)) := by rw [hV, hX]; exact ((Ext.refl _).alloc _).row (heap_alloc_new w _)
    have h1 := (hE.block X (Array.getElem?_eq_some_iff.1 h0).1 (fun hB => by have hB : X = X + 1 := hB; omega)).trans h0
    exact re_cells h1)
  have hrow : Hid (∀ W, Ext V W → W.heap[X + 1]? = some (.cells zRe 61 (0, 0))) := Lib.hid (fun W hE => by
    have h1 := heap_alloc_new (w.alloc (.cells (reH i y (.slice a n cap)) 61)) (.cells zRe 61)
    rw [show (w.alloc (.cells (reH i y (.slice a n cap)) 61)).heap.size = X + 1 by rw [hX]; simp] at h1
    exact hE.row (by rw [hV]; exact h1))
  have hth : Hid (∀ W, Ext V W → W.there (X + 1) 0 3) := Lib.hid (fun W hE j hj => by
    have h2 := hrow.out W hE
    exact ⟨by rw [cell_of_row _ _ _ _ _ _ h2, Nat.zero_add, Array.getElem?_eq_getElem (show j < zRe.size from hj)]; rfl, by unfold World.frozen?; rw [h2]; simp⟩)
  have hrun : Hid (∀ W b cap', Ext V W → (storeCells ⟨X + 1, 0, none⟩ (reH i y (.slice (some ⟨b, 0, none⟩) n cap')).toList).run Tryz.prog W = .ok () (W.setCells (X + 1) 0 (reH i y (.slice (some ⟨b, 0, none⟩) n cap')).toList)) := Lib.hid (fun W b cap' hE => run_storeCells_mid W (X + 1) 0 _ (show W.there (X + 1) 0 3 from hth.out W hE) (fun v hv => Array.all_eq_true_iff_forall_mem.1 (reH_one i y (some ⟨b, 0, none⟩) n cap') v (by simpa using hv)))
  have htw : Hid (∀ W, Ext V W → Calls Tryz.prog 41 #[.slice a n cap] W fun e w' => ∃ b cap', e = .returned (.slice (some ⟨b, 0, none⟩) n cap') ∧ TwR w' W.heap.size b n cap' l ∧ Ext W w') := Lib.hid (fun W hE => tRows_any W l a cap n hn (hr.ext (hE0.trans hE)) hl)
  have hVs : Hid (V.heap.size = X + 2) := Lib.hid (by rw [hV, hX]; simp)
  have hV' := Lib.hid hV
  have hX' := Lib.hid hX
  have hsV := hE0.size
  obtain ⟨C, hC⟩ : ∃ C : Nat → Nat → Array Value, ∀ b c, C b c = reH i y (.slice (some ⟨b, 0, none⟩) n c) := ⟨fun b c => reH i y (.slice (some ⟨b, 0, none⟩) n c), fun _ _ => rfl⟩
  have hC' := Lib.hid hC
  have hsz : ∀ b c, (C b c).size = 3 := fun b c => by rw [hC]; rfl
  have hD : ∀ b c, (#[.int .i64 i, .bool y, .slice (some ⟨b, 0, none⟩) n c] : Array Value) = C b c := fun b c => (hC b c).symm
  have hrunC : Hid (∀ W b cap', Ext V W → (storeCells ⟨X + 1, 0, none⟩ (C b cap').toList).run Tryz.prog W = .ok () (W.setCells (X + 1) 0 (C b cap').toList)) := Lib.hid (fun W b c hE => by rw [hC]; exact hrun.out W b c hE)
  clear hr hn hV hX hC
  unfold reH zRe at hV'
  unfold reH
  go_enter Tryz.func43, Tryz.ntmps43
  go_upto_region 1 with fail
  rw [← hV'.out, ← hX'.out]
  go_region_held3 (fun w' => w'.cell? ⟨X, 0, none⟩ = some (.int .i64 i) ∧ w'.cell? ⟨X, 1, none⟩ = some (.bool y) ∧ w'.cell? ⟨X, 2, none⟩ = some (.slice a n cap)) ((refine hxo.out _ ?_; first | exact .of_ext (Ext.refl _).drew | exact .of_ext hV3 | exact OffB.setCells (B := fun k => k = X + 1) (.of_ext hV3) rfl _ _)) (first | (go_at_call 41; refine (htw.out _ (Ext.refl V).drew).mono ?_; rintro e w3 ⟨b, cap', rfl, hT, hE3⟩; have hV3 : Ext V w3 := (Ext.refl V).drew.trans hE3; have hT' := Lib.hid hT; clear hT; have hst := Lib.hid (hrunC.out w3 b cap' hV3)) | (rw [hst.out]; go_simp) | fail)
  all_goals
    have hset : (w3.setCells (X + 1) 0 (C b cap').toList).heap[X + 1]? = some (.cells (reH i y (.slice (some ⟨b, 0, none⟩) n cap')) 61 (0, 0)) := by
      rw [hC'.out, setCells_heap (X + 1) 61 (0, 0) _ 0 w3 _ (hrow.out w3 hV3) (by show 0 + 3 ≤ 3; omega)]
      rfl
    have hOf : OffB (fun k => k = X + 1) w3 (w3.setCells (X + 1) 0 (C b cap').toList) := OffB.setCells (B := fun k => k = X + 1) (OffB.refl _) rfl _ _
    have hE6 : Ext w (w3.setCells (X + 1) 0 (C b cap').toList) := ((OffB.of_ext (hE0.trans hV3)).trans hOf).ext (fun k hk hB => by have hB : k = X + 1 := hB; rw [hX'.out] at hB; omega)
    have hT6 : TwR (w3.setCells (X + 1) 0 (C b cap').toList) w.heap.size b n cap' l := by
      refine TwR.weak (OwnC.offB hT'.out hOf (fun q hq hB => ?_)) hsV
      have h5 := (OwnC.lt hT'.out q hq).1
      have hB : q = X + 1 := hB
      have h6 : V.drew.heap.size = V.heap.size := rfl
      have h7 := hVs.out
      omega
    generalize w3.setCells (X + 1) 0 (C b cap').toList = Wf at *
    obtain ⟨b0, b1, b2⟩ := re_cells hset
    go_wp2_with fail
    exact bodyPost_ret (v := .agg (reH i y (.slice (some ⟨b, 0, none⟩) n cap'))) (by simp [results, Tryz.results43, go_sem, b0, b1, b2, reH]) rfl ⟨b, cap', rfl, hT6, hE6⟩
def zSaid : Array Value := #[.int .u8 0, .int .u32 0, .int .i64 0, .bool false, .slice none 0 0]
def TwSdE (x : Sa) (n : Nat) (w : World) (e : Ending) (w' : World) : Prop := ∃ b cap, e = .returned (.agg (saRow x (some ⟨b, 0, none⟩) n cap)) ∧ TwR w' w.heap.size b n cap x.rows ∧ Ext w w'
theorem twinSd_any (w : World) (x : Sa) (a : Option Addr) (cap n : Nat) (hn : n = x.rows.length) (hr : RowIs w 2 (.slice a n cap) n (x.rows.flatMap rwL)) (hl : n ≤ 50000) : Calls Tryz.prog 116 #[.agg (saRow x a n cap)] w (TwSdE x n w) := by
  obtain ⟨X, hX⟩ : ∃ X, X = w.heap.size := ⟨_, rfl⟩
  obtain ⟨V, hV⟩ : ∃ W, W = (w.alloc (.cells (saRow x a n cap) 136)).alloc (.cells zSaid 136) := ⟨_, rfl⟩
  have hE0 : Ext w V := by rw [hV]; exact ((Ext.refl _).alloc _).alloc _
  have hxo : Hid (∀ W, OffB (fun k => k = X + 1) V W → W.cell? ⟨X, 0, none⟩ = some (.int .u8 (x.cl : Int)) ∧ W.cell? ⟨X, 1, none⟩ = some (.int .u32 (x.num : Int)) ∧ W.cell? ⟨X, 2, none⟩ = some (.int .i64 x.e) ∧ W.cell? ⟨X, 3, none⟩ = some (.bool x.yes) ∧ W.cell? ⟨X, 4, none⟩ = some (.slice a n cap)) := Lib.hid (fun W hE => by
    have h0 : V.heap[X]? = some (.cells (saRow x a n cap) 136 (0, 0)) := by rw [hV, hX]; exact ((Ext.refl _).alloc _).row (heap_alloc_new w _)
    have h1 := (hE.block X (Array.getElem?_eq_some_iff.1 h0).1 (fun hB => by have hB : X = X + 1 := hB; omega)).trans h0
    exact sa_cs h1)
  have hrow : Hid (∀ W, Ext V W → W.heap[X + 1]? = some (.cells zSaid 136 (0, 0))) := Lib.hid (fun W hE => by
    have h1 := heap_alloc_new (w.alloc (.cells (saRow x a n cap) 136)) (.cells zSaid 136)
    rw [show (w.alloc (.cells (saRow x a n cap) 136)).heap.size = X + 1 by rw [hX]; simp] at h1
    exact hE.row (by rw [hV]; exact h1))
  have hth : Hid (∀ W, Ext V W → W.there (X + 1) 0 5) := Lib.hid (fun W hE j hj => by
    have h2 := hrow.out W hE
    exact ⟨by rw [cell_of_row _ _ _ _ _ _ h2, Nat.zero_add, Array.getElem?_eq_getElem (show j < zSaid.size from hj)]; rfl, by unfold World.frozen?; rw [h2]; simp⟩)
  have hrun : Hid (∀ W b cap', Ext V W → (storeCells ⟨X + 1, 0, none⟩ (saRow x (some ⟨b, 0, none⟩) n cap').toList).run Tryz.prog W = .ok () (W.setCells (X + 1) 0 (saRow x (some ⟨b, 0, none⟩) n cap').toList)) := Lib.hid (fun W b cap' hE => run_storeCells_mid W (X + 1) 0 _ (show W.there (X + 1) 0 5 from hth.out W hE) (sar_all _ _ _ _))
  have htw : Hid (∀ W, Ext V W → Calls Tryz.prog 43 #[.agg #[.int .i64 x.e, .bool x.yes, .slice a n cap]] W fun e w' => ∃ b cap', e = .returned (.agg #[.int .i64 x.e, .bool x.yes, .slice (some ⟨b, 0, none⟩) n cap']) ∧ TwR w' W.heap.size b n cap' x.rows ∧ Ext W w') := Lib.hid (fun W hE => twinRp_any W x.e x.yes x.rows a cap n hn (hr.ext (hE0.trans hE)) hl)
  have hVs : Hid (V.heap.size = X + 2) := Lib.hid (by rw [hV, hX]; simp)
  have hV' := Lib.hid hV
  have hX' := Lib.hid hX
  have hsV := hE0.size
  obtain ⟨C, hC⟩ : ∃ C : Nat → Nat → Array Value, ∀ b c, C b c = saRow x (some ⟨b, 0, none⟩) n c := ⟨fun b c => saRow x (some ⟨b, 0, none⟩) n c, fun _ _ => rfl⟩
  have hC' := Lib.hid hC
  have hsz : ∀ b c, (C b c).size = 5 := fun b c => by rw [hC]; rfl
  have hD : ∀ b c, (#[.int .u8 (x.cl : Int), .int .u32 (x.num : Int), .int .i64 x.e, .bool x.yes, .slice (some ⟨b, 0, none⟩) n c] : Array Value) = C b c := fun b c => (hC b c).symm
  have hrunC : Hid (∀ W b cap', Ext V W → (storeCells ⟨X + 1, 0, none⟩ (C b cap').toList).run Tryz.prog W = .ok () (W.setCells (X + 1) 0 (C b cap').toList)) := Lib.hid (fun W b c hE => by rw [hC]; exact hrun.out W b c hE)
  clear hr hn hV hX hC
  unfold saRow zSaid at hV'
  unfold saRow
  go_enter Tryz.func116, Tryz.ntmps116
  go_upto_region 1 with fail
  rw [← hV'.out, ← hX'.out]
  go_region_held3 (fun w' => w'.cell? ⟨X, 0, none⟩ = some (.int .u8 (x.cl : Int)) ∧ w'.cell? ⟨X, 1, none⟩ = some (.int .u32 (x.num : Int)) ∧ w'.cell? ⟨X, 2, none⟩ = some (.int .i64 x.e) ∧ w'.cell? ⟨X, 3, none⟩ = some (.bool x.yes) ∧ w'.cell? ⟨X, 4, none⟩ = some (.slice a n cap)) ((refine hxo.out _ ?_; first | exact .of_ext (Ext.refl _).drew | exact .of_ext hV3 | exact OffB.setCells (B := fun k => k = X + 1) (.of_ext hV3) rfl _ _)) (first | (go_at_call 43; refine (htw.out _ (Ext.refl V).drew).mono ?_; rintro e w3 ⟨b, cap', rfl, hT, hE3⟩; have hV3 : Ext V w3 := (Ext.refl V).drew.trans hE3; have hT' := Lib.hid hT; clear hT; have hst := Lib.hid (hrunC.out w3 b cap' hV3)) | (rw [hst.out]; go_simp) | fail)
  all_goals
    have hset : (w3.setCells (X + 1) 0 (C b cap').toList).heap[X + 1]? = some (.cells (saRow x (some ⟨b, 0, none⟩) n cap') 136 (0, 0)) := by
      rw [hC'.out, setCells_heap (X + 1) 136 (0, 0) _ 0 w3 _ (hrow.out w3 hV3) (by show 0 + 5 ≤ 5; omega)]
      rfl
    have hOf : OffB (fun k => k = X + 1) w3 (w3.setCells (X + 1) 0 (C b cap').toList) := OffB.setCells (B := fun k => k = X + 1) (OffB.refl _) rfl _ _
    have hE6 : Ext w (w3.setCells (X + 1) 0 (C b cap').toList) := ((OffB.of_ext (hE0.trans hV3)).trans hOf).ext (fun k hk hB => by have hB : k = X + 1 := hB; rw [hX'.out] at hB; omega)
    have hT6 : TwR (w3.setCells (X + 1) 0 (C b cap').toList) w.heap.size b n cap' x.rows := by
      refine TwR.weak (OwnC.offB hT'.out hOf (fun q hq hB => ?_)) hsV
      have h5 := (OwnC.lt hT'.out q hq).1
      have hB : q = X + 1 := hB
      have h6 : V.drew.heap.size = V.heap.size := rfl
      have h7 := hVs.out
      omega
    generalize w3.setCells (X + 1) 0 (C b cap').toList = Wf at *
    obtain ⟨b0, b1, b2, b3, b4⟩ := sa_cs hset
    go_wp2_with fail
    exact bodyPost_ret (v := .agg (saRow x (some ⟨b, 0, none⟩) n cap')) (by simp [results, Tryz.results116, go_sem, b0, b1, b2, b3, b4, saRow]) rfl ⟨b, cap', rfl, hT6, hE6⟩
end Go.Proofs.YtmopjmhapeinjaaGreatDoor

/- A twin of a list of what was said, with a mark behind. No condition. -/
namespace Go.Proofs.YtmopjmhapeinjaaGreatDoor
open Go.RowKit
set_option maxRecDepth 100000
set_option maxHeartbeats 4000000
def spareS : Sa := ⟨0, 77, 0, false, [], .slice none 0 0⟩
/-- Each one's rows are a twin. -/
def TwRs (w : World) (base : Nat) (q : List Sa) : Prop := ∀ p ∈ q, ∃ b c, p.v = .slice (some ⟨b, 0, none⟩) p.rows.length c ∧ TwR w base b p.rows.length c p.rows
theorem TwRs.ext {w w' : World} {base : Nat} {q : List Sa} (h : TwRs w base q) (hE : Ext w w') : TwRs w' base q := fun p hp => by
  obtain ⟨b, c, h1, h2⟩ := h p hp
  exact ⟨b, c, h1, h2.ext hE⟩
theorem TwRs.own {w : World} {base : Nat} {q : List Sa} (h : TwRs w base q) : SaOwn w base q := fun p hp => by
  obtain ⟨b, c, h1, h2⟩ := h p hp
  rw [h1]
  exact h2.own rfl
theorem TwRs.at {w : World} {base : Nat} {q : List Sa} (h : TwRs w base q) : SaAt w q := fun p hp => by
  obtain ⟨b, c, h1, h2⟩ := h p hp
  exact ⟨_, c, h1, (h2.own rfl).row⟩
/-- A twin of a list of what was said. -/
def TwS (w : World) (base b n cap : Nat) (q : List Sa) : Prop := OwnC w base 136 5 (.slice (some ⟨b, 0, none⟩) (n + 1) cap) (n + 1) ((q ++ [spareS]).flatMap Sa.cells) ∧ TwRs w base q ∧ SaSep q
theorem flat_lenS (l : List Sa) : (l.flatMap Sa.cells).length = l.length * 5 := by
  induction l with
  | nil => rfl
  | cons x l ih => rw [List.flatMap_cons, List.length_append, ih, List.length_cons, Nat.add_mul]; show 5 + _ = _; omega
theorem TwS.own {w : World} {base b n cap : Nat} {q : List Sa} (h : TwS w base b n cap q) (hn : n = q.length) : OwnC w base 136 5 (.slice (some ⟨b, 0, none⟩) n cap) n (q.flatMap Sa.cells) := by
  have := OwnC.cut (m := n) h.1 (by omega)
  rw [List.flatMap_append, ← show (q.flatMap Sa.cells).length = n * 5 by rw [hn]; exact flat_lenS q, List.take_left] at this
  exact this
theorem TwS.cap {w : World} {base b n cap : Nat} {q : List Sa} (h : TwS w base b n cap q) : n + 1 ≤ cap := by
  obtain ⟨a, c, e, h1, _⟩ := OwnC.form h.1
  injection e with _ _ e
  omega
theorem TwS.ext {w w' : World} {base b n cap : Nat} {q : List Sa} (h : TwS w base b n cap q) (hE : Ext w w') : TwS w' base b n cap q := ⟨h.1.ext hE, h.2.1.ext hE, h.2.2⟩
def TwSE (q : List Sa) (n : Nat) (w : World) (e : Ending) (w' : World) : Prop := ∃ b cap q', e = .returned (.slice (some ⟨b, 0, none⟩) n cap) ∧ q'.map Sa.bare = q.map Sa.bare ∧ TwS w' w.heap.size b n cap q' ∧ Ext w w'
theorem twinSds_any (w : World) (q : List Sa) (qa : Option Addr) (qc n : Nat) (hnq : n = q.length) (hqr : RowIs w 5 (.slice qa n qc) n (q.flatMap Sa.cells)) (hn : n ≤ 50000) (hqv : SaAt w q) (hqn : ∀ p ∈ q, p.rows.length ≤ 50000) :
    Calls Tryz.prog 42 #[.slice qa n qc] w (TwSE q n w) := by
  have hm := Lib.hid hnq
  have hqr' := Lib.hid hqr
  have hqv' := Lib.hid hqv
  have hqn' := Lib.hid hqn
  clear hnq hqr hqv hqn
  obtain ⟨ir, hir, hiz, his, hib⟩ : ∃ i, Tryz.prog.info? 136 = some i ∧ i.zero = some (.agg #[.int .u8 0, .int .u32 0, .int .i64 0, .bool false, .slice none 0 0]) ∧ i.size = 5 ∧ i.bytes = 48 := by
    have h : (Tryz.prog.info? 136).map (fun i => (i.zero, i.size, i.bytes)) = some (some (.agg #[.int .u8 0, .int .u32 0, .int .i64 0, .bool false, .slice none 0 0]), 5, 48) := by kernel_rfl
    obtain ⟨i, hi, he⟩ := Option.map_eq_some_iff.1 h
    simp only [Prod.mk.injEq] at he
    exact ⟨i, hi, he.1, he.2.1, he.2.2⟩
  go_enter Tryz.func42, Tryz.ntmps42
  go_wp2_with (first | (refine wpList_make_own w (by rfl) (.const (.int .i64 0)) (.tmp 7) 59 (by rfl) w.heap.size 136 ir _ 5 Tryz.underlying59 hir hiz his .i64 .i64 ((n : Int) + 1) (n + 1) (by rfl) (by rfl) (by omega) (by rw [hib]; omega) (by unfold maxLen; omega) (Nat.le_refl _) ?_; go_loud (intro w1 hown1 hgr1; have hE1 : Ext w w1 := Below.grown (Below.refl _ _) hgr1 (Nat.le_refl _) (fun _ h => by cases h))) | fail)
  go_wp2_with fail
  go_loopw [3, 4] (fun out i wr => ∃ (k : Nat) (oa : Option Addr) (oc : Nat) (sd' : List Sa), k ≤ n ∧ i = .int .i64 k ∧ out = .slice oa k oc ∧ Hid (sd'.map Sa.bare = (q.take k).map Sa.bare) ∧ OwnC wr w.heap.size 136 5 (.slice oa k oc) k (sd'.flatMap Sa.cells) ∧ Hid (TwRs wr w.heap.size sd' ∧ SaSep sd') ∧ Ext w wr) (fun _ i _ => n - (intOf i).toNat)
  case atStart => exact ⟨0, _, _, [], by omega, rfl, rfl, Lib.hid rfl, OwnC.of_own hown1, Lib.hid ⟨fun _ h => (nomatch h), List.Pairwise.nil⟩, hE1⟩
  case round =>
    clear hown1 hgr1 hE1
    obtain ⟨k, oa, oc, sd', hk, rfl, rfl, hbr, hown, hvs, hE⟩ := hrel
    by_cases hlt : k < n
    · have hli : (k : Int) < (n : Int) := by omega
      obtain ⟨y, hy⟩ : ∃ y, q[k]? = some y := ⟨_, List.getElem?_eq_getElem (by rw [← hm.out]; exact hlt)⟩
      obtain ⟨ob, oo, hat⟩ := (hqr'.out.ext hE).at
      obtain ⟨rfl, _, hdy⟩ := hat (by omega)
      have hrg := sas_range (by rw [← hm.out]; exact hdy) hy
      obtain ⟨va, vc, hv, hyr0⟩ := hqv'.out y (List.mem_of_getElem? hy)
      have hyr := Lib.hid hyr0
      rw [sa_cells hv] at hrg
      have hyn := hqn'.out y (List.mem_of_getElem? hy)
      have htk : Hid ((q.take (k + 1)).map Sa.bare = (q.take k).map Sa.bare ++ [y.bare]) := Lib.hid (by rw [List.take_add_one, hy, List.map_append]; rfl)
      have hsz := hE.size
      clear hat hdy hy hv hyr0
      go_wp2_with (first | (refine wpList_load_mid (by rfl) 136 (.tmp 18) (by rfl) ob (oo + k * 5) (by rfl) (saRow y va y.rows.length vc).toList _ hrg Tryz.underlying136 rfl (by exact info_said) ?_) | fail)
      refine (twinSd_any wr y va vc y.rows.length rfl (hyr.out.ext hE) hyn).mono ?_
      rintro e w6 ⟨b2, c2, rfl, ho2, hE6⟩
      have hown6 := hown.ext hE6
      have hvs6 := Lib.hid (And.intro (hvs.out.1.ext hE6) hvs.out.2)
      have hX6 := hE.trans hE6
      have hs6 := hX6.size
      have hvs0 := Lib.hid hvs.out.1.own
      have ho2' := Lib.hid ho2
      clear hrg hown hvs ho2
      go_wp2_with (first | (refine wpList_bs_sa (by rfl) (.tmp 20) (by rfl) y (some ⟨b2, 0, none⟩) y.rows.length c2 (by rfl) ?_) | (at_builtin; go_loud (refine wpList_append_c (by rfl) (.tmp 15) (.tmp 21) 59 136 (by rfl) Tryz.underlying59 el_said w6 w.heap.size k _ (.slice oa k oc) (by rfl) hown6 (saRow y (some ⟨b2, 0, none⟩) y.rows.length c2) (by rfl) (by rfl) (sar_all _ _ _ _) (by omega) (by omega) hs6 ?_); go_loud (intro v' w8 hA; obtain ⟨oa', oc', rfl, _⟩ := hA.own.form; have ho8 := Lib.hid hA.own; have hX8 : Ext w w8 := Below.trans hX6 hA.below; have hgr := Lib.hid hA.grown; clear hA)) | fail)
      go_roundw
      case rel =>
        refine ⟨k + 1, oa', oc', sd' ++ [(⟨y.cl, y.num, y.e, y.yes, y.rows, .slice (some ⟨b2, 0, none⟩) y.rows.length c2⟩ : Sa)], by omega, by go_num, rfl, Lib.hid ?_, ?_, Lib.hid ⟨?_, ?_⟩, hX8⟩
        · rw [htk.out, List.map_append, hbr.out]; rfl
        · rw [List.flatMap_append]; exact ho8.out
        · intro p hp
          rcases List.mem_append.1 hp with hp | hp
          · obtain ⟨b, c, h1, h2⟩ := hvs6.out.1 p hp
            exact ⟨b, c, h1, own_kept_ty (by decide) h2 hown6 hgr.out⟩
          · rw [List.mem_singleton.1 hp]
            exact ⟨b2, c2, rfl, own_kept_ty (by decide) (ho2'.out.weak hsz) hown6 hgr.out⟩
        · refine SaSep.snoc hvs6.out.2 hvs0.out (fun b hb => ?_)
          have h1 := ((ho2'.out.own rfl).lt b hb).1
          exact h1
      case measure => simp [intOf]; omega
    · have hli : ¬ (k : Int) < (n : Int) := by omega
      obtain rfl : k = n := by omega
      rw [List.take_of_length_le (by rw [← hm.out]; exact Nat.le_refl _)] at hbr
      clear hqr'
      have hsz := hE.size
      go_wp2_with (first | (at_builtin; go_loud (refine wpList_append_c (by rfl) (.tmp 23) (.tmp 25) 59 136 (by rfl) Tryz.underlying59 el_said wr w.heap.size k _ (.slice oa k oc) (by rfl) hown (saRow spareS none 0 0) (by rfl) (by rfl) (sar_all _ _ _ _) (by omega) (by omega) hsz ?_); go_loud (intro v' w3 hA3; obtain ⟨oa', oc', rfl, hoc, hoa⟩ := hA3.own.form); go_loud (have hX3 : Ext w w3 := Below.trans hE hA3.below); go_loud (have hkc : (k : Int) ≤ (oc' : Int) := by omega)) | fail)
      go_ret
      obtain ⟨b, rfl⟩ : ∃ b, oa' = some ⟨b, 0, none⟩ := by
        rcases hoa with e | e
        · injection e with _ e
          omega
        · exact e
      refine ⟨b, oc', sd', rfl, hbr.out, ⟨?_, fun p hp => ?_, hvs.out.2⟩, hX3⟩
      · rw [List.flatMap_append]
        exact hA3.own
      · obtain ⟨b, c, h1, h2⟩ := hvs.out.1 p hp
        exact ⟨b, c, h1, own_kept_ty (by decide) h2 hown hA3.grown⟩
end Go.Proofs.YtmopjmhapeinjaaGreatDoor
