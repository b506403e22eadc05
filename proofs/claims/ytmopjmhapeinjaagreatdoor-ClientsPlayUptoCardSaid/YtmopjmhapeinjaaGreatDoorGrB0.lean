/- Several texts in one: TwA TwI TwR. No condition. -/
import Derived.Test.YtmopjmhapeinjaaGreatDoorGrA5
import Derived.Test.YtmopjmhapeinjaaGreatDoorGrA6
import Derived.Deep.RegionHeld3
import Derived.StillTailTactics
import Derived.Test.YtmopjmhapeinjaaGreatDoorGrA4
import Derived.Test.YtmopjmhapeinjaaGreatDoorGrA1
import Derived.OwnWalk
import Derived.Deep.OwnRows
import Derived.Deep.CutRange
/- A twin of an ask; is it still what it was made of? No condition. -/
namespace Go.Proofs.YtmopjmhapeinjaaGreatDoor
open Go.RowKit
set_option maxRecDepth 100000
set_option maxHeartbeats 4000000
def TwAE (w : World) (x : Ak) (n : Nat) (e : Ending) (w' : World) : Prop := ∃ b cap, e = .returned (.agg (x.row (.slice (some ⟨b, 0, none⟩) n cap))) ∧ TwC w' w.heap.size b n cap x.chs ∧ Ext w w'
theorem TwC.weak {w : World} {base base' b n cap : Nat} {l : List Ch} (h : TwC w base' b n cap l) (hb : base ≤ base') : TwC w base b n cap l := OwnC.weak h hb
theorem twinA_any (w : World) (x : Ak) (a : Option Addr) (cap n : Nat) (hn : n = x.chs.length) (hr : RowIs w 3 (.slice a n cap) n (x.chs.flatMap Ch.cells)) (hl : n ≤ 50000) : Calls Tryz.prog 8 #[.agg (x.row (.slice a n cap))] w (TwAE w x n) := by
  obtain ⟨X, hX⟩ : ∃ X, X = w.heap.size := ⟨_, rfl⟩
  obtain ⟨V, hV⟩ : ∃ W, W = (w.alloc (.cells (x.row (.slice a n cap)) 50)).alloc (.cells #[.int .u8 0, .string ⟨#[]⟩, .string ⟨#[]⟩, .string ⟨#[]⟩, .bool false, .string ⟨#[]⟩, .int .i64 0, .slice none 0 0] 50) := ⟨_, rfl⟩
  have hE0 : Ext w V := by rw [hV]; exact ((Ext.refl _).alloc _).alloc _
  have hxo : Hid (∀ W, OffB (fun k => k = X + 1) V W → W.cell? ⟨X, 0, none⟩ = some (.int .u8 x.kind) ∧ W.cell? ⟨X, 1, none⟩ = some (.string x.key) ∧ W.cell? ⟨X, 2, none⟩ = some (.string x.val) ∧ W.cell? ⟨X, 3, none⟩ = some (.string x.old) ∧ W.cell? ⟨X, 4, none⟩ = some (.bool x.new) ∧ W.cell? ⟨X, 5, none⟩ = some (.string x.to) ∧ W.cell? ⟨X, 6, none⟩ = some (.int .i64 x.many) ∧ W.cell? ⟨X, 7, none⟩ = some (.slice a n cap)) := Lib.hid (fun W hE => by
    have h0 : V.heap[X]? = some (.cells (x.row (.slice a n cap)) 50 (0, 0)) := by rw [hV, hX]; exact ((Ext.refl _).alloc _).row (heap_alloc_new w _)
    have h1 := (hE.block X (Array.getElem?_eq_some_iff.1 h0).1 (fun hB => by have hB : X = X + 1 := hB; omega)).trans h0
    exact askc h1)
  have hrow : Hid (∀ W, Ext V W → W.heap[X + 1]? = some (.cells #[.int .u8 0, .string ⟨#[]⟩, .string ⟨#[]⟩, .string ⟨#[]⟩, .bool false, .string ⟨#[]⟩, .int .i64 0, .slice none 0 0] 50 (0, 0))) := Lib.hid (fun W hE => by
    have h1 := heap_alloc_new (w.alloc (.cells (x.row (.slice a n cap)) 50)) (.cells #[.int .u8 0, .string ⟨#[]⟩, .string ⟨#[]⟩, .string ⟨#[]⟩, .bool false, .string ⟨#[]⟩, .int .i64 0, .slice none 0 0] 50)
    rw [show (w.alloc (.cells (x.row (.slice a n cap)) 50)).heap.size = X + 1 by rw [hX]; simp] at h1
    exact hE.row (by rw [hV]; exact h1))
  have hth : Hid (∀ W, Ext V W → W.there (X + 1) 0 8) := Lib.hid (fun W hE j hj => by
    have h2 := hrow.out W hE
    exact ⟨by rw [cell_of_row _ _ _ _ _ _ h2, Nat.zero_add, Array.getElem?_eq_getElem (by simpa using hj)]; rfl, by unfold World.frozen?; rw [h2]; simp⟩)
  have hrun : Hid (∀ W b cap', Ext V W → (storeCells ⟨X + 1, 0, none⟩ (x.row (.slice (some ⟨b, 0, none⟩) n cap')).toList).run Tryz.prog W = .ok () (W.setCells (X + 1) 0 (x.row (.slice (some ⟨b, 0, none⟩) n cap')).toList)) := Lib.hid (fun W b cap' hE => run_storeCells_mid W (X + 1) 0 _ (show W.there (X + 1) 0 8 from hth.out W hE) (fun v hv => Array.all_eq_true_iff_forall_mem.1 (ask_one x (some ⟨b, 0, none⟩) n cap') v (by simpa using hv)))
  have htw : Hid (∀ W, Ext V W → Calls Tryz.prog 28 #[.slice a n cap] W fun e w' => ∃ b cap', e = .returned (.slice (some ⟨b, 0, none⟩) n cap') ∧ TwC w' W.heap.size b n cap' x.chs ∧ Ext W w') := Lib.hid (fun W hE => twinC_any W x.chs a cap n hn (hr.ext (hE0.trans hE)) hl)
  have hVs : Hid (V.heap.size = X + 2) := Lib.hid (by rw [hV, hX]; simp)
  have hV' := Lib.hid hV
  have hX' := Lib.hid hX
  have hsV := hE0.size
  obtain ⟨C, hC⟩ : ∃ C : Nat → Nat → Array Value, ∀ b c, C b c = x.row (.slice (some ⟨b, 0, none⟩) n c) := ⟨fun b c => x.row (.slice (some ⟨b, 0, none⟩) n c), fun _ _ => rfl⟩
  have hC' := Lib.hid hC
  have hsz : ∀ b c, (C b c).size = 8 := fun b c => by rw [hC]; rfl
  have hD : ∀ b c, (#[.int .u8 x.kind, .string x.key, .string x.val, .string x.old, .bool x.new, .string x.to, .int .i64 x.many, .slice (some ⟨b, 0, none⟩) n c] : Array Value) = C b c := fun b c => (hC b c).symm
  have hrunC : Hid (∀ W b cap', Ext V W → (storeCells ⟨X + 1, 0, none⟩ (C b cap').toList).run Tryz.prog W = .ok () (W.setCells (X + 1) 0 (C b cap').toList)) := Lib.hid (fun W b c hE => by rw [hC]; exact hrun.out W b c hE)
  clear hr hn hV hX hC
  unfold Ak.row at hV' ⊢
  go_enter Tryz.func8, Tryz.ntmps8
  go_upto_region 1 with fail
  rw [← hV'.out, ← hX'.out]
  go_region_held3 (fun w' => w'.cell? ⟨X, 0, none⟩ = some (.int .u8 x.kind) ∧ w'.cell? ⟨X, 1, none⟩ = some (.string x.key) ∧ w'.cell? ⟨X, 2, none⟩ = some (.string x.val) ∧ w'.cell? ⟨X, 3, none⟩ = some (.string x.old) ∧ w'.cell? ⟨X, 4, none⟩ = some (.bool x.new) ∧ w'.cell? ⟨X, 5, none⟩ = some (.string x.to) ∧ w'.cell? ⟨X, 6, none⟩ = some (.int .i64 x.many) ∧ w'.cell? ⟨X, 7, none⟩ = some (.slice a n cap)) ((refine hxo.out _ ?_; first | exact .of_ext (Ext.refl _).drew | exact .of_ext hV3 | exact OffB.setCells (B := fun k => k = X + 1) (.of_ext hV3) rfl _ _)) (first | (go_at_call 28; refine (htw.out _ (Ext.refl V).drew).mono ?_; rintro e w3 ⟨b, cap', rfl, hT, hE3⟩; have hV3 : Ext V w3 := (Ext.refl V).drew.trans hE3; have hT' := Lib.hid hT; clear hT; have hst := Lib.hid (hrunC.out w3 b cap' hV3)) | (rw [hst.out]; go_simp) | fail)
  all_goals
    have hset : (w3.setCells (X + 1) 0 (C b cap').toList).heap[X + 1]? = some (.cells (x.row (.slice (some ⟨b, 0, none⟩) n cap')) 50 (0, 0)) := by
      rw [hC'.out, setCells_heap (X + 1) 50 (0, 0) _ 0 w3 _ (hrow.out w3 hV3) (by show 0 + 8 ≤ 8; omega)]
      rfl
    have hOf : OffB (fun k => k = X + 1) w3 (w3.setCells (X + 1) 0 (C b cap').toList) := OffB.setCells (B := fun k => k = X + 1) (OffB.refl _) rfl _ _
    have hE6 : Ext w (w3.setCells (X + 1) 0 (C b cap').toList) := ((OffB.of_ext (hE0.trans hV3)).trans hOf).ext (fun k hk hB => by have hB : k = X + 1 := hB; rw [hX'.out] at hB; omega)
    have hT6 : TwC (w3.setCells (X + 1) 0 (C b cap').toList) w.heap.size b n cap' x.chs := by
      refine TwC.weak (OwnC.offB hT'.out hOf (fun q hq hB => ?_)) hsV
      have h5 := (OwnC.lt hT'.out q hq).1
      have hB : q = X + 1 := hB
      have h6 : V.drew.heap.size = V.heap.size := rfl
      have h7 := hVs.out
      omega
    generalize w3.setCells (X + 1) 0 (C b cap').toList = Wf at *
    obtain ⟨b0, b1, b2, b3, b4, b5, b6, b7⟩ := askc hset
    go_wp2_with fail
    exact bodyPost_ret (v := .agg (x.row (.slice (some ⟨b, 0, none⟩) n cap'))) (by simp [results, Tryz.results8, go_sem, b0, b1, b2, b3, b4, b5, b6, b7, Ak.row]) rfl ⟨b, cap', rfl, hT6, hE6⟩
end Go.Proofs.YtmopjmhapeinjaaGreatDoor

/- Twins of items. (Printed by mkit.py.) No condition. -/
namespace Go.Proofs.YtmopjmhapeinjaaGreatDoor
open Go.RowKit
set_option maxRecDepth 100000
set_option maxHeartbeats 8000000
def zItem : Array Value := #[.int .u64 0, .int .u8 0, .int .u32 0, .int .u8 0, .string ⟨#[]⟩, .string ⟨#[]⟩, .string ⟨#[]⟩, .bool false, .string ⟨#[]⟩, .int .i64 0, .slice none 0 0]
def TwItE (x : It) (n : Nat) (w : World) (e : Ending) (w' : World) : Prop := ∃ b cap, e = .returned (.agg (itRow x (some ⟨b, 0, none⟩) n cap)) ∧ TwC w' w.heap.size b n cap x.ask.chs ∧ Ext w w'
theorem twinIt_any (w : World) (x : It) (a : Option Addr) (cap n : Nat) (hn : n = x.ask.chs.length) (hr : RowIs w 3 (.slice a n cap) n (x.ask.chs.flatMap Ch.cells)) (hl : n ≤ 50000) : Calls Tryz.prog 115 #[.agg (itRow x a n cap)] w (TwItE x n w) := by
  obtain ⟨X, hX⟩ : ∃ X, X = w.heap.size := ⟨_, rfl⟩
  obtain ⟨V, hV⟩ : ∃ W, W = (w.alloc (.cells (itRow x a n cap) 100)).alloc (.cells zItem 100) := ⟨_, rfl⟩
  have hE0 : Ext w V := by rw [hV]; exact ((Ext.refl _).alloc _).alloc _
  have hxo : Hid (∀ W, OffB (fun k => k = X + 1) V W → W.cell? ⟨X, 0, none⟩ = some (.int .u64 (x.ix : Int)) ∧ W.cell? ⟨X, 1, none⟩ = some (.int .u8 (x.cl : Int)) ∧ W.cell? ⟨X, 2, none⟩ = some (.int .u32 (x.num : Int)) ∧ W.cell? ⟨X, 3, none⟩ = some (.int .u8 x.ask.kind) ∧ W.cell? ⟨X, 4, none⟩ = some (.string x.ask.key) ∧ W.cell? ⟨X, 5, none⟩ = some (.string x.ask.val) ∧ W.cell? ⟨X, 6, none⟩ = some (.string x.ask.old) ∧ W.cell? ⟨X, 7, none⟩ = some (.bool x.ask.new) ∧ W.cell? ⟨X, 8, none⟩ = some (.string x.ask.to) ∧ W.cell? ⟨X, 9, none⟩ = some (.int .i64 x.ask.many) ∧ W.cell? ⟨X, 10, none⟩ = some (.slice a n cap)) := Lib.hid (fun W hE => by
    have h0 : V.heap[X]? = some (.cells (itRow x a n cap) 100 (0, 0)) := by rw [hV, hX]; exact ((Ext.refl _).alloc _).row (heap_alloc_new w _)
    have h1 := (hE.block X (Array.getElem?_eq_some_iff.1 h0).1 (fun hB => by have hB : X = X + 1 := hB; omega)).trans h0
    exact it_cs h1)
  have hrow : Hid (∀ W, Ext V W → W.heap[X + 1]? = some (.cells zItem 100 (0, 0))) := Lib.hid (fun W hE => by
    have h1 := heap_alloc_new (w.alloc (.cells (itRow x a n cap) 100)) (.cells zItem 100)
    rw [show (w.alloc (.cells (itRow x a n cap) 100)).heap.size = X + 1 by rw [hX]; simp] at h1
    exact hE.row (by rw [hV]; exact h1))
  have hth : Hid (∀ W, Ext V W → W.there (X + 1) 0 11) := Lib.hid (fun W hE j hj => by
    have h2 := hrow.out W hE
    exact ⟨by rw [cell_of_row _ _ _ _ _ _ h2, Nat.zero_add, Array.getElem?_eq_getElem (show j < zItem.size from hj)]; rfl, by unfold World.frozen?; rw [h2]; simp⟩)
  have hrun : Hid (∀ W b cap', Ext V W → (storeCells ⟨X + 1, 0, none⟩ (itRow x (some ⟨b, 0, none⟩) n cap').toList).run Tryz.prog W = .ok () (W.setCells (X + 1) 0 (itRow x (some ⟨b, 0, none⟩) n cap').toList)) := Lib.hid (fun W b cap' hE => run_storeCells_mid W (X + 1) 0 _ (show W.there (X + 1) 0 11 from hth.out W hE) (itr_all _ _ _ _))
  have htw : Hid (∀ W, Ext V W → Calls Tryz.prog 8 #[.agg #[.int .u8 x.ask.kind, .string x.ask.key, .string x.ask.val, .string x.ask.old, .bool x.ask.new, .string x.ask.to, .int .i64 x.ask.many, .slice a n cap]] W fun e w' => ∃ b cap', e = .returned (.agg #[.int .u8 x.ask.kind, .string x.ask.key, .string x.ask.val, .string x.ask.old, .bool x.ask.new, .string x.ask.to, .int .i64 x.ask.many, .slice (some ⟨b, 0, none⟩) n cap']) ∧ TwC w' W.heap.size b n cap' x.ask.chs ∧ Ext W w') := Lib.hid (fun W hE => twinA_any W x.ask a cap n hn (hr.ext (hE0.trans hE)) hl)
  have hVs : Hid (V.heap.size = X + 2) := Lib.hid (by rw [hV, hX]; simp)
  have hV' := Lib.hid hV
  have hX' := Lib.hid hX
  have hsV := hE0.size
  obtain ⟨C, hC⟩ : ∃ C : Nat → Nat → Array Value, ∀ b c, C b c = itRow x (some ⟨b, 0, none⟩) n c := ⟨fun b c => itRow x (some ⟨b, 0, none⟩) n c, fun _ _ => rfl⟩
  have hC' := Lib.hid hC
  have hsz : ∀ b c, (C b c).size = 11 := fun b c => by rw [hC]; rfl
  have hD : ∀ b c, (#[.int .u64 (x.ix : Int), .int .u8 (x.cl : Int), .int .u32 (x.num : Int), .int .u8 x.ask.kind, .string x.ask.key, .string x.ask.val, .string x.ask.old, .bool x.ask.new, .string x.ask.to, .int .i64 x.ask.many, .slice (some ⟨b, 0, none⟩) n c] : Array Value) = C b c := fun b c => (hC b c).symm
  have hrunC : Hid (∀ W b cap', Ext V W → (storeCells ⟨X + 1, 0, none⟩ (C b cap').toList).run Tryz.prog W = .ok () (W.setCells (X + 1) 0 (C b cap').toList)) := Lib.hid (fun W b c hE => by rw [hC]; exact hrun.out W b c hE)
  clear hr hn hV hX hC
  unfold itRow zItem at hV'
  unfold itRow
  go_enter Tryz.func115, Tryz.ntmps115
  go_upto_region 1 with fail
  rw [← hV'.out, ← hX'.out]
  go_region_held3 (fun w' => w'.cell? ⟨X, 0, none⟩ = some (.int .u64 (x.ix : Int)) ∧ w'.cell? ⟨X, 1, none⟩ = some (.int .u8 (x.cl : Int)) ∧ w'.cell? ⟨X, 2, none⟩ = some (.int .u32 (x.num : Int)) ∧ w'.cell? ⟨X, 3, none⟩ = some (.int .u8 x.ask.kind) ∧ w'.cell? ⟨X, 4, none⟩ = some (.string x.ask.key) ∧ w'.cell? ⟨X, 5, none⟩ = some (.string x.ask.val) ∧ w'.cell? ⟨X, 6, none⟩ = some (.string x.ask.old) ∧ w'.cell? ⟨X, 7, none⟩ = some (.bool x.ask.new) ∧ w'.cell? ⟨X, 8, none⟩ = some (.string x.ask.to) ∧ w'.cell? ⟨X, 9, none⟩ = some (.int .i64 x.ask.many) ∧ w'.cell? ⟨X, 10, none⟩ = some (.slice a n cap)) ((refine hxo.out _ ?_; first | exact .of_ext (Ext.refl _).drew | exact .of_ext hV3 | exact OffB.setCells (B := fun k => k = X + 1) (.of_ext hV3) rfl _ _)) (first | (go_at_call 8; refine (htw.out _ (Ext.refl V).drew).mono ?_; rintro e w3 ⟨b, cap', rfl, hT, hE3⟩; have hV3 : Ext V w3 := (Ext.refl V).drew.trans hE3; have hT' := Lib.hid hT; clear hT; have hst := Lib.hid (hrunC.out w3 b cap' hV3)) | (rw [hst.out]; go_simp) | fail)
  all_goals
    have hset : (w3.setCells (X + 1) 0 (C b cap').toList).heap[X + 1]? = some (.cells (itRow x (some ⟨b, 0, none⟩) n cap') 100 (0, 0)) := by
      rw [hC'.out, setCells_heap (X + 1) 100 (0, 0) _ 0 w3 _ (hrow.out w3 hV3) (by show 0 + 11 ≤ 11; omega)]
      rfl
    have hOf : OffB (fun k => k = X + 1) w3 (w3.setCells (X + 1) 0 (C b cap').toList) := OffB.setCells (B := fun k => k = X + 1) (OffB.refl _) rfl _ _
    have hE6 : Ext w (w3.setCells (X + 1) 0 (C b cap').toList) := ((OffB.of_ext (hE0.trans hV3)).trans hOf).ext (fun k hk hB => by have hB : k = X + 1 := hB; rw [hX'.out] at hB; omega)
    have hT6 : TwC (w3.setCells (X + 1) 0 (C b cap').toList) w.heap.size b n cap' x.ask.chs := by
      refine TwC.weak (OwnC.offB hT'.out hOf (fun q hq hB => ?_)) hsV
      have h5 := (OwnC.lt hT'.out q hq).1
      have hB : q = X + 1 := hB
      have h6 : V.drew.heap.size = V.heap.size := rfl
      have h7 := hVs.out
      omega
    generalize w3.setCells (X + 1) 0 (C b cap').toList = Wf at *
    obtain ⟨b0, b1, b2, b3, b4, b5, b6, b7, b8, b9, b10⟩ := it_cs hset
    go_wp2_with fail
    exact bodyPost_ret (v := .agg (itRow x (some ⟨b, 0, none⟩) n cap')) (by simp [results, Tryz.results115, go_sem, b0, b1, b2, b3, b4, b5, b6, b7, b8, b9, b10, itRow]) rfl ⟨b, cap', rfl, hT6, hE6⟩
def spareI : It := ⟨77, 0, 0, ⟨0, ⟨#[]⟩, ⟨#[]⟩, ⟨#[]⟩, false, ⟨#[]⟩, 0, []⟩, .slice none 0 0⟩
/-- Each one's rows are a twin. -/
def TwCs (w : World) (base : Nat) (q : List It) : Prop := ∀ p ∈ q, ∃ b c, p.v = .slice (some ⟨b, 0, none⟩) p.ask.chs.length c ∧ TwC w base b p.ask.chs.length c p.ask.chs
theorem TwCs.ext {w w' : World} {base : Nat} {q : List It} (h : TwCs w base q) (hE : Ext w w') : TwCs w' base q := fun p hp => by
  obtain ⟨b, c, h1, h2⟩ := h p hp
  exact ⟨b, c, h1, h2.ext hE⟩
theorem TwCs.own {w : World} {base : Nat} {q : List It} (h : TwCs w base q) : ItOwn w base q := fun p hp => by
  obtain ⟨b, c, h1, h2⟩ := h p hp
  rw [h1]
  exact h2.own rfl
theorem TwCs.at {w : World} {base : Nat} {q : List It} (h : TwCs w base q) : ItAt w q := fun p hp => by
  obtain ⟨b, c, h1, h2⟩ := h p hp
  exact ⟨_, c, h1, (h2.own rfl).row⟩
/-- A twin of a list of what was said. -/
def TwI (w : World) (base b n cap : Nat) (q : List It) : Prop := OwnC w base 100 11 (.slice (some ⟨b, 0, none⟩) (n + 1) cap) (n + 1) ((q ++ [spareI]).flatMap It.cells) ∧ TwCs w base q ∧ ItSep q
theorem flat_lenI (l : List It) : (l.flatMap It.cells).length = l.length * 11 := by
  induction l with
  | nil => rfl
  | cons x l ih => rw [List.flatMap_cons, List.length_append, ih, List.length_cons, Nat.add_mul]; show 11 + _ = _; omega
theorem TwI.own {w : World} {base b n cap : Nat} {q : List It} (h : TwI w base b n cap q) (hn : n = q.length) : OwnC w base 100 11 (.slice (some ⟨b, 0, none⟩) n cap) n (q.flatMap It.cells) := by
  have := OwnC.cut (m := n) h.1 (by omega)
  rw [List.flatMap_append, ← show (q.flatMap It.cells).length = n * 11 by rw [hn]; exact flat_lenI q, List.take_left] at this
  exact this
theorem TwI.cap {w : World} {base b n cap : Nat} {q : List It} (h : TwI w base b n cap q) : n + 1 ≤ cap := by
  obtain ⟨a, c, e, h1, _⟩ := OwnC.form h.1
  injection e with _ _ e
  omega
theorem TwI.ext {w w' : World} {base b n cap : Nat} {q : List It} (h : TwI w base b n cap q) (hE : Ext w w') : TwI w' base b n cap q := ⟨h.1.ext hE, h.2.1.ext hE, h.2.2⟩
def TwIE (q : List It) (n : Nat) (w : World) (e : Ending) (w' : World) : Prop := ∃ b cap q', e = .returned (.slice (some ⟨b, 0, none⟩) n cap) ∧ q'.map It.bare = q.map It.bare ∧ TwI w' w.heap.size b n cap q' ∧ Ext w w'
theorem twinIts_any (w : World) (q : List It) (qa : Option Addr) (qc n : Nat) (hnq : n = q.length) (hqr : RowIs w 11 (.slice qa n qc) n (q.flatMap It.cells)) (hn : n ≤ 50000) (hqv : ItAt w q) (hqn : ∀ p ∈ q, p.ask.chs.length ≤ 50000) :
    Calls Tryz.prog 40 #[.slice qa n qc] w (TwIE q n w) := by
  have hm := Lib.hid hnq
  have hqr' := Lib.hid hqr
  have hqv' := Lib.hid hqv
  have hqn' := Lib.hid hqn
  clear hnq hqr hqv hqn
  obtain ⟨ir, hir, hiz, his, hib⟩ : ∃ i, Tryz.prog.info? 100 = some i ∧ i.zero = some (.agg #[.int .u64 0, .int .u8 0, .int .u32 0, .int .u8 0, .string ⟨#[]⟩, .string ⟨#[]⟩, .string ⟨#[]⟩, .bool false, .string ⟨#[]⟩, .int .i64 0, .slice none 0 0]) ∧ i.size = 11 ∧ i.bytes = 128 := by
    have h : (Tryz.prog.info? 100).map (fun i => (i.zero, i.size, i.bytes)) = some (some (.agg #[.int .u64 0, .int .u8 0, .int .u32 0, .int .u8 0, .string ⟨#[]⟩, .string ⟨#[]⟩, .string ⟨#[]⟩, .bool false, .string ⟨#[]⟩, .int .i64 0, .slice none 0 0]), 11, 128) := by kernel_rfl
    obtain ⟨i, hi, he⟩ := Option.map_eq_some_iff.1 h
    simp only [Prod.mk.injEq] at he
    exact ⟨i, hi, he.1, he.2.1, he.2.2⟩
  go_enter Tryz.func40, Tryz.ntmps40
  go_wp2_with (first | (refine wpList_make_own w (by rfl) (.const (.int .i64 0)) (.tmp 7) 57 (by rfl) w.heap.size 100 ir _ 11 Tryz.underlying57 hir hiz his .i64 .i64 ((n : Int) + 1) (n + 1) (by rfl) (by rfl) (by omega) (by rw [hib]; omega) (by unfold maxLen; omega) (Nat.le_refl _) ?_; go_loud (intro w1 hown1 hgr1; have hE1 : Ext w w1 := Below.grown (Below.refl _ _) hgr1 (Nat.le_refl _) (fun _ h => by cases h))) | fail)
  go_wp2_with fail
  go_loopw [3, 4] (fun out i wr => ∃ (k : Nat) (oa : Option Addr) (oc : Nat) (sd' : List It), k ≤ n ∧ i = .int .i64 k ∧ out = .slice oa k oc ∧ Hid (sd'.map It.bare = (q.take k).map It.bare) ∧ OwnC wr w.heap.size 100 11 (.slice oa k oc) k (sd'.flatMap It.cells) ∧ Hid (TwCs wr w.heap.size sd' ∧ ItSep sd') ∧ Ext w wr) (fun _ i _ => n - (intOf i).toNat)
  case atStart => exact ⟨0, _, _, [], by omega, rfl, rfl, Lib.hid rfl, OwnC.of_own hown1, Lib.hid ⟨fun _ h => (nomatch h), List.Pairwise.nil⟩, hE1⟩
  case round =>
    clear hown1 hgr1 hE1
    obtain ⟨k, oa, oc, sd', hk, rfl, rfl, hbr, hown, hvs, hE⟩ := hrel
    by_cases hlt : k < n
    · have hli : (k : Int) < (n : Int) := by omega
      obtain ⟨y, hy⟩ : ∃ y, q[k]? = some y := ⟨_, List.getElem?_eq_getElem (by rw [← hm.out]; exact hlt)⟩
      obtain ⟨ob, oo, hat⟩ := (hqr'.out.ext hE).at
      obtain ⟨rfl, _, hdy⟩ := hat (by omega)
      have hrg := its_range (by rw [← hm.out]; exact hdy) hy
      obtain ⟨va, vc, hv, hyr0⟩ := hqv'.out y (List.mem_of_getElem? hy)
      have hyr := Lib.hid hyr0
      rw [it_cells hv] at hrg
      have hyn := hqn'.out y (List.mem_of_getElem? hy)
      have htk : Hid ((q.take (k + 1)).map It.bare = (q.take k).map It.bare ++ [y.bare]) := Lib.hid (by rw [List.take_add_one, hy, List.map_append]; rfl)
      have hsz := hE.size
      clear hat hdy hy hv hyr0
      go_wp2_with (first | (refine wpList_load_mid (by rfl) 100 (.tmp 18) (by rfl) ob (oo + k * 11) (by rfl) (itRow y va y.ask.chs.length vc).toList _ hrg Tryz.underlying100 rfl (by exact info_item) ?_) | fail)
      refine (twinIt_any wr y va vc y.ask.chs.length rfl (hyr.out.ext hE) hyn).mono ?_
      rintro e w6 ⟨b2, c2, rfl, ho2, hE6⟩
      have hown6 := hown.ext hE6
      have hvs6 := Lib.hid (And.intro (hvs.out.1.ext hE6) hvs.out.2)
      have hX6 := hE.trans hE6
      have hs6 := hX6.size
      have hvs0 := Lib.hid hvs.out.1.own
      have ho2' := Lib.hid ho2
      clear hrg hown hvs ho2
      go_wp2_with (first | (refine wpList_bs_it (by rfl) (.tmp 20) (by rfl) y (some ⟨b2, 0, none⟩) y.ask.chs.length c2 (by rfl) ?_) | (at_builtin; go_loud (refine wpList_append_c (by rfl) (.tmp 15) (.tmp 21) 57 100 (by rfl) Tryz.underlying57 el_item w6 w.heap.size k _ (.slice oa k oc) (by rfl) hown6 (itRow y (some ⟨b2, 0, none⟩) y.ask.chs.length c2) (by rfl) (by rfl) (itr_all _ _ _ _) (by omega) (by omega) hs6 ?_); go_loud (intro v' w8 hA; obtain ⟨oa', oc', rfl, _⟩ := hA.own.form; have ho8 := Lib.hid hA.own; have hX8 : Ext w w8 := Below.trans hX6 hA.below; have hgr := Lib.hid hA.grown; clear hA)) | fail)
      go_roundw
      case rel =>
        refine ⟨k + 1, oa', oc', sd' ++ [(⟨y.ix, y.cl, y.num, y.ask, .slice (some ⟨b2, 0, none⟩) y.ask.chs.length c2⟩ : It)], by omega, by go_num, rfl, Lib.hid ?_, ?_, Lib.hid ⟨?_, ?_⟩, hX8⟩
        · rw [htk.out, List.map_append, hbr.out]; rfl
        · rw [List.flatMap_append]; exact ho8.out
        · intro p hp
          rcases List.mem_append.1 hp with hp | hp
          · obtain ⟨b, c, h1, h2⟩ := hvs6.out.1 p hp
            exact ⟨b, c, h1, own_kept_ty (by decide) h2 hown6 hgr.out⟩
          · rw [List.mem_singleton.1 hp]
            exact ⟨b2, c2, rfl, own_kept_ty (by decide) (ho2'.out.weak hsz) hown6 hgr.out⟩
        · refine ItSep.snoc hvs6.out.2 hvs0.out (fun b hb => ?_)
          have h1 := ((ho2'.out.own rfl).lt b hb).1
          exact h1
      case measure => simp [intOf]; omega
    · have hli : ¬ (k : Int) < (n : Int) := by omega
      obtain rfl : k = n := by omega
      rw [List.take_of_length_le (by rw [← hm.out]; exact Nat.le_refl _)] at hbr
      clear hqr'
      have hsz := hE.size
      go_wp2_with (first | (at_builtin; go_loud (refine wpList_append_c (by rfl) (.tmp 23) (.tmp 25) 57 100 (by rfl) Tryz.underlying57 el_item wr w.heap.size k _ (.slice oa k oc) (by rfl) hown (itRow spareI none 0 0) (by rfl) (by rfl) (itr_all _ _ _ _) (by omega) (by omega) hsz ?_); go_loud (intro v' w3 hA3; obtain ⟨oa', oc', rfl, hoc, hoa⟩ := hA3.own.form); go_loud (have hX3 : Ext w w3 := Below.trans hE hA3.below); go_loud (have hkc : (k : Int) ≤ (oc' : Int) := by omega)) | fail)
      go_ret
      obtain ⟨b, rfl⟩ : ∃ b, oa' = some ⟨b, 0, none⟩ := by
        rcases hoa with e | e
        · injection e with _ e
          omega
        · exact e
      refine ⟨b, oc', sd', rfl, hbr.out, ⟨?_, fun p hp => ?_, hvs.out.2⟩, hX3⟩
      · rw [List.flatMap_append]
        exact hA3.own
      · obtain ⟨b, c, h1, h2⟩ := hvs.out.1 p hp
        exact ⟨b, c, h1, own_kept_ty (by decide) h2 hown hA3.grown⟩
end Go.Proofs.YtmopjmhapeinjaaGreatDoor

/- A twin of rows, with a mark in the room behind; is it still what it was made of? No condition. -/
namespace Go.Proofs.YtmopjmhapeinjaaGreatDoor
open Go.RowKit
set_option maxRecDepth 100000
set_option maxHeartbeats 2000000
theorem rwr_all (x : Rw) : ∀ u ∈ (rowR x).toList, u.oneCell' = true := fun u hu => Array.all_eq_true_iff_forall_mem.1 (rowR_one x) u (by simpa using hu)
def spareR : Rw := ⟨⟨#[115, 112, 97, 114, 101]⟩, ⟨#[]⟩⟩
/-- A twin: the rows, and behind them the mark, in a block of the call's own. -/
def TwR (w : World) (base : Nat) (b n cap : Nat) (l : List Rw) : Prop := OwnC w base 134 2 (.slice (some ⟨b, 0, none⟩) (n + 1) cap) (n + 1) ((l ++ [spareR]).flatMap rwL)
theorem TwR.ext {w w' : World} {base b n cap : Nat} {l : List Rw} (h : TwR w base b n cap l) (he : Ext w w') : TwR w' base b n cap l := OwnC.ext h he
theorem flat_lenR (l : List Rw) : (l.flatMap rwL).length = l.length * 2 := by
  induction l with
  | nil => rfl
  | cons x l ih => rw [List.flatMap_cons, List.length_append, ih, List.length_cons, Nat.add_mul]; show 2 + _ = _; omega
theorem TwR.own {w : World} {base b n cap : Nat} {l : List Rw} (h : TwR w base b n cap l) (hn : n = l.length) : OwnC w base 134 2 (.slice (some ⟨b, 0, none⟩) n cap) n (l.flatMap rwL) := by
  have := OwnC.cut (m := n) h (by omega)
  rw [List.flatMap_append, ← show (l.flatMap rwL).length = n * 2 by rw [hn]; exact flat_lenR l, List.take_left] at this
  exact this
theorem TwR.cap {w : World} {base b n cap : Nat} {l : List Rw} (h : TwR w base b n cap l) : n + 1 ≤ cap := by
  obtain ⟨a, c, e, h1, _⟩ := OwnC.form h
  injection e with _ _ e
  omega
theorem tRows_any (w : World) (l : List Rw) (a : Option Addr) (cap n : Nat) (hnl : n = l.length) (hr : RowIs w 2 (.slice a n cap) n (l.flatMap rwL)) (hn : n ≤ 50000) :
    Calls Tryz.prog 41 #[.slice a n cap] w fun e w' => ∃ b cap', e = .returned (.slice (some ⟨b, 0, none⟩) n cap') ∧ TwR w' w.heap.size b n cap' l ∧ Ext w w' := by
  have hrn' := Lib.hid hnl
  have hr' := Lib.hid hr
  clear hnl hr
  obtain ⟨ir, hir, hiz, his, hib⟩ : ∃ i, Tryz.prog.info? 134 = some i ∧ i.zero = some (.agg #[.string ⟨#[]⟩, .string ⟨#[]⟩]) ∧ i.size = 2 ∧ i.bytes = 32 := by
    have h : (Tryz.prog.info? 134).map (fun i => (i.zero, i.size, i.bytes)) = some (some (.agg #[.string ⟨#[]⟩, .string ⟨#[]⟩]), 2, 32) := by kernel_rfl
    obtain ⟨i, hi, he⟩ := Option.map_eq_some_iff.1 h
    simp only [Prod.mk.injEq] at he
    exact ⟨i, hi, he.1, he.2.1, he.2.2⟩
  go_enter Tryz.func41, Tryz.ntmps41
  go_wp2_with (first | (refine wpList_make_own w (by rfl) (.const (.int .i64 0)) (.tmp 7) 58 (by rfl) w.heap.size 134 ir _ 2 Tryz.underlying58 hir hiz his .i64 .i64 ((n : Int) + 1) (n + 1) (by rfl) (by rfl) (by omega) (by rw [hib]; omega) (by unfold maxLen; omega) (Nat.le_refl _) ?_; go_loud (intro w1 hown1 hgr1; have hE1 : Ext w w1 := Below.grown (Below.refl _ _) hgr1 (Nat.le_refl _) (fun _ h => by cases h))) | fail)
  go_wp2_with fail
  go_loopw [3, 4] (fun out i wr => ∃ (k : Nat) (oa : Option Addr) (oc : Nat), k ≤ n ∧ i = .int .i64 k ∧ out = .slice oa k oc ∧ OwnC wr w.heap.size 134 2 (.slice oa k oc) k ((l.take k).flatMap rwL) ∧ Ext w wr) (fun _ i _ => n - (intOf i).toNat)
  case atStart => exact ⟨0, _, _, by omega, rfl, rfl, OwnC.of_own hown1, hE1⟩
  case round =>
    obtain ⟨k, oa, oc, hk, rfl, rfl, hown, hEr⟩ := hrel
    by_cases hlt : k < n
    · have hli : (k : Int) < (n : Int) := by omega
      obtain ⟨r, hr⟩ : ∃ r, l[k]? = some r := ⟨_, List.getElem?_eq_getElem (by rw [← hrn'.out]; exact hlt)⟩
      obtain ⟨b, off, hat⟩ := (hr'.out.ext hEr).at
      obtain ⟨rfl, _, hd⟩ := hat (by omega)
      have hrg := rws_range (by rw [← hrn'.out]; exact hd) hr
      have htk : l.take (k + 1) = l.take k ++ [r] := by rw [List.take_add_one, hr]; rfl
      have htk' := Lib.hid htk
      have hsz := hEr.size
      clear hat hd hr htk
      go_wp2_with (first | (refine wpList_load_mid (by rfl) 134 (.tmp 18) (by rfl) b (off + k * 2) (by rfl) (rowR r).toList _ hrg Tryz.underlying134 rfl (by exact info_row) ?_) | (refine wpList_bs_row (by rfl) (.tmp 19) (by rfl) r (by rfl) ?_) | (at_builtin; go_loud (refine wpList_append_c (by rfl) (.tmp 15) (.tmp 20) 58 134 (by rfl) Tryz.underlying58 el_row wr w.heap.size k _ (.slice oa k oc) (by rfl) hown (rowR r) (by rfl) (by rfl) (rwr_all r) (by omega) (by omega) hsz ?_); go_loud (intro v' w3 hA3; obtain ⟨oa', oc', rfl, _⟩ := hA3.own.form; have hown2 := hA3.own; have hX3 : Ext w w3 := Below.trans hEr hA3.below)) | fail)
      go_roundw
      case rel =>
        refine ⟨k + 1, oa', oc', by omega, by go_num, rfl, ?_, hX3⟩
        rw [htk'.out, List.flatMap_append, show List.flatMap rwL [r] = (rowR r).toList from rfl]
        exact hown2
      case measure => simp [intOf]; omega
    · have hli : ¬ (k : Int) < (n : Int) := by omega
      obtain rfl : k = n := by omega
      rw [List.take_of_length_le (by rw [← hrn'.out]; exact Nat.le_refl _)] at hown
      have hxl : (l.flatMap rwL).length = k * 2 := hown.1
      clear hr' hown1
      have hsz := hEr.size
      go_wp2_with (first | (at_builtin; go_loud (refine wpList_append_c (by rfl) (.tmp 22) (.tmp 24) 58 134 (by rfl) Tryz.underlying58 el_row wr w.heap.size k _ (.slice oa k oc) (by rfl) hown (rowR spareR) (by rfl) (by rfl) (rwr_all spareR) (by omega) (by omega) hsz ?_); go_loud (intro v' w3 hA3; obtain ⟨oa', oc', rfl, hoc, hoa⟩ := hA3.own.form); go_loud (have hX3 : Ext w w3 := Below.trans hEr hA3.below); go_loud (have hkc : (k : Int) ≤ (oc' : Int) := by omega)) | fail)
      go_ret
      obtain ⟨b, rfl⟩ : ∃ b, oa' = some ⟨b, 0, none⟩ := by
        rcases hoa with e | e
        · injection e with _ e
          omega
        · exact e
      refine ⟨b, oc', rfl, ?_, hX3⟩
      unfold TwR
      rw [List.flatMap_append]
      exact hA3.own
theorem lRows_any (w : World) (l : List Rw) (base b cap' : Nat) (a : Option Addr) (cap n : Nat) (hnl : n = l.length) (hr : RowIs w 2 (.slice a n cap) n (l.flatMap rwL)) (hn : n ≤ 50000) (hT : TwR w base b n cap' l) :
    Calls Tryz.prog 47 #[.slice (some ⟨b, 0, none⟩) n cap', .slice a n cap] w fun e w' => e = .returned (.bool true) ∧ Ext w w' := by
  have hn' := Lib.hid hnl
  have hr' := Lib.hid hr
  have hT' := Lib.hid hT
  have hcap := hT.cap
  clear hnl hr hT
  have hci : ¬ (cap' : Int) ≤ (n : Int) := by omega
  go_enter Tryz.func47, Tryz.ntmps47
  go_wp2_with fail
  go_loopw [5] (fun i wr => ∃ k : Nat, k ≤ n ∧ i = .int .i64 k ∧ Ext w wr) (fun i _ => n - (intOf i).toNat)
  case atStart => exact ⟨0, by omega, rfl, Ext.refl _⟩
  case round =>
    obtain ⟨k, hk, rfl, hE⟩ := hrel
    have htw := (OwnC.row (hT'.out.ext hE))
    obtain ⟨tb, tof, hat2⟩ := htw.at
    obtain ⟨e1, _, hd2⟩ := hat2 (by omega)
    injection e1 with e1
    injection e1 with e1 e2
    subst e1 e2
    by_cases hlt : k < n
    · have hli : (k : Int) < (n : Int) := by omega
      obtain ⟨r, hrr⟩ : ∃ r, l[k]? = some r := ⟨_, List.getElem?_eq_getElem (by rw [← hn'.out]; exact hlt)⟩
      obtain ⟨lb, off, hat⟩ := (hr'.out.ext hE).at
      obtain ⟨rfl, _, hd⟩ := hat (by omega)
      have p := rws_range (by rw [← hn'.out]; exact hd) hrr
      have q := rws_range (l := l ++ [spareR]) (by rw [List.length_append, ← hn'.out]; exact hd2) (k := k) (x := r) (by rw [List.getElem?_append_left (by rw [← hn'.out]; exact hlt)]; exact hrr)
      rw [Nat.zero_add] at q
      clear hat hd hat2 hd2 hrr htw
      go_upto_region 6 with fail
      refine bqRegion (Ext wr) (by kernel_rfl) (by kernel_rfl) (Ext.refl _).drew ?_
      iterate 3 (refine bqStep (fun K hK => ?_); go_simp; first | (refine hK _ ?_; clear hK K) | (refine ⟨_, fun _ _ => rfl, hK _ ?_⟩; clear hK K))
      refine bqMid (by rfl) 134 _ (by rfl) b (k * 2) (by rfl) _ _ (fun w' h r u hu => h.cell (q r u hu)) Tryz.underlying134 rfl (by exact info_row) ?_
      iterate 3 (refine bqStep (fun K hK => ?_); go_simp; first | (refine hK _ ?_; clear hK K) | (refine ⟨_, fun _ _ => rfl, hK _ ?_⟩; clear hK K))
      refine bqMid (by rfl) 134 _ (by rfl) lb (off + k * 2) (by rfl) _ _ (fun w' h r u hu => h.cell (p r u hu)) Tryz.underlying134 rfl (by exact info_row) ?_
      refine ⟨wpQuiet_neq_rw (by rfl) (.tmp 28) (.tmp 32) (by rfl) r r (by rfl) (by rfl) ?_⟩
      rw [sameR_iff.2 rfl]
      refine wpQuiet_nil (fun w5 hE5 => ?_)
      simp only [Act.put, List.setIfInBounds_toArray, List.set_cons_zero, List.set_cons_succ, Bool.not_true]
      go_wp2_with fail
      go_roundw
      case rel => exact ⟨k + 1, by omega, by go_num, hE.trans hE5⟩
      case measure => simp [intOf]; omega
    · have hli : ¬ (k : Int) < (n : Int) := by omega
      have q := rws_range (l := l ++ [spareR]) (by rw [List.length_append, ← hn'.out]; exact hd2) (k := n) (x := spareR) (by rw [List.getElem?_append_right (by rw [← hn'.out]; exact Nat.le_refl _), ← hn'.out, Nat.sub_self]; rfl)
      rw [Nat.zero_add] at q
      have hi1 : (n : Int) + 1 ≤ (cap' : Int) := by omega
      have hi2 : 0 ≤ (n : Int) + 1 := by omega
      have hi3 : ((n : Int) + 1).toNat = n + 1 := by omega
      have hi4 : (n : Int) < ((n : Int) + 1) := by omega
      clear hat2 hd2 htw
      obtain ⟨W2, hW2⟩ : ∃ W, W = wr.alloc (.cells (rowR spareR) 134) := ⟨_, rfl⟩
      have hE2 : Ext w W2 := by rw [hW2]; exact hE.alloc _
      have hc0 : W2.cell? ⟨wr.heap.size, 0, none⟩ = some (.string ⟨#[115, 112, 97, 114, 101]⟩) := by rw [hW2, cell_of_row _ _ _ _ _ _ (heap_alloc_new wr _)]; rfl
      have hW2' := Lib.hid hW2
      clear hW2
      go_upto_region 9 with (first | (refine wpList_load_mid (by rfl) 134 (.tmp 41) (by rfl) b (n * 2) (by rfl) (rowR spareR).toList _ q Tryz.underlying134 rfl (by exact info_row) ?_) | (refine wpList_store_whole (by rfl) 134 (.tmp 6) (.tmp 42) (by rfl) wr _ (rowR spareR) wr.heap.size (by rfl) rfl (by rfl) (by exact info_row) (by rfl) (rowR_one spareR) ?_; rw [← hW2'.out]) | fail)
      clear hi1 hi2 hi3 hi4 q
      go_wp2_with fail
      go_ret
      exact ⟨rfl, hE2⟩
end Go.Proofs.YtmopjmhapeinjaaGreatDoor
