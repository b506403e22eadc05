/- Several texts in one: TwA TwB. No condition. -/
import Derived.Test.YthageoibkeebhaaGreatDoorTwC
import Derived.Deep.RegionHeld3
import Derived.StillTailTactics
import Derived.Test.YthageoibkeebhaaGreatDoorGrA
/- A twin of an ask; is it still what it was made of? No condition. -/
namespace Go.Proofs.YthageoibkeebhaaGreatDoor
open Go.RowKit
set_option maxRecDepth 100000
set_option maxHeartbeats 4000000
def TwAE (w : World) (x : Ak) (n : Nat) (e : Ending) (w' : World) : Prop := ∃ b cap, e = .returned (.agg (x.row (.slice (some ⟨b, 0, none⟩) n cap))) ∧ TwC w' w.heap.size b n cap x.chs ∧ Ext w w'
theorem TwC.weak {w : World} {base base' b n cap : Nat} {l : List Ch} (h : TwC w base' b n cap l) (hb : base ≤ base') : TwC w base b n cap l := OwnC.weak h hb
theorem twinA_any (w : World) (x : Ak) (a : Option Addr) (cap n : Nat) (hn : n = x.chs.length) (hr : RowIs w 3 (.slice a n cap) n (x.chs.flatMap Ch.cells)) (hl : n ≤ 50000) : Calls Tryz.prog 25 #[.agg (x.row (.slice a n cap))] w (TwAE w x n) := by
  obtain ⟨X, hX⟩ : ∃ X, X = w.heap.size := ⟨_, rfl⟩
  obtain ⟨V, hV⟩ : ∃ W, W = (w.alloc (.cells (x.row (.slice a n cap)) 66)).alloc (.cells #[.int .u8 0, .string ⟨#[]⟩, .string ⟨#[]⟩, .string ⟨#[]⟩, .bool false, .string ⟨#[]⟩, .int .i64 0, .slice none 0 0] 66) := ⟨_, rfl⟩
  have hE0 : Ext w V := by rw [hV]; exact ((Ext.refl _).alloc _).alloc _
  have hxo : Hid (∀ W, OffB (fun k => k = X + 1) V W → W.cell? ⟨X, 0, none⟩ = some (.int .u8 x.kind) ∧ W.cell? ⟨X, 1, none⟩ = some (.string x.key) ∧ W.cell? ⟨X, 2, none⟩ = some (.string x.val) ∧ W.cell? ⟨X, 3, none⟩ = some (.string x.old) ∧ W.cell? ⟨X, 4, none⟩ = some (.bool x.new) ∧ W.cell? ⟨X, 5, none⟩ = some (.string x.to) ∧ W.cell? ⟨X, 6, none⟩ = some (.int .i64 x.many) ∧ W.cell? ⟨X, 7, none⟩ = some (.slice a n cap)) := Lib.hid (fun W hE => by
    have h0 : V.heap[X]? = some (.cells (x.row (.slice a n cap)) 66 (0, 0)) := by rw [hV, hX]; exact ((Ext.refl _).alloc _).row (heap_alloc_new w _)
    have h1 := (hE.block X (Array.getElem?_eq_some_iff.1 h0).1 (fun hB => by have hB : X = X + 1 := hB; omega)).trans h0
    exact askc h1)
  have hrow : Hid (∀ W, Ext V W → W.heap[X + 1]? = some (.cells #[.int .u8 0, .string ⟨#[]⟩, .string ⟨#[]⟩, .string ⟨#[]⟩, .bool false, .string ⟨#[]⟩, .int .i64 0, .slice none 0 0] 66 (0, 0))) := Lib.hid (fun W hE => by
    have h1 := heap_alloc_new (w.alloc (.cells (x.row (.slice a n cap)) 66)) (.cells #[.int .u8 0, .string ⟨#[]⟩, .string ⟨#[]⟩, .string ⟨#[]⟩, .bool false, .string ⟨#[]⟩, .int .i64 0, .slice none 0 0] 66)
    rw [show (w.alloc (.cells (x.row (.slice a n cap)) 66)).heap.size = X + 1 by rw [hX]; simp] at h1
    exact hE.row (by rw [hV]; exact h1))
  have hth : Hid (∀ W, Ext V W → W.there (X + 1) 0 8) := Lib.hid (fun W hE j hj => by
    have h2 := hrow.out W hE
    exact ⟨by rw [cell_of_row _ _ _ _ _ _ h2, Nat.zero_add, Array.getElem?_eq_getElem (by simpa using hj)]; rfl, by unfold World.frozen?; rw [h2]; simp⟩)
  have hrun : Hid (∀ W b cap', Ext V W → (storeCells ⟨X + 1, 0, none⟩ (x.row (.slice (some ⟨b, 0, none⟩) n cap')).toList).run Tryz.prog W = .ok () (W.setCells (X + 1) 0 (x.row (.slice (some ⟨b, 0, none⟩) n cap')).toList)) := Lib.hid (fun W b cap' hE => run_storeCells_mid W (X + 1) 0 _ (show W.there (X + 1) 0 8 from hth.out W hE) (fun v hv => Array.all_eq_true_iff_forall_mem.1 (ask_one x (some ⟨b, 0, none⟩) n cap') v (by simpa using hv)))
  have htw : Hid (∀ W, Ext V W → Calls Tryz.prog 98 #[.slice a n cap] W fun e w' => ∃ b cap', e = .returned (.slice (some ⟨b, 0, none⟩) n cap') ∧ TwC w' W.heap.size b n cap' x.chs ∧ Ext W w') := Lib.hid (fun W hE => twinC_any W x.chs a cap n hn (hr.ext (hE0.trans hE)) hl)
  have hVs : Hid (V.heap.size = X + 2) := Lib.hid (by rw [hV, hX]; simp)
  have hV' := Lib.hid hV
  have hX' := Lib.hid hX
  have hsV := hE0.size
  obtain ⟨C, hC⟩ : ∃ C : Nat → Nat → Array Value, ∀ b c, C b c = x.row (.slice (some ⟨b, 0, none⟩) n c) := ⟨fun b c => x.row (.slice (some ⟨b, 0, none⟩) n c), fun _ _ => rfl⟩
  have hC' := Lib.hid hC
  have hsz : ∀ b c, (C b c).size = 8 := fun b c => by rw [hC]; rfl
  have hD : ∀ b c, (#[.int .u8 x.kind, .string x.key, .string x.val, .string x.old, .bool x.new, .string x.to, .int .i64 x.many, .slice (some ⟨b, 0, none⟩) n c] : Array Value) = C b c := fun b c => (hC b c).symm
  have hrunC : Hid (∀ W b cap', Ext V W → (storeCells ⟨X + 1, 0, none⟩ (C b cap').toList).run Tryz.prog W = .ok () (W.setCells (X + 1) 0 (C b cap').toList)) := Lib.hid (fun W b c hE => by rw [hC]; exact hrun.out W b c hE)
  clear hr hn hV hX hC
  unfold Ak.row at hV' ⊢
  go_enter Tryz.func25, Tryz.ntmps25
  go_upto_region 1 with fail
  rw [← hV'.out, ← hX'.out]
  go_region_held3 (fun w' => w'.cell? ⟨X, 0, none⟩ = some (.int .u8 x.kind) ∧ w'.cell? ⟨X, 1, none⟩ = some (.string x.key) ∧ w'.cell? ⟨X, 2, none⟩ = some (.string x.val) ∧ w'.cell? ⟨X, 3, none⟩ = some (.string x.old) ∧ w'.cell? ⟨X, 4, none⟩ = some (.bool x.new) ∧ w'.cell? ⟨X, 5, none⟩ = some (.string x.to) ∧ w'.cell? ⟨X, 6, none⟩ = some (.int .i64 x.many) ∧ w'.cell? ⟨X, 7, none⟩ = some (.slice a n cap)) ((refine hxo.out _ ?_; first | exact .of_ext (Ext.refl _).drew | exact .of_ext hV3 | exact OffB.setCells (B := fun k => k = X + 1) (.of_ext hV3) rfl _ _)) (first | (go_at_call 98; refine (htw.out _ (Ext.refl V).drew).mono ?_; rintro e w3 ⟨b, cap', rfl, hT, hE3⟩; have hV3 : Ext V w3 := (Ext.refl V).drew.trans hE3; have hT' := Lib.hid hT; clear hT; have hst := Lib.hid (hrunC.out w3 b cap' hV3)) | (rw [hst.out]; go_simp) | fail)
  all_goals
    have hset : (w3.setCells (X + 1) 0 (C b cap').toList).heap[X + 1]? = some (.cells (x.row (.slice (some ⟨b, 0, none⟩) n cap')) 66 (0, 0)) := by
      rw [hC'.out, setCells_heap (X + 1) 66 (0, 0) _ 0 w3 _ (hrow.out w3 hV3) (by show 0 + 8 ≤ 8; omega)]
      rfl
    have hOf : OffB (fun k => k = X + 1) w3 (w3.setCells (X + 1) 0 (C b cap').toList) := OffB.setCells (B := fun k => k = X + 1) (OffB.refl _) rfl _ _
    have hE6 : Ext w (w3.setCells (X + 1) 0 (C b cap').toList) := ((OffB.of_ext (hE0.trans hV3)).trans hOf).ext (fun k hk hB => by have hB : k = X + 1 := hB; rw [hX'.out] at hB; omega)
    have hT6 : TwC (w3.setCells (X + 1) 0 (C b cap').toList) w.heap.size b n cap' x.chs := by
      refine TwC.weak (OwnC.offB hT'.out hOf (fun q hq hB => ?_)) hsV
      have h5 := (OwnC.lt hT'.out q hq).1
      have hB : q = X + 1 := hB
      have h6 : V.drew.heap.size = V.heap.size := rfl
      have h7 := hVs.out
      omega
    generalize w3.setCells (X + 1) 0 (C b cap').toList = Wf at *
    obtain ⟨b0, b1, b2, b3, b4, b5, b6, b7⟩ := askc hset
    go_wp2_with fail
    exact bodyPost_ret (v := .agg (x.row (.slice (some ⟨b, 0, none⟩) n cap'))) (by simp [results, Tryz.results25, go_sem, b0, b1, b2, b3, b4, b5, b6, b7, Ak.row]) rfl ⟨b, cap', rfl, hT6, hE6⟩
end Go.Proofs.YthageoibkeebhaaGreatDoor

/- Is an ask's twin still what it was made of? No condition. -/
namespace Go.Proofs.YthageoibkeebhaaGreatDoor
open Go.RowKit
set_option maxRecDepth 100000
set_option maxHeartbeats 4000000
theorem leftA_any (w : World) (x : Ak) (a : Option Addr) (cap n base b cap' : Nat) (hn : n = x.chs.length) (hr : RowIs w 3 (.slice a n cap) n (x.chs.flatMap Ch.cells)) (hl : n ≤ 50000) (hT : TwC w base b n cap' x.chs) : Calls Tryz.prog 37 #[.agg (x.row (.slice (some ⟨b, 0, none⟩) n cap')), .agg (x.row (.slice a n cap))] w fun e w' => e = .returned (.bool true) ∧ Ext w w' := by
  obtain ⟨X, hX⟩ : ∃ X, X = w.heap.size := ⟨_, rfl⟩
  obtain ⟨V, hV⟩ : ∃ W, W = (w.alloc (.cells (x.row (.slice (some ⟨b, 0, none⟩) n cap')) 66)).alloc (.cells (x.row (.slice a n cap)) 66) := ⟨_, rfl⟩
  have hE0 : Ext w V := by rw [hV]; exact ((Ext.refl _).alloc _).alloc _
  have h1 : V.heap[X]? = some (.cells (x.row (.slice (some ⟨b, 0, none⟩) n cap')) 66 (0, 0)) := by rw [hV, hX]; exact ((Ext.refl _).alloc _).row (heap_alloc_new w _)
  have h2 : V.heap[X + 1]? = some (.cells (x.row (.slice a n cap)) 66 (0, 0)) := by
    have h1 := heap_alloc_new (w.alloc (.cells (x.row (.slice (some ⟨b, 0, none⟩) n cap')) 66)) (.cells (x.row (.slice a n cap)) 66)
    rw [show (w.alloc (.cells (x.row (.slice (some ⟨b, 0, none⟩) n cap')) 66)).heap.size = X + 1 by rw [hX]; simp] at h1
    rw [hV]; exact h1
  obtain ⟨x0, x1, x2, x3, x4, x5, x6, x7⟩ := askc h1
  obtain ⟨y0, y1, y2, y3, y4, y5, y6, y7⟩ := askc h2
  have hcall := Lib.hid (leftC_any V x.chs base b cap' a cap n hn (hr.ext hE0) hl (hT.ext hE0))
  have hV' := Lib.hid hV
  have hX' := Lib.hid hX
  clear hr hn hV hX h1 h2 hT
  unfold Ak.row at hV' ⊢
  go_enter Tryz.func37, Tryz.ntmps37
  go_upto_region 1 with fail
  rw [← hV'.out, ← hX'.out]
  go_wp2_with fail
  refine hcall.out.mono ?_
  rintro e w2 ⟨rfl, hE2⟩
  go_wp2_with fail
  go_ret
  exact ⟨rfl, hE0.trans hE2⟩
end Go.Proofs.YthageoibkeebhaaGreatDoor
