/- A twin of a message. (Printed by mktm.py.) No condition. -/
import Derived.Test.YtmopjmhapeinjaaGreatDoorGrA9
import Derived.Test.YtmopjmhapeinjaaGreatDoorGrB0
import Derived.Test.YtmopjmhapeinjaaGreatDoorGrB1
import Derived.Deep.RegionHeld3
import Derived.StillTailTactics
namespace Go.Proofs.YtmopjmhapeinjaaGreatDoor
open Go.RowKit
set_option maxRecDepth 100000
set_option maxHeartbeats 20000000
theorem info_msg : (Tryz.prog.info? 63).map (·.size) = some 16 := by kernel_rfl
theorem arr_one (x : Ms) (p : Ml) : (x.arr p).all (·.oneCell') = true := by kernel_rfl
theorem ms_cells {W : World} {g : Nat} {x : Ms} {p : Ml} (h : W.heap[g]? = some (.cells (x.arr p) 63 (0, 0))) : W.cell? ⟨g, 0, none⟩ = some (.int .u8 x.m.say) ∧ W.cell? ⟨g, 1, none⟩ = some (.int .u8 x.m.fr) ∧ W.cell? ⟨g, 2, none⟩ = some (.int .u8 x.m.to) ∧ W.cell? ⟨g, 3, none⟩ = some (.int .u32 x.m.ep) ∧ W.cell? ⟨g, 4, none⟩ = some (.int .u8 x.m.lv) ∧ W.cell? ⟨g, 5, none⟩ = some (.int .u32 x.m.num) ∧ W.cell? ⟨g, 6, none⟩ = some (.int .u64 x.m.ix) ∧ W.cell? ⟨g, 7, none⟩ = some (.int .u64 x.m.sure) ∧ W.cell? ⟨g, 8, none⟩ = some (.slice p.a8 x.ch.length p.c8) ∧ W.cell? ⟨g, 9, none⟩ = some (.slice p.a9 x.ha.length p.c9) ∧ W.cell? ⟨g, 10, none⟩ = some (.slice p.aI x.it.length p.cI) ∧ W.cell? ⟨g, 11, none⟩ = some (.slice p.aR x.ro.length p.cR) ∧ W.cell? ⟨g, 12, none⟩ = some (.slice p.aS x.sa.length p.cS) ∧ W.cell? ⟨g, 13, none⟩ = some (.int .i64 x.e) ∧ W.cell? ⟨g, 14, none⟩ = some (.bool x.yes) ∧ W.cell? ⟨g, 15, none⟩ = some (.slice p.aY x.rr.length p.cY) := by
  refine ⟨?_, ?_, ?_, ?_, ?_, ?_, ?_, ?_, ?_, ?_, ?_, ?_, ?_, ?_, ?_, ?_⟩ <;> (rw [cell_of_row _ _ _ _ 63 (0, 0) h]; rfl)
/-- Each of a message's lists is a twin, in memory from base on. -/
structure TwM (w : World) (base : Nat) (x : Ms) (it' : List It) (sa' : List Sa) (b8 d8 : Nat) (b9 d9 : Nat) (bI dI : Nat) (bR dR : Nat) (bS dS : Nat) (bY dY : Nat) : Prop where
  ch : TwY w base b8 x.ch.length d8 x.ch
  ha : TwN w base b9 x.ha.length d9 x.ha
  it : TwI w base bI x.it.length dI it'
  itb : it'.map It.bare = x.it.map It.bare
  ro : TwR w base bR x.ro.length dR x.ro
  sa : TwS w base bS x.sa.length dS sa'
  sab : sa'.map Sa.bare = x.sa.map Sa.bare
  rr : TwR w base bY x.rr.length dY x.rr
  sep : bR ≠ bY ∧ ∀ p ∈ sa', ∀ q, p.v.ownBlock = some q → q ≠ bR ∧ q ≠ bY
section
variable {w w' : World} {base base' : Nat} {x : Ms} {it' : List It} {sa' : List Sa} {b8 d8 b9 d9 bI dI bR dR bS dS bY dY : Nat}
theorem TwM.ext (h : TwM w base x it' sa' b8 d8 b9 d9 bI dI bR dR bS dS bY dY) (hE : Ext w w') : TwM w' base x it' sa' b8 d8 b9 d9 bI dI bR dR bS dS bY dY := ⟨h.ch.ext hE, h.ha.ext hE, h.it.ext hE, h.itb, h.ro.ext hE, h.sa.ext hE, h.sab, h.rr.ext hE, h.sep⟩
theorem TwI.weak {b n cap : Nat} {q : List It} (h : TwI w base' b n cap q) (hb : base ≤ base') : TwI w base b n cap q := ⟨h.1.weak hb, fun p hp => by
  obtain ⟨b, c, h1, h2⟩ := h.2.1 p hp
  exact ⟨b, c, h1, TwC.weak h2 hb⟩, h.2.2⟩
theorem TwS.weak {b n cap : Nat} {q : List Sa} (h : TwS w base' b n cap q) (hb : base ≤ base') : TwS w base b n cap q := ⟨h.1.weak hb, fun p hp => by
  obtain ⟨b, c, h1, h2⟩ := h.2.1 p hp
  exact ⟨b, c, h1, TwR.weak h2 hb⟩, h.2.2⟩
theorem TwI.offX {b n cap X : Nat} {q : List It} (h : TwI w base b n cap q) (hO : OffB (fun k => k = X) w w') (hX : X < base) : TwI w' base b n cap q := ⟨h.1.offB hO (fun k hk hB => by have h5 := (h.1.lt k hk).1; have hB : k = X := hB; omega), fun p hp => by
  obtain ⟨b, c, h1, h2⟩ := h.2.1 p hp
  exact ⟨b, c, h1, OwnC.offB h2 hO (fun k hk hB => by have h5 := (OwnC.lt h2 k hk).1; have hB : k = X := hB; omega)⟩, h.2.2⟩
theorem TwS.offX {b n cap X : Nat} {q : List Sa} (h : TwS w base b n cap q) (hO : OffB (fun k => k = X) w w') (hX : X < base) : TwS w' base b n cap q := ⟨h.1.offB hO (fun k hk hB => by have h5 := (h.1.lt k hk).1; have hB : k = X := hB; omega), fun p hp => by
  obtain ⟨b, c, h1, h2⟩ := h.2.1 p hp
  exact ⟨b, c, h1, OwnC.offB h2 hO (fun k hk hB => by have h5 := (OwnC.lt h2 k hk).1; have hB : k = X := hB; omega)⟩, h.2.2⟩
theorem TwM.weak (h : TwM w base' x it' sa' b8 d8 b9 d9 bI dI bR dR bS dS bY dY) (hb : base ≤ base') : TwM w base x it' sa' b8 d8 b9 d9 bI dI bR dR bS dS bY dY := ⟨OwnC.weak h.ch hb, OwnC.weak h.ha hb, h.it.weak hb, h.itb, TwR.weak h.ro hb, h.sa.weak hb, h.sab, TwR.weak h.rr hb, h.sep⟩
theorem TwM.offX {X : Nat} (h : TwM w base x it' sa' b8 d8 b9 d9 bI dI bR dR bS dS bY dY) (hO : OffB (fun k => k = X) w w') (hX : X < base) : TwM w' base x it' sa' b8 d8 b9 d9 bI dI bR dR bS dS bY dY := by
  have hq : ∀ {e : TypeId} {z n : Nat} {v : Value} {xs : List Value}, OwnC w base e z v n xs → OwnC w' base e z v n xs := fun h => h.offB hO (fun k hk hB => by have h5 := (h.lt k hk).1; have hB : k = X := hB; omega)
  exact ⟨hq h.ch, hq h.ha, h.it.offX hO hX, h.itb, hq h.ro, h.sa.offX hO hX, h.sab, hq h.rr, h.sep⟩
end
theorem tw_sep1 {wd we : World} {b1 bR nR cR bS n c : Nat} {l : List Rw} {q : List Sa} (hR : TwR wd b1 bR nR cR l) (hS : TwS we wd.heap.size bS n c q) : bR < wd.heap.size ∧ wd.heap.size ≤ we.heap.size ∧ ∀ p ∈ q, ∀ k, p.v.ownBlock = some k → wd.heap.size ≤ k ∧ k < we.heap.size := by
  have h1 := (OwnC.lt hR bR rfl).2
  have h2 := OwnC.lt hS.1 bS rfl
  refine ⟨h1, by omega, fun p hp k hk => ?_⟩
  obtain ⟨b, d, h3, h4⟩ := hS.2.1 p hp
  rw [h3] at hk
  injection hk with hk
  have hk : b = k := hk
  subst hk
  exact OwnC.lt h4 b rfl
theorem tw_sep2 {wd we w3 : World} {bR bY nY cY : Nat} {l : List Rw} {q : List Sa} (h : bR < wd.heap.size ∧ wd.heap.size ≤ we.heap.size ∧ ∀ p ∈ q, ∀ k, p.v.ownBlock = some k → wd.heap.size ≤ k ∧ k < we.heap.size) (hY : TwR w3 we.heap.size bY nY cY l) : bR ≠ bY ∧ ∀ p ∈ q, ∀ k, p.v.ownBlock = some k → k ≠ bR ∧ k ≠ bY := by
  have h1 := (OwnC.lt hY bY rfl).1
  refine ⟨by omega, fun p hp k hk => ?_⟩
  have h2 := h.2.2 p hp k hk
  omega
def TwME (x : Ms) (w : World) (e : Ending) (w' : World) : Prop := ∃ it' sa' b8 d8 b9 d9 bI dI bR dR bS dS bY dY, e = .returned (.agg (x.arr ⟨some ⟨b8, 0, none⟩, d8, some ⟨b9, 0, none⟩, d9, some ⟨bI, 0, none⟩, dI, some ⟨bR, 0, none⟩, dR, some ⟨bS, 0, none⟩, dS, some ⟨bY, 0, none⟩, dY⟩)) ∧ TwM w' w.heap.size x it' sa' b8 d8 b9 d9 bI dI bR dR bS dS bY dY ∧ Ext w w'
/-- A message whose lists are not long. -/
structure Ms.few (x : Ms) : Prop where
  ch : x.ch.length ≤ 50000
  ha : x.ha.length ≤ 50000
  it : x.it.length ≤ 50000
  its : ∀ y ∈ x.it, y.ask.chs.length ≤ 50000
  ro : x.ro.length ≤ 50000
  sa : x.sa.length ≤ 50000
  sas : ∀ y ∈ x.sa, y.rows.length ≤ 50000
  rr : x.rr.length ≤ 50000
theorem goodI_at {w : World} {l : List It} (h : ∀ y ∈ l, y.goodD w) : ItAt w l := fun y hy => by
  obtain ⟨a, c, h1, h2⟩ := h y hy
  exact ⟨a, c, h1, h2.1.1⟩
theorem goodS_at {w : World} {l : List Sa} (h : ∀ y ∈ l, y.goodD w) : SaAt w l := fun y hy => (h y hy).1
theorem twinM_any (w : World) (x : Ms) (p : Ml) (h : MsAt w x p) (hf : x.few) : Calls Tryz.prog 19 #[.agg (x.arr p)] w (TwME x w) := by
  obtain ⟨X, hX⟩ : ∃ X, X = w.heap.size := ⟨_, rfl⟩
  obtain ⟨V, hV⟩ : ∃ W, W = (w.alloc (.cells (x.arr p) 63)).alloc (.cells #[.int .u8 0, .int .u8 0, .int .u8 0, .int .u32 0, .int .u8 0, .int .u32 0, .int .u64 0, .int .u64 0, .slice none 0 0, .slice none 0 0, .slice none 0 0, .slice none 0 0, .slice none 0 0, .int .i64 0, .bool false, .slice none 0 0] 63) := ⟨_, rfl⟩
  have hE0 : Ext w V := by rw [hV]; exact ((Ext.refl _).alloc _).alloc _
  have hxo : Hid (∀ W, OffB (fun k => k = X + 1) V W → W.cell? ⟨X, 0, none⟩ = some (.int .u8 x.m.say) ∧ W.cell? ⟨X, 1, none⟩ = some (.int .u8 x.m.fr) ∧ W.cell? ⟨X, 2, none⟩ = some (.int .u8 x.m.to) ∧ W.cell? ⟨X, 3, none⟩ = some (.int .u32 x.m.ep) ∧ W.cell? ⟨X, 4, none⟩ = some (.int .u8 x.m.lv) ∧ W.cell? ⟨X, 5, none⟩ = some (.int .u32 x.m.num) ∧ W.cell? ⟨X, 6, none⟩ = some (.int .u64 x.m.ix) ∧ W.cell? ⟨X, 7, none⟩ = some (.int .u64 x.m.sure) ∧ W.cell? ⟨X, 8, none⟩ = some (.slice p.a8 x.ch.length p.c8) ∧ W.cell? ⟨X, 9, none⟩ = some (.slice p.a9 x.ha.length p.c9) ∧ W.cell? ⟨X, 10, none⟩ = some (.slice p.aI x.it.length p.cI) ∧ W.cell? ⟨X, 11, none⟩ = some (.slice p.aR x.ro.length p.cR) ∧ W.cell? ⟨X, 12, none⟩ = some (.slice p.aS x.sa.length p.cS) ∧ W.cell? ⟨X, 13, none⟩ = some (.int .i64 x.e) ∧ W.cell? ⟨X, 14, none⟩ = some (.bool x.yes) ∧ W.cell? ⟨X, 15, none⟩ = some (.slice p.aY x.rr.length p.cY)) := Lib.hid (fun W hE => by
    have h0 : V.heap[X]? = some (.cells (x.arr p) 63 (0, 0)) := by rw [hV, hX]; exact ((Ext.refl _).alloc _).row (heap_alloc_new w _)
    have h1 := (hE.block X (Array.getElem?_eq_some_iff.1 h0).1 (fun hB => by have hB : X = X + 1 := hB; omega)).trans h0
    exact ms_cells h1)
  have hrow : Hid (∀ W, Ext V W → W.heap[X + 1]? = some (.cells #[.int .u8 0, .int .u8 0, .int .u8 0, .int .u32 0, .int .u8 0, .int .u32 0, .int .u64 0, .int .u64 0, .slice none 0 0, .slice none 0 0, .slice none 0 0, .slice none 0 0, .slice none 0 0, .int .i64 0, .bool false, .slice none 0 0] 63 (0, 0))) := Lib.hid (fun W hE => by
    have h1 := heap_alloc_new (w.alloc (.cells (x.arr p) 63)) (.cells #[.int .u8 0, .int .u8 0, .int .u8 0, .int .u32 0, .int .u8 0, .int .u32 0, .int .u64 0, .int .u64 0, .slice none 0 0, .slice none 0 0, .slice none 0 0, .slice none 0 0, .slice none 0 0, .int .i64 0, .bool false, .slice none 0 0] 63)
    rw [show (w.alloc (.cells (x.arr p) 63)).heap.size = X + 1 by rw [hX]; simp] at h1
    exact hE.row (by rw [hV]; exact h1))
  have hth : Hid (∀ W, Ext V W → W.there (X + 1) 0 16) := Lib.hid (fun W hE j hj => by
    have h2 := hrow.out W hE
    exact ⟨by rw [cell_of_row _ _ _ _ _ _ h2, Nat.zero_add, Array.getElem?_eq_getElem (by simpa using hj)]; rfl, by unfold World.frozen?; rw [h2]; simp⟩)
  have hrun : Hid (∀ W q, Ext V W → (storeCells ⟨X + 1, 0, none⟩ (x.arr q).toList).run Tryz.prog W = .ok () (W.setCells (X + 1) 0 (x.arr q).toList)) := Lib.hid (fun W q hE => run_storeCells_mid W (X + 1) 0 _ (show W.there (X + 1) 0 16 from hth.out W hE) (fun v hv => Array.all_eq_true_iff_forall_mem.1 (arr_one x q) v (by simpa using hv)))
  have q1 : Hid (∀ W, Ext V W → Calls Tryz.prog 38 #[.slice p.a8 x.ch.length p.c8] W fun e w' => ∃ b cap', e = .returned (.slice (some ⟨b, 0, none⟩) x.ch.length cap') ∧ TwY w' W.heap.size b x.ch.length cap' x.ch ∧ Ext W w') := Lib.hid (fun W hE => twinY_any W x.ch p.a8 p.c8 x.ch.length rfl (h.ch.ext (hE0.trans hE)) hf.ch)
  have q2 : Hid (∀ W, Ext V W → Calls Tryz.prog 39 #[.slice p.a9 x.ha.length p.c9] W fun e w' => ∃ b cap', e = .returned (.slice (some ⟨b, 0, none⟩) x.ha.length cap') ∧ TwN w' W.heap.size b x.ha.length cap' x.ha ∧ Ext W w') := Lib.hid (fun W hE => twinN_any W x.ha p.a9 p.c9 x.ha.length rfl (h.ha.ext (hE0.trans hE)) hf.ha)
  have q3 : Hid (∀ W, Ext V W → Calls Tryz.prog 40 #[.slice p.aI x.it.length p.cI] W (TwIE x.it x.it.length W)) := Lib.hid (fun W hE => twinIts_any W x.it p.aI p.cI x.it.length rfl (h.it.ext (hE0.trans hE)) hf.it (ItAt.ext (goodI_at h.its) (hE0.trans hE)) hf.its)
  have q4 : Hid (∀ W, Ext V W → Calls Tryz.prog 41 #[.slice p.aR x.ro.length p.cR] W fun e w' => ∃ b cap', e = .returned (.slice (some ⟨b, 0, none⟩) x.ro.length cap') ∧ TwR w' W.heap.size b x.ro.length cap' x.ro ∧ Ext W w') := Lib.hid (fun W hE => tRows_any W x.ro p.aR p.cR x.ro.length rfl (h.ro.ext (hE0.trans hE)) hf.ro)
  have q5 : Hid (∀ W, Ext V W → Calls Tryz.prog 42 #[.slice p.aS x.sa.length p.cS] W (TwSE x.sa x.sa.length W)) := Lib.hid (fun W hE => twinSds_any W x.sa p.aS p.cS x.sa.length rfl (h.sa.ext (hE0.trans hE)) hf.sa (SaAt.ext (goodS_at h.sas) (hE0.trans hE)) hf.sas)
  have q6 : Hid (∀ W, Ext V W → Calls Tryz.prog 43 #[.agg #[.int .i64 x.e, .bool x.yes, .slice p.aY x.rr.length p.cY]] W fun e w' => ∃ b cap', e = .returned (.agg #[.int .i64 x.e, .bool x.yes, .slice (some ⟨b, 0, none⟩) x.rr.length cap']) ∧ TwR w' W.heap.size b x.rr.length cap' x.rr ∧ Ext W w') := Lib.hid (fun W hE => twinRp_any W x.e x.yes x.rr p.aY p.cY x.rr.length rfl (h.rr.ext (hE0.trans hE)) hf.rr)
  have hVs : Hid (V.heap.size = X + 2) := Lib.hid (by rw [hV, hX]; simp)
  have hV' := Lib.hid hV
  have hX' := Lib.hid hX
  have hsV := hE0.size
  obtain ⟨C, hC⟩ : ∃ C : Nat → Nat → Nat → Nat → Nat → Nat → Nat → Nat → Nat → Nat → Nat → Nat → Array Value, ∀ b8 d8 b9 d9 bI dI bR dR bS dS bY dY, C b8 d8 b9 d9 bI dI bR dR bS dS bY dY = x.arr ⟨some ⟨b8, 0, none⟩, d8, some ⟨b9, 0, none⟩, d9, some ⟨bI, 0, none⟩, dI, some ⟨bR, 0, none⟩, dR, some ⟨bS, 0, none⟩, dS, some ⟨bY, 0, none⟩, dY⟩ := ⟨fun b8 d8 b9 d9 bI dI bR dR bS dS bY dY => x.arr ⟨some ⟨b8, 0, none⟩, d8, some ⟨b9, 0, none⟩, d9, some ⟨bI, 0, none⟩, dI, some ⟨bR, 0, none⟩, dR, some ⟨bS, 0, none⟩, dS, some ⟨bY, 0, none⟩, dY⟩, fun _ _ _ _ _ _ _ _ _ _ _ _ => rfl⟩
  have hC' := Lib.hid hC
  have hsz : ∀ b8 d8 b9 d9 bI dI bR dR bS dS bY dY, (C b8 d8 b9 d9 bI dI bR dR bS dS bY dY).size = 16 := fun b8 d8 b9 d9 bI dI bR dR bS dS bY dY => by rw [hC]; rfl
  have hD : ∀ b8 d8 b9 d9 bI dI bR dR bS dS bY dY, (#[.int .u8 x.m.say, .int .u8 x.m.fr, .int .u8 x.m.to, .int .u32 x.m.ep, .int .u8 x.m.lv, .int .u32 x.m.num, .int .u64 x.m.ix, .int .u64 x.m.sure, .slice (some ⟨b8, 0, none⟩) x.ch.length d8, .slice (some ⟨b9, 0, none⟩) x.ha.length d9, .slice (some ⟨bI, 0, none⟩) x.it.length dI, .slice (some ⟨bR, 0, none⟩) x.ro.length dR, .slice (some ⟨bS, 0, none⟩) x.sa.length dS, .int .i64 x.e, .bool x.yes, .slice (some ⟨bY, 0, none⟩) x.rr.length dY] : Array Value) = C b8 d8 b9 d9 bI dI bR dR bS dS bY dY := fun b8 d8 b9 d9 bI dI bR dR bS dS bY dY => (hC b8 d8 b9 d9 bI dI bR dR bS dS bY dY).symm
  have hrunC : Hid (∀ W b8 d8 b9 d9 bI dI bR dR bS dS bY dY, Ext V W → (storeCells ⟨X + 1, 0, none⟩ (C b8 d8 b9 d9 bI dI bR dR bS dS bY dY).toList).run Tryz.prog W = .ok () (W.setCells (X + 1) 0 (C b8 d8 b9 d9 bI dI bR dR bS dS bY dY).toList)) := Lib.hid (fun W b8 d8 b9 d9 bI dI bR dR bS dS bY dY hE => by rw [hC]; exact hrun.out W _ hE)
  clear h hV hX hC hf
  unfold Ms.arr Ms.row Mg.row at hV' ⊢
  go_enter Tryz.func19, Tryz.ntmps19
  go_upto_region 1 with fail
  rw [← hV'.out, ← hX'.out]
  go_region_held3 (fun w' => w'.cell? ⟨X, 0, none⟩ = some (.int .u8 x.m.say) ∧ w'.cell? ⟨X, 1, none⟩ = some (.int .u8 x.m.fr) ∧ w'.cell? ⟨X, 2, none⟩ = some (.int .u8 x.m.to) ∧ w'.cell? ⟨X, 3, none⟩ = some (.int .u32 x.m.ep) ∧ w'.cell? ⟨X, 4, none⟩ = some (.int .u8 x.m.lv) ∧ w'.cell? ⟨X, 5, none⟩ = some (.int .u32 x.m.num) ∧ w'.cell? ⟨X, 6, none⟩ = some (.int .u64 x.m.ix) ∧ w'.cell? ⟨X, 7, none⟩ = some (.int .u64 x.m.sure) ∧ w'.cell? ⟨X, 8, none⟩ = some (.slice p.a8 x.ch.length p.c8) ∧ w'.cell? ⟨X, 9, none⟩ = some (.slice p.a9 x.ha.length p.c9) ∧ w'.cell? ⟨X, 10, none⟩ = some (.slice p.aI x.it.length p.cI) ∧ w'.cell? ⟨X, 11, none⟩ = some (.slice p.aR x.ro.length p.cR) ∧ w'.cell? ⟨X, 12, none⟩ = some (.slice p.aS x.sa.length p.cS) ∧ w'.cell? ⟨X, 13, none⟩ = some (.int .i64 x.e) ∧ w'.cell? ⟨X, 14, none⟩ = some (.bool x.yes) ∧ w'.cell? ⟨X, 15, none⟩ = some (.slice p.aY x.rr.length p.cY)) ((refine hxo.out _ ?_; first | exact .of_ext (Ext.refl _).drew | exact .of_ext (by assumption) | exact OffB.setCells (B := fun k => k = X + 1) (.of_ext (by assumption)) rfl _ _)) (first | (go_at_call 38; refine (q1.out _ (Ext.refl V).drew).mono ?_; rintro e wa ⟨b8, d8, rfl, hT, hEx⟩; have hVa : Ext V wa := (Ext.refl V).drew.trans hEx; have tA := Lib.hid hT; clear hT hEx) | (go_at_call 39; refine (q2.out wa hVa).mono ?_; rintro e wb ⟨b9, d9, rfl, hT, hEx⟩; have hVb : Ext V wb := hVa.trans hEx; have tB := Lib.hid (And.intro (tA.out.ext hEx) hT); clear hT hEx) | (go_at_call 40; refine (q3.out wb hVb).mono ?_; rintro e wc ⟨bI, dI, it', rfl, hb, hT, hEx⟩; have hVc : Ext V wc := hVb.trans hEx; have tC := Lib.hid (And.intro (And.intro (tB.out.1.ext hEx) (tB.out.2.ext hEx)) (And.intro hT hb)); clear hT hEx hb) | (go_at_call 41; refine (q4.out wc hVc).mono ?_; rintro e wd ⟨bR, dR, rfl, hT, hEx⟩; have hVd : Ext V wd := hVc.trans hEx; have tD := Lib.hid (And.intro (And.intro (And.intro (tC.out.1.1.ext hEx) (tC.out.1.2.ext hEx)) (And.intro (tC.out.2.1.ext hEx) tC.out.2.2)) hT); clear hT hEx) | (go_at_call 42; refine (q5.out wd hVd).mono ?_; rintro e we ⟨bS, dS, sa', rfl, hb, hT, hEx⟩; have hVe : Ext V we := hVd.trans hEx; have sA := Lib.hid (tw_sep1 tD.out.2 hT); have tE := Lib.hid (And.intro (And.intro (And.intro (And.intro (tD.out.1.1.1.ext hEx) (tD.out.1.1.2.ext hEx)) (And.intro (tD.out.1.2.1.ext hEx) tD.out.1.2.2)) (tD.out.2.ext hEx)) (And.intro hT hb)); clear hT hEx hb) | (go_at_call 43; refine (q6.out we hVe).mono ?_; rintro e w3 ⟨bY, dY, rfl, hT, hEx⟩; have hV3 : Ext V w3 := hVe.trans hEx; have hst := Lib.hid (hrunC.out w3 b8 d8 b9 d9 bI dI bR dR bS dS bY dY hV3); have tF : Hid (TwM w3 V.heap.size x it' sa' b8 d8 b9 d9 bI dI bR dR bS dS bY dY) := Lib.hid ⟨tE.out.1.1.1.1.ext hEx, OwnC.weak (tE.out.1.1.1.2.ext hEx) hVa.size, (tE.out.1.1.2.1.ext hEx).weak hVb.size, tE.out.1.1.2.2, TwR.weak (tE.out.1.2.ext hEx) hVc.size, (tE.out.2.1.ext hEx).weak hVd.size, tE.out.2.2, TwR.weak hT hVe.size, tw_sep2 sA.out hT⟩; clear hT hEx) | (rw [hst.out]; go_simp) | fail)
  all_goals
    have hset : (w3.setCells (X + 1) 0 (C b8 d8 b9 d9 bI dI bR dR bS dS bY dY).toList).heap[X + 1]? = some (.cells (x.arr ⟨some ⟨b8, 0, none⟩, d8, some ⟨b9, 0, none⟩, d9, some ⟨bI, 0, none⟩, dI, some ⟨bR, 0, none⟩, dR, some ⟨bS, 0, none⟩, dS, some ⟨bY, 0, none⟩, dY⟩) 63 (0, 0)) := by
      rw [hC'.out, setCells_heap (X + 1) 63 (0, 0) _ 0 w3 _ (hrow.out w3 hV3) (by show 0 + 16 ≤ 16; omega)]
      rfl
    have hOf : OffB (fun k => k = X + 1) w3 (w3.setCells (X + 1) 0 (C b8 d8 b9 d9 bI dI bR dR bS dS bY dY).toList) := OffB.setCells (B := fun k => k = X + 1) (OffB.refl _) rfl _ _
    have hE6 : Ext w (w3.setCells (X + 1) 0 (C b8 d8 b9 d9 bI dI bR dR bS dS bY dY).toList) := ((OffB.of_ext (hE0.trans hV3)).trans hOf).ext (fun k hk hB => by have hB : k = X + 1 := hB; rw [hX'.out] at hB; omega)
    have hT6 := ((tF.out.offX hOf (by rw [hVs.out]; omega)).weak hsV)
    generalize w3.setCells (X + 1) 0 (C b8 d8 b9 d9 bI dI bR dR bS dS bY dY).toList = Wf at *
    obtain ⟨z0, z1, z2, z3, z4, z5, z6, z7, z8, z9, z10, z11, z12, z13, z14, z15⟩ := ms_cells hset
    go_wp2_with fail
    exact bodyPost_ret (v := .agg (x.arr ⟨some ⟨b8, 0, none⟩, d8, some ⟨b9, 0, none⟩, d9, some ⟨bI, 0, none⟩, dI, some ⟨bR, 0, none⟩, dR, some ⟨bS, 0, none⟩, dS, some ⟨bY, 0, none⟩, dY⟩)) (by simp [results, Tryz.results19, go_sem, z0, z1, z2, z3, z4, z5, z6, z7, z8, z9, z10, z11, z12, z13, z14, z15, Ms.arr, Ms.row, Mg.row]) rfl ⟨it', sa', b8, d8, b9, d9, bI, dI, bR, dR, bS, dS, bY, dY, rfl, hT6, hE6⟩
end Go.Proofs.YtmopjmhapeinjaaGreatDoor
