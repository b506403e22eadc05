/- Several texts in one: LfM Bb2. No condition. -/
import Derived.Test.YtmopjmhapeinjaaGreatDoorTwM
import Derived.Test.YtmopjmhapeinjaaGreatDoorLfI
import Derived.Test.YtmopjmhapeinjaaGreatDoorLfS
import Derived.Test.YtmopjmhapeinjaaGreatDoorGrC7
/- Is a message's twin still what it was made of? (Printed by mktm.py.) No condition. -/
namespace Go.Proofs.YtmopjmhapeinjaaGreatDoor
open Go.RowKit
set_option maxRecDepth 100000
set_option maxHeartbeats 20000000
theorem leftM_any (w : World) (x : Ms) (p : Ml) (h : MsAt w x p) (hf : x.few) (base : Nat) (it' : List It) (sa' : List Sa) (b8 d8 b9 d9 bI dI bR dR bS dS bY dY : Nat) (hT : TwM w base x it' sa' b8 d8 b9 d9 bI dI bR dR bS dS bY dY) : Calls Tryz.prog 22 #[.agg (x.arr ⟨some ⟨b8, 0, none⟩, d8, some ⟨b9, 0, none⟩, d9, some ⟨bI, 0, none⟩, dI, some ⟨bR, 0, none⟩, dR, some ⟨bS, 0, none⟩, dS, some ⟨bY, 0, none⟩, dY⟩), .agg (x.arr p)] w fun e w' => e = .returned (.bool true) ∧ Ext w w' := by
  obtain ⟨X, hX⟩ : ∃ X, X = w.heap.size := ⟨_, rfl⟩
  obtain ⟨V, hV⟩ : ∃ W, W = (w.alloc (.cells (x.arr ⟨some ⟨b8, 0, none⟩, d8, some ⟨b9, 0, none⟩, d9, some ⟨bI, 0, none⟩, dI, some ⟨bR, 0, none⟩, dR, some ⟨bS, 0, none⟩, dS, some ⟨bY, 0, none⟩, dY⟩) 63)).alloc (.cells (x.arr p) 63) := ⟨_, rfl⟩
  have hE0 : Ext w V := by rw [hV]; exact ((Ext.refl _).alloc _).alloc _
  have h1 : V.heap[X]? = some (.cells (x.arr ⟨some ⟨b8, 0, none⟩, d8, some ⟨b9, 0, none⟩, d9, some ⟨bI, 0, none⟩, dI, some ⟨bR, 0, none⟩, dR, some ⟨bS, 0, none⟩, dS, some ⟨bY, 0, none⟩, dY⟩) 63 (0, 0)) := by rw [hV, hX]; exact ((Ext.refl _).alloc _).row (heap_alloc_new w _)
  have h2 : V.heap[X + 1]? = some (.cells (x.arr p) 63 (0, 0)) := by
    have h1 := heap_alloc_new (w.alloc (.cells (x.arr ⟨some ⟨b8, 0, none⟩, d8, some ⟨b9, 0, none⟩, d9, some ⟨bI, 0, none⟩, dI, some ⟨bR, 0, none⟩, dR, some ⟨bS, 0, none⟩, dS, some ⟨bY, 0, none⟩, dY⟩) 63)) (.cells (x.arr p) 63)
    rw [show (w.alloc (.cells (x.arr ⟨some ⟨b8, 0, none⟩, d8, some ⟨b9, 0, none⟩, d9, some ⟨bI, 0, none⟩, dI, some ⟨bR, 0, none⟩, dR, some ⟨bS, 0, none⟩, dS, some ⟨bY, 0, none⟩, dY⟩) 63)).heap.size = X + 1 by rw [hX]; simp] at h1
    rw [hV]; exact h1
  have hc1 : Hid (∀ W, Ext V W → W.cell? ⟨X, 0, none⟩ = some (.int .u8 x.m.say) ∧ W.cell? ⟨X, 1, none⟩ = some (.int .u8 x.m.fr) ∧ W.cell? ⟨X, 2, none⟩ = some (.int .u8 x.m.to) ∧ W.cell? ⟨X, 3, none⟩ = some (.int .u32 x.m.ep) ∧ W.cell? ⟨X, 4, none⟩ = some (.int .u8 x.m.lv) ∧ W.cell? ⟨X, 5, none⟩ = some (.int .u32 x.m.num) ∧ W.cell? ⟨X, 6, none⟩ = some (.int .u64 x.m.ix) ∧ W.cell? ⟨X, 7, none⟩ = some (.int .u64 x.m.sure) ∧ W.cell? ⟨X, 8, none⟩ = some (.slice (⟨some ⟨b8, 0, none⟩, d8, some ⟨b9, 0, none⟩, d9, some ⟨bI, 0, none⟩, dI, some ⟨bR, 0, none⟩, dR, some ⟨bS, 0, none⟩, dS, some ⟨bY, 0, none⟩, dY⟩ : Ml).a8 x.ch.length (⟨some ⟨b8, 0, none⟩, d8, some ⟨b9, 0, none⟩, d9, some ⟨bI, 0, none⟩, dI, some ⟨bR, 0, none⟩, dR, some ⟨bS, 0, none⟩, dS, some ⟨bY, 0, none⟩, dY⟩ : Ml).c8) ∧ W.cell? ⟨X, 9, none⟩ = some (.slice (⟨some ⟨b8, 0, none⟩, d8, some ⟨b9, 0, none⟩, d9, some ⟨bI, 0, none⟩, dI, some ⟨bR, 0, none⟩, dR, some ⟨bS, 0, none⟩, dS, some ⟨bY, 0, none⟩, dY⟩ : Ml).a9 x.ha.length (⟨some ⟨b8, 0, none⟩, d8, some ⟨b9, 0, none⟩, d9, some ⟨bI, 0, none⟩, dI, some ⟨bR, 0, none⟩, dR, some ⟨bS, 0, none⟩, dS, some ⟨bY, 0, none⟩, dY⟩ : Ml).c9) ∧ W.cell? ⟨X, 10, none⟩ = some (.slice (⟨some ⟨b8, 0, none⟩, d8, some ⟨b9, 0, none⟩, d9, some ⟨bI, 0, none⟩, dI, some ⟨bR, 0, none⟩, dR, some ⟨bS, 0, none⟩, dS, some ⟨bY, 0, none⟩, dY⟩ : Ml).aI x.it.length (⟨some ⟨b8, 0, none⟩, d8, some ⟨b9, 0, none⟩, d9, some ⟨bI, 0, none⟩, dI, some ⟨bR, 0, none⟩, dR, some ⟨bS, 0, none⟩, dS, some ⟨bY, 0, none⟩, dY⟩ : Ml).cI) ∧ W.cell? ⟨X, 11, none⟩ = some (.slice (⟨some ⟨b8, 0, none⟩, d8, some ⟨b9, 0, none⟩, d9, some ⟨bI, 0, none⟩, dI, some ⟨bR, 0, none⟩, dR, some ⟨bS, 0, none⟩, dS, some ⟨bY, 0, none⟩, dY⟩ : Ml).aR x.ro.length (⟨some ⟨b8, 0, none⟩, d8, some ⟨b9, 0, none⟩, d9, some ⟨bI, 0, none⟩, dI, some ⟨bR, 0, none⟩, dR, some ⟨bS, 0, none⟩, dS, some ⟨bY, 0, none⟩, dY⟩ : Ml).cR) ∧ W.cell? ⟨X, 12, none⟩ = some (.slice (⟨some ⟨b8, 0, none⟩, d8, some ⟨b9, 0, none⟩, d9, some ⟨bI, 0, none⟩, dI, some ⟨bR, 0, none⟩, dR, some ⟨bS, 0, none⟩, dS, some ⟨bY, 0, none⟩, dY⟩ : Ml).aS x.sa.length (⟨some ⟨b8, 0, none⟩, d8, some ⟨b9, 0, none⟩, d9, some ⟨bI, 0, none⟩, dI, some ⟨bR, 0, none⟩, dR, some ⟨bS, 0, none⟩, dS, some ⟨bY, 0, none⟩, dY⟩ : Ml).cS) ∧ W.cell? ⟨X, 13, none⟩ = some (.int .i64 x.e) ∧ W.cell? ⟨X, 14, none⟩ = some (.bool x.yes) ∧ W.cell? ⟨X, 15, none⟩ = some (.slice (⟨some ⟨b8, 0, none⟩, d8, some ⟨b9, 0, none⟩, d9, some ⟨bI, 0, none⟩, dI, some ⟨bR, 0, none⟩, dR, some ⟨bS, 0, none⟩, dS, some ⟨bY, 0, none⟩, dY⟩ : Ml).aY x.rr.length (⟨some ⟨b8, 0, none⟩, d8, some ⟨b9, 0, none⟩, d9, some ⟨bI, 0, none⟩, dI, some ⟨bR, 0, none⟩, dR, some ⟨bS, 0, none⟩, dS, some ⟨bY, 0, none⟩, dY⟩ : Ml).cY)) := Lib.hid (fun W hE => ms_cells (hE.row h1))
  have hc2 : Hid (∀ W, Ext V W → W.cell? ⟨X + 1, 0, none⟩ = some (.int .u8 x.m.say) ∧ W.cell? ⟨X + 1, 1, none⟩ = some (.int .u8 x.m.fr) ∧ W.cell? ⟨X + 1, 2, none⟩ = some (.int .u8 x.m.to) ∧ W.cell? ⟨X + 1, 3, none⟩ = some (.int .u32 x.m.ep) ∧ W.cell? ⟨X + 1, 4, none⟩ = some (.int .u8 x.m.lv) ∧ W.cell? ⟨X + 1, 5, none⟩ = some (.int .u32 x.m.num) ∧ W.cell? ⟨X + 1, 6, none⟩ = some (.int .u64 x.m.ix) ∧ W.cell? ⟨X + 1, 7, none⟩ = some (.int .u64 x.m.sure) ∧ W.cell? ⟨X + 1, 8, none⟩ = some (.slice p.a8 x.ch.length p.c8) ∧ W.cell? ⟨X + 1, 9, none⟩ = some (.slice p.a9 x.ha.length p.c9) ∧ W.cell? ⟨X + 1, 10, none⟩ = some (.slice p.aI x.it.length p.cI) ∧ W.cell? ⟨X + 1, 11, none⟩ = some (.slice p.aR x.ro.length p.cR) ∧ W.cell? ⟨X + 1, 12, none⟩ = some (.slice p.aS x.sa.length p.cS) ∧ W.cell? ⟨X + 1, 13, none⟩ = some (.int .i64 x.e) ∧ W.cell? ⟨X + 1, 14, none⟩ = some (.bool x.yes) ∧ W.cell? ⟨X + 1, 15, none⟩ = some (.slice p.aY x.rr.length p.cY)) := Lib.hid (fun W hE => ms_cells (hE.row h2))
  have q1 := Lib.hid (fun W (hE : Ext V W) => leftY_any W x.ch base b8 d8 p.a8 p.c8 x.ch.length rfl (h.ch.ext (hE0.trans hE)) hf.ch (hT.ch.ext (hE0.trans hE)))
  have q2 := Lib.hid (fun W (hE : Ext V W) => leftN_any W x.ha base b9 d9 p.a9 p.c9 x.ha.length rfl (h.ha.ext (hE0.trans hE)) hf.ha (hT.ha.ext (hE0.trans hE)))
  have q3 := Lib.hid (fun W (hE : Ext V W) => leftIts_any W x.it it' base bI dI p.aI p.cI x.it.length rfl (h.it.ext (hE0.trans hE)) hf.it (ItAt.ext (goodI_at h.its) (hE0.trans hE)) hf.its hT.itb (hT.it.ext (hE0.trans hE)))
  have q4 := Lib.hid (fun W (hE : Ext V W) => lRows_any W x.ro base bR dR p.aR p.cR x.ro.length rfl (h.ro.ext (hE0.trans hE)) hf.ro (hT.ro.ext (hE0.trans hE)))
  have q5 := Lib.hid (fun W (hE : Ext V W) => leftSds_any W x.sa sa' base bS dS p.aS p.cS x.sa.length rfl (h.sa.ext (hE0.trans hE)) hf.sa (SaAt.ext (goodS_at h.sas) (hE0.trans hE)) hf.sas hT.sab (hT.sa.ext (hE0.trans hE)))
  have q6 := Lib.hid (fun W (hE : Ext V W) => leftRp_any W x.e x.yes x.rr base bY dY p.aY p.cY x.rr.length rfl (h.rr.ext (hE0.trans hE)) hf.rr (hT.rr.ext (hE0.trans hE)))
  have hV' := Lib.hid hV
  have hX' := Lib.hid hX
  clear h hf hT hV hX h1 h2
  unfold Ms.arr Ms.row Mg.row at hV' ⊢
  simp only at hc1 hV' ⊢
  go_enter Tryz.func22, Tryz.ntmps22
  go_upto_region 1 with fail
  rw [← hV'.out, ← hX'.out]
  obtain ⟨x0, x1, x2, x3, x4, x5, x6, x7, x8, x9, x10, x11, x12, x13, x14, x15⟩ := hc1.out V (Ext.refl _)
  obtain ⟨y0, y1, y2, y3, y4, y5, y6, y7, y8, y9, y10, y11, y12, y13, y14, y15⟩ := hc2.out V (Ext.refl _)
  go_wp2_with fail
  refine (q1.out V (Ext.refl V)).mono ?_
  rintro e w2 ⟨rfl, hE2⟩
  have hX2 : Ext V w2 := (Ext.refl V).trans hE2
  clear q1
  clear x0 y0 x1 y1 x2 y2 x3 y3 x4 y4 x5 y5 x6 y6 x7 y7 x8 y8 x9 y9 x10 y10 x11 y11 x12 y12 x13 y13 x14 y14 x15 y15
  obtain ⟨x0, x1, x2, x3, x4, x5, x6, x7, x8, x9, x10, x11, x12, x13, x14, x15⟩ := hc1.out w2 hX2
  obtain ⟨y0, y1, y2, y3, y4, y5, y6, y7, y8, y9, y10, y11, y12, y13, y14, y15⟩ := hc2.out w2 hX2
  go_wp2_with fail
  refine (q2.out w2 hX2).mono ?_
  rintro e w3 ⟨rfl, hE3⟩
  have hX3 : Ext V w3 := hX2.trans hE3
  clear q2
  clear x0 y0 x1 y1 x2 y2 x3 y3 x4 y4 x5 y5 x6 y6 x7 y7 x8 y8 x9 y9 x10 y10 x11 y11 x12 y12 x13 y13 x14 y14 x15 y15
  obtain ⟨x0, x1, x2, x3, x4, x5, x6, x7, x8, x9, x10, x11, x12, x13, x14, x15⟩ := hc1.out w3 hX3
  obtain ⟨y0, y1, y2, y3, y4, y5, y6, y7, y8, y9, y10, y11, y12, y13, y14, y15⟩ := hc2.out w3 hX3
  go_wp2_with fail
  refine (q3.out w3 hX3).mono ?_
  rintro e w4 ⟨rfl, hE4⟩
  have hX4 : Ext V w4 := hX3.trans hE4
  clear q3
  clear x0 y0 x1 y1 x2 y2 x3 y3 x4 y4 x5 y5 x6 y6 x7 y7 x8 y8 x9 y9 x10 y10 x11 y11 x12 y12 x13 y13 x14 y14 x15 y15
  obtain ⟨x0, x1, x2, x3, x4, x5, x6, x7, x8, x9, x10, x11, x12, x13, x14, x15⟩ := hc1.out w4 hX4
  obtain ⟨y0, y1, y2, y3, y4, y5, y6, y7, y8, y9, y10, y11, y12, y13, y14, y15⟩ := hc2.out w4 hX4
  go_wp2_with fail
  refine (q4.out w4 hX4).mono ?_
  rintro e w5 ⟨rfl, hE5⟩
  have hX5 : Ext V w5 := hX4.trans hE5
  clear q4
  clear x0 y0 x1 y1 x2 y2 x3 y3 x4 y4 x5 y5 x6 y6 x7 y7 x8 y8 x9 y9 x10 y10 x11 y11 x12 y12 x13 y13 x14 y14 x15 y15
  obtain ⟨x0, x1, x2, x3, x4, x5, x6, x7, x8, x9, x10, x11, x12, x13, x14, x15⟩ := hc1.out w5 hX5
  obtain ⟨y0, y1, y2, y3, y4, y5, y6, y7, y8, y9, y10, y11, y12, y13, y14, y15⟩ := hc2.out w5 hX5
  go_wp2_with fail
  refine (q5.out w5 hX5).mono ?_
  rintro e w6 ⟨rfl, hE6⟩
  have hX6 : Ext V w6 := hX5.trans hE6
  clear q5
  clear x0 y0 x1 y1 x2 y2 x3 y3 x4 y4 x5 y5 x6 y6 x7 y7 x8 y8 x9 y9 x10 y10 x11 y11 x12 y12 x13 y13 x14 y14 x15 y15
  obtain ⟨x0, x1, x2, x3, x4, x5, x6, x7, x8, x9, x10, x11, x12, x13, x14, x15⟩ := hc1.out w6 hX6
  obtain ⟨y0, y1, y2, y3, y4, y5, y6, y7, y8, y9, y10, y11, y12, y13, y14, y15⟩ := hc2.out w6 hX6
  go_wp2_with fail
  refine (q6.out w6 hX6).mono ?_
  rintro e w7 ⟨rfl, hE7⟩
  have hX7 : Ext V w7 := hX6.trans hE7
  clear q6
  clear x0 y0 x1 y1 x2 y2 x3 y3 x4 y4 x5 y5 x6 y6 x7 y7 x8 y8 x9 y9 x10 y10 x11 y11 x12 y12 x13 y13 x14 y14 x15 y15
  obtain ⟨x0, x1, x2, x3, x4, x5, x6, x7, x8, x9, x10, x11, x12, x13, x14, x15⟩ := hc1.out w7 hX7
  obtain ⟨y0, y1, y2, y3, y4, y5, y6, y7, y8, y9, y10, y11, y12, y13, y14, y15⟩ := hc2.out w7 hX7
  clear x0 y0 x1 y1 x2 y2 x3 y3 x4 y4 x5 y5 x6 y6 x7 y7 x8 y8 x9 y9 x10 y10 x11 y11 x12 y12 x13 y13 x14 y14 x15 y15
  go_wp2_with fail
  go_ret
  exact ⟨rfl, hE0.trans hX7⟩
end Go.Proofs.YtmopjmhapeinjaaGreatDoor

/- A message's lists, and it itself, are kept in a book. (Printed by mkbb.py.) No condition. -/
namespace Go.Proofs.YtmopjmhapeinjaaGreatDoor
open Go.RowKit
set_option maxRecDepth 100000
set_option maxHeartbeats 4000000
/-- A message's lists are rows of the call's own, each in blocks of its own. -/
structure MsO (w : World) (base : Nat) (x : Ms) (p : Ml) (iq : List It) (sq : List Sa) : Prop where
  ch : OwnC w base 5 1 (Value.slice p.a8 x.ch.length p.c8) x.ch.length (byL x.ch)
  ha : OwnC w base 54 1 (Value.slice p.a9 x.ha.length p.c9) x.ha.length (nuL x.ha)
  it : OwnC w base 100 11 (Value.slice p.aI x.it.length p.cI) x.it.length (iq.flatMap It.cells)
  itn : x.it.length = iq.length
  ito : ItOwn w base iq
  its : ItSep iq
  ro : OwnC w base 134 2 (Value.slice p.aR x.ro.length p.cR) x.ro.length (x.ro.flatMap rwL)
  sa : OwnC w base 136 5 (Value.slice p.aS x.sa.length p.cS) x.sa.length (sq.flatMap Sa.cells)
  san : x.sa.length = sq.length
  sao : SaOwn w base sq
  sas : SaSep sq
  rr : OwnC w base 134 2 (Value.slice p.aY x.rr.length p.cY) x.rr.length (x.rr.flatMap rwL)
  sep1 : ∀ q, (Value.slice p.aR x.ro.length p.cR).ownBlock = some q → (Value.slice p.aY x.rr.length p.cY).ownBlock ≠ some q
  sep2 : ∀ q, blkS sq q → (Value.slice p.aR x.ro.length p.cR).ownBlock ≠ some q ∧ (Value.slice p.aY x.rr.length p.cY).ownBlock ≠ some q
theorem MsO.mut {w w' : World} {b0 base : Nat} {x : Ms} {p : Ml} {it : List It} {sa : List Sa} (h : MsO w base x p it sa) (hO : OffB (mutG b0 w) w w') : MsO w' base x p it sa :=
  ⟨mg_own hO h.ch nob_u8, mg_own hO h.ha nob_u64, mg_own hO h.it nob_item, h.itn, fun p hp => mg_own hO (h.ito p hp) nob_ch, h.its, mg_own hO h.ro nob_row, mg_own hO h.sa nob_said, h.san, fun p hp => mg_own hO (h.sao p hp) nob_row, h.sas, mg_own hO h.rr nob_row, h.sep1, h.sep2⟩
theorem MsO.ext {w w' : World} {base : Nat} {x : Ms} {p : Ml} {it : List It} {sa : List Sa} (h : MsO w base x p it sa) (hE : Ext w w') : MsO w' base x p it sa :=
  ⟨h.ch.ext hE, h.ha.ext hE, h.it.ext hE, h.itn, fun p hp => (h.ito p hp).ext hE, h.its, h.ro.ext hE, h.sa.ext hE, h.san, fun p hp => (h.sao p hp).ext hE, h.sas, h.rr.ext hE, h.sep1, h.sep2⟩
/-- All blocks of a message's lists. -/
def blkM (x : Ms) (p : Ml) (it : List It) (sa : List Sa) (q : Nat) : Prop := ((Value.slice p.a8 x.ch.length p.c8).ownBlock = some q) ∨ ((Value.slice p.a9 x.ha.length p.c9).ownBlock = some q) ∨ ((Value.slice p.aI x.it.length p.cI).ownBlock = some q ∨ blkI it q) ∨ ((Value.slice p.aR x.ro.length p.cR).ownBlock = some q) ∨ ((Value.slice p.aS x.sa.length p.cS).ownBlock = some q ∨ blkS sa q) ∨ ((Value.slice p.aY x.rr.length p.cY).ownBlock = some q)
theorem own_ne {w : World} {b1 b2 : Nat} {e1 e2 : TypeId} {z1 z2 n1 n2 : Nat} {v1 v2 : Value} {x1 x2 : List Value} (h1 : OwnC w b1 e1 z1 v1 n1 x1) (h2 : OwnC w b2 e2 z2 v2 n2 x2) (hne : e1 ≠ e2) {q : Nat} (hq : v1.ownBlock = some q) : v2.ownBlock ≠ some q := fun hb => by
  obtain ⟨c, hc⟩ := own_typ h1 hq
  obtain ⟨d, hd⟩ := own_typ h2 hb
  rw [hc] at hd
  injection hd with hd
  injection hd with _ hd
  exact hne hd
theorem blkS_own {w : World} {base : Nat} {sa : List Sa} (h : SaOwn w base sa) {q : Nat} (hq : blkS sa q) {b2 : Nat} {e2 : TypeId} {z2 n2 : Nat} {v2 : Value} {x2 : List Value} (h2 : OwnC w b2 e2 z2 v2 n2 x2) (hne : 134 ≠ e2) : v2.ownBlock ≠ some q := by
  obtain ⟨p, hp, hb⟩ := hq
  exact own_ne (h p hp) h2 hne hb
theorem blkI_own {w : World} {base : Nat} {it : List It} (h : ItOwn w base it) {q : Nat} (hq : blkI it q) {b2 : Nat} {e2 : TypeId} {z2 n2 : Nat} {v2 : Value} {x2 : List Value} (h2 : OwnC w b2 e2 z2 v2 n2 x2) (hne : 93 ≠ e2) : v2.ownBlock ≠ some q := by
  obtain ⟨p, hp, hb⟩ := hq
  exact own_ne (h p hp) h2 hne hb
section
variable {K : Nat → Prop} {w0 w w' : World} {g n : Nat}
theorem pb_msg {K' : Nat → Prop} (h : PlayB K w0 g n w) (hKK : ∀ k, K' k → K k) (x : Ms) (p : Ml) (it : List It) (sa : List Sa) (hM : MsO w w0.heap.size x p it sa) (hf : x.few) (hl : x.it.length ≤ 3000) (hls : x.sa.length ≤ 3000) (hli : ∀ y ∈ it, y.ask.chs.length ≤ 1000000) (hlr : ∀ y ∈ sa, y.rows.length ≤ 1000000) (hn : n < 700000) (hK : ∀ q, blkM x p it sa q → K q) (hKn : ∀ q, K' q → ¬ blkM x p it sa q) : Calls Tryz.prog 23 #[.pointer (some ⟨g, 0, none⟩), .agg (x.arr p)] w (KeptB K' w0 g (n + x.it.length + x.sa.length + 6) w) := by
  obtain ⟨X, hX⟩ : ∃ X, X = w.heap.size := ⟨_, rfl⟩
  obtain ⟨V, hV⟩ : ∃ W, W = w.alloc (.cells (x.arr p) 63) := ⟨_, rfl⟩
  have hE0 : Ext w V := by rw [hV]; exact (Ext.refl _).alloc _
  have hrow : V.heap[X]? = some (.cells (x.arr p) 63 (0, 0)) := by rw [hV, hX]; exact heap_alloc_new w _
  have hM0 := hM.ext hE0
  obtain ⟨K0, hK0⟩ : ∃ L : Nat → Prop, L = fun q => K' q ∨ ((Value.slice p.a8 x.ch.length p.c8).ownBlock = some q) ∨ ((Value.slice p.a9 x.ha.length p.c9).ownBlock = some q) ∨ ((Value.slice p.aI x.it.length p.cI).ownBlock = some q ∨ blkI it q) ∨ ((Value.slice p.aR x.ro.length p.cR).ownBlock = some q) ∨ ((Value.slice p.aS x.sa.length p.cS).ownBlock = some q ∨ blkS sa q) ∨ ((Value.slice p.aY x.rr.length p.cY).ownBlock = some q) := ⟨_, rfl⟩
  obtain ⟨K1, hK1⟩ : ∃ L : Nat → Prop, L = fun q => K' q ∨ ((Value.slice p.a9 x.ha.length p.c9).ownBlock = some q) ∨ ((Value.slice p.aI x.it.length p.cI).ownBlock = some q ∨ blkI it q) ∨ ((Value.slice p.aR x.ro.length p.cR).ownBlock = some q) ∨ ((Value.slice p.aS x.sa.length p.cS).ownBlock = some q ∨ blkS sa q) ∨ ((Value.slice p.aY x.rr.length p.cY).ownBlock = some q) := ⟨_, rfl⟩
  obtain ⟨K2, hK2⟩ : ∃ L : Nat → Prop, L = fun q => K' q ∨ ((Value.slice p.aI x.it.length p.cI).ownBlock = some q ∨ blkI it q) ∨ ((Value.slice p.aR x.ro.length p.cR).ownBlock = some q) ∨ ((Value.slice p.aS x.sa.length p.cS).ownBlock = some q ∨ blkS sa q) ∨ ((Value.slice p.aY x.rr.length p.cY).ownBlock = some q) := ⟨_, rfl⟩
  obtain ⟨K3, hK3⟩ : ∃ L : Nat → Prop, L = fun q => K' q ∨ ((Value.slice p.aR x.ro.length p.cR).ownBlock = some q) ∨ ((Value.slice p.aS x.sa.length p.cS).ownBlock = some q ∨ blkS sa q) ∨ ((Value.slice p.aY x.rr.length p.cY).ownBlock = some q) := ⟨_, rfl⟩
  obtain ⟨K4, hK4⟩ : ∃ L : Nat → Prop, L = fun q => K' q ∨ ((Value.slice p.aS x.sa.length p.cS).ownBlock = some q ∨ blkS sa q) ∨ ((Value.slice p.aY x.rr.length p.cY).ownBlock = some q) := ⟨_, rfl⟩
  obtain ⟨K5, hK5⟩ : ∃ L : Nat → Prop, L = fun q => K' q ∨ ((Value.slice p.aY x.rr.length p.cY).ownBlock = some q) := ⟨_, rfl⟩
  obtain ⟨K6, hK6⟩ : ∃ L : Nat → Prop, L = fun q => K' q := ⟨_, rfl⟩
  have hP0 : PlayB K0 w0 g n V := (h.ext hE0).less (fun q hq => by
    rw [hK0] at hq
    rcases hq with hq | hq
    · exact hKK q hq
    · exact hK q hq)
  have s0 : ∀ q, K1 q → K0 q := fun q hq => by rw [hK1] at hq; rw [hK0]; simp only at hq ⊢; rcases hq with hq | hq; exact .inl hq; exact .inr (.inr hq)
  have s1 : ∀ q, K2 q → K1 q := fun q hq => by rw [hK2] at hq; rw [hK1]; simp only at hq ⊢; rcases hq with hq | hq; exact .inl hq; exact .inr (.inr hq)
  have s2 : ∀ q, K3 q → K2 q := fun q hq => by rw [hK3] at hq; rw [hK2]; simp only at hq ⊢; rcases hq with hq | hq; exact .inl hq; exact .inr (.inr hq)
  have s3 : ∀ q, K4 q → K3 q := fun q hq => by rw [hK4] at hq; rw [hK3]; simp only at hq ⊢; rcases hq with hq | hq; exact .inl hq; exact .inr (.inr hq)
  have s4 : ∀ q, K5 q → K4 q := fun q hq => by rw [hK5] at hq; rw [hK4]; simp only at hq ⊢; rcases hq with hq | hq; exact .inl hq; exact .inr (.inr hq)
  have s5 : ∀ q, K6 q → K5 q := fun q hq => by rw [hK6] at hq; rw [hK5]; exact .inl hq
  have d0 : ∀ q, K1 q → (Value.slice p.a8 x.ch.length p.c8).ownBlock ≠ some q := fun q hq hb => by
    rw [hK1] at hq
    rcases hq with hq | hq | hq | hq | hq | hq
    · exact hKn q hq (.inl hb)
    · exact own_ne hM0.ch hM0.ha (by decide) hb hq
    · rcases hq with hq | hq
      · exact own_ne hM0.ch hM0.it (by decide) hb hq
      · exact blkI_own hM0.ito hq hM0.ch (by decide) hb
    · exact own_ne hM0.ch hM0.ro (by decide) hb hq
    · rcases hq with hq | hq
      · exact own_ne hM0.ch hM0.sa (by decide) hb hq
      · exact blkS_own hM0.sao hq hM0.ch (by decide) hb
    · exact own_ne hM0.ch hM0.rr (by decide) hb hq
  have d1 : ∀ q, K2 q → (Value.slice p.a9 x.ha.length p.c9).ownBlock ≠ some q := fun q hq hb => by
    rw [hK2] at hq
    rcases hq with hq | hq | hq | hq | hq
    · exact hKn q hq (.inr (.inl hb))
    · rcases hq with hq | hq
      · exact own_ne hM0.ha hM0.it (by decide) hb hq
      · exact blkI_own hM0.ito hq hM0.ha (by decide) hb
    · exact own_ne hM0.ha hM0.ro (by decide) hb hq
    · rcases hq with hq | hq
      · exact own_ne hM0.ha hM0.sa (by decide) hb hq
      · exact blkS_own hM0.sao hq hM0.ha (by decide) hb
    · exact own_ne hM0.ha hM0.rr (by decide) hb hq
  have d2 : ∀ q, K3 q → (Value.slice p.aI x.it.length p.cI).ownBlock ≠ some q := fun q hq hb => by
    rw [hK3] at hq
    rcases hq with hq | hq | hq | hq
    · exact hKn q hq (.inr (.inr (.inl (.inl hb))))
    · exact own_ne hM0.it hM0.ro (by decide) hb hq
    · rcases hq with hq | hq
      · exact own_ne hM0.it hM0.sa (by decide) hb hq
      · exact blkS_own hM0.sao hq hM0.it (by decide) hb
    · exact own_ne hM0.it hM0.rr (by decide) hb hq
  have d3 : ∀ q, K4 q → (Value.slice p.aR x.ro.length p.cR).ownBlock ≠ some q := fun q hq hb => by
    rw [hK4] at hq
    rcases hq with hq | hq | hq
    · exact hKn q hq (.inr (.inr (.inr (.inl hb))))
    · rcases hq with hq | hq
      · exact own_ne hM0.ro hM0.sa (by decide) hb hq
      · exact (hM0.sep2 q hq).1 hb
    · exact hM0.sep1 q hb hq
  have d4 : ∀ q, K5 q → (Value.slice p.aS x.sa.length p.cS).ownBlock ≠ some q := fun q hq hb => by
    rw [hK5] at hq
    rcases hq with hq | hq
    · exact hKn q hq (.inr (.inr (.inr (.inr (.inl (.inl hb))))))
    · exact own_ne hM0.sa hM0.rr (by decide) hb hq
  have d5 : ∀ q, K6 q → (Value.slice p.aY x.rr.length p.cY).ownBlock ≠ some q := fun q hq hb => by
    rw [hK6] at hq
    exact hKn q hq (.inr (.inr (.inr (.inr (.inr (hb))))))
  have dI : ∀ q, K3 q → ¬ blkI it q := fun q hq hb => by
    rw [hK3] at hq
    rcases hq with hq | hq | hq | hq
    · exact hKn q hq (.inr (.inr (.inl (.inr hb))))
    · exact blkI_own hM0.ito hb hM0.ro (by decide) hq
    · rcases hq with hq | hq
      · exact blkI_own hM0.ito hb hM0.sa (by decide) hq
      · obtain ⟨y, hy, hyb⟩ := hq
        exact blkI_own hM0.ito hb (hM0.sao y hy) (by decide) hyb
    · exact blkI_own hM0.ito hb hM0.rr (by decide) hq
  have dS : ∀ q, K5 q → ¬ blkS sa q := fun q hq hb => by
    rw [hK5] at hq
    rcases hq with hq | hq
    · exact hKn q hq (.inr (.inr (.inr (.inr (.inl (.inr hb))))))
    · exact (hM0.sep2 q hb).2 hq
  have i0 : ∀ q, (Value.slice p.a8 x.ch.length p.c8).ownBlock = some q → K0 q := fun q hq => by rw [hK0]; exact .inr ((.inl hq))
  have i1 : ∀ q, (Value.slice p.a9 x.ha.length p.c9).ownBlock = some q → K1 q := fun q hq => by rw [hK1]; exact .inr ((.inl hq))
  have i2 : ∀ q, (Value.slice p.aI x.it.length p.cI).ownBlock = some q → K2 q := fun q hq => by rw [hK2]; exact .inr ((.inl (.inl hq)))
  have i3 : ∀ q, (Value.slice p.aR x.ro.length p.cR).ownBlock = some q → K3 q := fun q hq => by rw [hK3]; exact .inr ((.inl hq))
  have i4 : ∀ q, (Value.slice p.aS x.sa.length p.cS).ownBlock = some q → K4 q := fun q hq => by rw [hK4]; exact .inr ((.inl (.inl hq)))
  have i5 : ∀ q, (Value.slice p.aY x.rr.length p.cY).ownBlock = some q → K5 q := fun q hq => by rw [hK5]; exact .inr (hq)
  have iI : ∀ q, blkI it q → K2 q := fun q hq => by rw [hK2]; exact .inr (.inl (.inr hq))
  have iS : ∀ q, blkS sa q → K4 q := fun q hq => by rw [hK4]; exact .inr (.inl (.inr hq))
  have e6 : K6 = K' := by rw [hK6]
  have z0 : x.ch.length ≤ 1000000 := by have := hf.ch; omega
  have z1 : x.ha.length ≤ 1000000 := by have := hf.ha; omega
  have z3 : x.ro.length ≤ 1000000 := by have := hf.ro; omega
  have z5 : x.rr.length ≤ 1000000 := by have := hf.rr; omega
  have q0 := Lib.hid (fun W (hO : OffB (mutG w0.heap.size V) V W) (hP : PlayB K0 w0 g n W) => pb_bytes hP s0 (by omega) p.a8 x.ch.length p.c8 _ (hM0.mut hO).ch z0 i0 d0)
  have q1 := Lib.hid (fun W (hO : OffB (mutG w0.heap.size V) V W) (hP : PlayB K1 w0 g (n + 1) W) => pb_nums hP s1 (by omega) p.a9 x.ha.length p.c9 _ (hM0.mut hO).ha z1 i1 d1)
  have q2 := Lib.hid (fun W (hO : OffB (mutG w0.heap.size V) V W) (hP : PlayB K2 w0 g (n + 1 + 1) W) => pb_items hP s2 it p.aI x.it.length p.cI hM0.itn hl (by omega) (hM0.mut hO).it (hM0.mut hO).ito hM0.its hli i2 iI (fun q hq => ⟨d2 q hq, dI q hq⟩))
  have q3 := Lib.hid (fun W (hO : OffB (mutG w0.heap.size V) V W) (hP : PlayB K3 w0 g (n + 1 + 1 + x.it.length + 1) W) => pb_row hP s3 (by omega) p.aR x.ro.length p.cR _ (hM0.mut hO).ro z3 i3 d3)
  have q4 := Lib.hid (fun W (hO : OffB (mutG w0.heap.size V) V W) (hP : PlayB K4 w0 g (n + 1 + 1 + x.it.length + 1 + 1) W) => pb_saids hP s4 sa p.aS x.sa.length p.cS hM0.san hls (by omega) (hM0.mut hO).sa (hM0.mut hO).sao hM0.sas hlr i4 iS (fun q hq => ⟨d4 q hq, dS q hq⟩))
  have q5 := Lib.hid (fun W (hO : OffB (mutG w0.heap.size V) V W) (hP : PlayB K5 w0 g (n + 1 + 1 + x.it.length + 1 + 1 + x.sa.length + 1) W) => pb_reply hP s5 (by omega) x.e x.yes p.aY x.rr.length p.cY _ (hM0.mut hO).rr z5 i5 d5)
  have hcl := Lib.hid (fun W (hO : OffB (mutG w0.heap.size V) V W) => ms_cells (mg_blk hO hrow nob_msg))
  have hV' := Lib.hid hV
  have hX' := Lib.hid hX
  have hP0' := Lib.hid hP0
  have e6' := Lib.hid e6
  clear hV hX hrow hM hM0 hKK h hK hKn hf hli hlr hP0 e6 s0 s1 s2 s3 s4 s5 d0 d1 d2 d3 d4 d5 dI dS i0 i1 i2 i3 i4 i5 iI iS hK0 hK1 hK2 hK3 hK4 hK5 hK6
  unfold Ms.arr Ms.row Mg.row at hV' ⊢
  go_enter Tryz.func23, Tryz.ntmps23
  go_upto_region 1 with fail
  rw [← hV'.out, ← hX'.out]
  obtain ⟨x0, x1, x2, x3, x4, x5, x6, x7, x8, x9, x10, x11, x12, x13, x14, x15⟩ := hcl.out V (OffB.refl V)
  go_wp2_with fail
  refine (q0.out V (OffB.refl V) hP0'.out).mono ?_
  rintro e w1 ⟨rfl, hP1, hQ1⟩
  have hO1 := Lib.hid (mutG_trans (OffB.refl V) hQ1)
  have hP1' := Lib.hid hP1
  clear q0 hP1 hQ1 x0 x1 x2 x3 x4 x5 x6 x7 x8 x9 x10 x11 x12 x13 x14 x15
  obtain ⟨x0, x1, x2, x3, x4, x5, x6, x7, x8, x9, x10, x11, x12, x13, x14, x15⟩ := hcl.out w1 hO1.out
  go_wp2_with fail
  refine (q1.out w1 hO1.out hP1'.out).mono ?_
  rintro e w2 ⟨rfl, hP2, hQ2⟩
  have hO2 := Lib.hid (mutG_trans hO1.out hQ2)
  have hP2' := Lib.hid hP2
  clear q1 hP2 hQ2 x0 x1 x2 x3 x4 x5 x6 x7 x8 x9 x10 x11 x12 x13 x14 x15
  obtain ⟨x0, x1, x2, x3, x4, x5, x6, x7, x8, x9, x10, x11, x12, x13, x14, x15⟩ := hcl.out w2 hO2.out
  go_wp2_with fail
  refine (q2.out w2 hO2.out hP2'.out).mono ?_
  rintro e w3 ⟨rfl, hP3, hQ3⟩
  have hO3 := Lib.hid (mutG_trans hO2.out hQ3)
  have hP3' := Lib.hid hP3
  clear q2 hP3 hQ3 x0 x1 x2 x3 x4 x5 x6 x7 x8 x9 x10 x11 x12 x13 x14 x15
  obtain ⟨x0, x1, x2, x3, x4, x5, x6, x7, x8, x9, x10, x11, x12, x13, x14, x15⟩ := hcl.out w3 hO3.out
  go_wp2_with fail
  refine (q3.out w3 hO3.out hP3'.out).mono ?_
  rintro e w4 ⟨rfl, hP4, hQ4⟩
  have hO4 := Lib.hid (mutG_trans hO3.out hQ4)
  have hP4' := Lib.hid hP4
  clear q3 hP4 hQ4 x0 x1 x2 x3 x4 x5 x6 x7 x8 x9 x10 x11 x12 x13 x14 x15
  obtain ⟨x0, x1, x2, x3, x4, x5, x6, x7, x8, x9, x10, x11, x12, x13, x14, x15⟩ := hcl.out w4 hO4.out
  go_wp2_with fail
  refine (q4.out w4 hO4.out hP4'.out).mono ?_
  rintro e w5 ⟨rfl, hP5, hQ5⟩
  have hO5 := Lib.hid (mutG_trans hO4.out hQ5)
  have hP5' := Lib.hid hP5
  clear q4 hP5 hQ5 x0 x1 x2 x3 x4 x5 x6 x7 x8 x9 x10 x11 x12 x13 x14 x15
  obtain ⟨x0, x1, x2, x3, x4, x5, x6, x7, x8, x9, x10, x11, x12, x13, x14, x15⟩ := hcl.out w5 hO5.out
  go_wp2_with fail
  refine (q5.out w5 hO5.out hP5'.out).mono ?_
  rintro e w6 ⟨rfl, hP6, hQ6⟩
  have hO6 := Lib.hid (mutG_trans hO5.out hQ6)
  have hP6' := Lib.hid hP6
  clear q5 hP6 hQ6 x0 x1 x2 x3 x4 x5 x6 x7 x8 x9 x10 x11 x12 x13 x14 x15
  go_wp2_with fail
  go_end0
  refine ⟨rfl, ?_, mutG_ext hE0 hO6.out⟩
  have := hP6'.out
  rw [e6'.out, show (n + 1 + 1 + x.it.length + 1 + 1 + x.sa.length + 1 + 1) = n + x.it.length + x.sa.length + 6 by omega] at this
  exact this
end
end Go.Proofs.YtmopjmhapeinjaaGreatDoor
