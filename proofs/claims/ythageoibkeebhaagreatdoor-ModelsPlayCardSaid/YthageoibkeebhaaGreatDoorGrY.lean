/- Several texts in one: BkA BkKRow BkKChange BkKSaid BkZ. No condition. -/
import Derived.Test.YthageoibkeebhaaGreatDoorGrV
import Derived.Test.YthageoibkeebhaaGreatDoorGrU
import Derived.Deep.RegionLaw
import Derived.Deep.CutRange
/- Apart: the lists of a book share no memory. No condition. -/
namespace Go.Proofs.YthageoibkeebhaaGreatDoor
open Go.RowKit
set_option maxRecDepth 100000
set_option maxHeartbeats 4000000
theorem bel_ext {base : Nat} {w W W' : World} (h : Below base w W) (hb : base ≤ w.heap.size) (hE : Ext W W') : Below base w W' := Below.trans h (hE.mono (Nat.le_trans hb (Below.size h)))
theorem apart_any {base N0 g n : Nat} {T : Nat → Kd} {w : World} (h : BkI bkT base N0 g n T (fun _ => 0) w) (hnum : ∀ j x, x ∈ (T j).2 → x.num < numTop) (hm : ∀ j, (T j).2.length ≤ 1000000) (e1 : (T 1).1 = .slice none 0 0) (e2 : (T 2).1 = .slice none 0 0) (e3 : (T 3).1 = .slice none 0 0) (e4 : (T 4).1 = .slice none 0 0) (e5 : (T 5).1 = .slice none 0 0) (e8 : (T 8).1 = .slice none 0 0) (e9 : (T 9).1 = .slice none 0 0) (e10 : (T 10).1 = .slice none 0 0) (e12 : (T 12).1 = .slice none 0 0) (e13 : (T 13).1 = .slice none 0 0) :
    Calls Tryz.prog 21 #[.pointer (some ⟨g, 0, none⟩)] w fun e w' => e = .returned (.bool true) ∧ Below base w w' := by
  have hb : Hid (base ≤ w.heap.size) := Lib.hid (Nat.le_trans h.gb (Nat.le_trans (Nat.le_of_lt h.gN) h.big))
  have k1 := Lib.hid e1
  have k2 := Lib.hid e2
  have k3 := Lib.hid e3
  have k4 := Lib.hid e4
  have k5 := Lib.hid e5
  have k8 := Lib.hid e8
  have k9 := Lib.hid e9
  have k10 := Lib.hid e10
  have k12 := Lib.hid e12
  have k13 := Lib.hid e13
  have hnum' := Lib.hid hnum
  have hm' := Lib.hid hm
  have hB0 := Lib.hid h
  have hW0 : Hid (Below base w w) := Lib.hid (Below.refl _ _)
  clear h hnum hm e1 e2 e3 e4 e5 e8 e9 e10 e12 e13
  go_enter Tryz.func21, Tryz.ntmps21
  go_wp2_with fail
  refine (fillByte_nil w g (by rw [cell_of_row _ _ _ _ _ _ hB0.out.row]; show some ((T 1).1) = _; rw [k1.out])).mono ?_
  rintro e v1 ⟨rfl, hE⟩
  have hB1 := Lib.hid (hB0.out.ext hE)
  have hW1 := Lib.hid (bel_ext hW0.out hb.out hE)
  clear hE hB0 hW0
  go_wp2_with fail
  refine (fillId_nil v1 g (by rw [cell_of_row _ _ _ _ _ _ hB1.out.row]; show some ((T 2).1) = _; rw [k2.out])).mono ?_
  rintro e v2 ⟨rfl, hE⟩
  have hB2 := Lib.hid (hB1.out.ext hE)
  have hW2 := Lib.hid (bel_ext hW1.out hb.out hE)
  clear hE hB1 hW1
  go_wp2_with fail
  refine (fillNum_nil v2 g (by rw [cell_of_row _ _ _ _ _ _ hB2.out.row]; show some ((T 3).1) = _; rw [k3.out])).mono ?_
  rintro e v3 ⟨rfl, hE⟩
  have hB3 := Lib.hid (hB2.out.ext hE)
  have hW3 := Lib.hid (bel_ext hW2.out hb.out hE)
  clear hE hB2 hW2
  go_wp2_with fail
  refine (fillInt_nil v3 g (by rw [cell_of_row _ _ _ _ _ _ hB3.out.row]; show some ((T 4).1) = _; rw [k4.out])).mono ?_
  rintro e v4 ⟨rfl, hE⟩
  have hB4 := Lib.hid (hB3.out.ext hE)
  have hW4 := Lib.hid (bel_ext hW3.out hb.out hE)
  clear hE hB3 hW3
  go_wp2_with fail
  refine (fillText_nil v4 g (by rw [cell_of_row _ _ _ _ _ _ hB4.out.row]; show some ((T 5).1) = _; rw [k5.out])).mono ?_
  rintro e v5 ⟨rfl, hE⟩
  have hB5 := Lib.hid (hB4.out.ext hE)
  have hW5 := Lib.hid (bel_ext hW4.out hb.out hE)
  clear hE hB4 hW4
  go_wp2_with fail
  refine (fillRow_any hB5.out rfl (hnum'.out 6) (hm'.out 6)).mono ?_
  rintro e v6 ⟨rfl, hE, hB⟩
  have hB6 := Lib.hid hB
  have hW6 := Lib.hid (Below.trans hW5.out hE)
  clear hE hB hB5 hW5
  go_wp2_with fail
  refine (fillChange_any hB6.out rfl (hnum'.out 7) (hm'.out 7)).mono ?_
  rintro e v7 ⟨rfl, hE, hB⟩
  have hB7 := Lib.hid hB
  have hW7 := Lib.hid (Below.trans hW6.out hE)
  clear hE hB hB6 hW6
  go_wp2_with fail
  refine (fillEntry_nil v7 g (by rw [cell_of_row _ _ _ _ _ _ hB7.out.row]; show some ((T 8).1) = _; rw [k8.out])).mono ?_
  rintro e v8 ⟨rfl, hE⟩
  have hB8 := Lib.hid (hB7.out.ext hE)
  have hW8 := Lib.hid (bel_ext hW7.out hb.out hE)
  clear hE hB7 hW7
  go_wp2_with fail
  refine (fillFile_nil v8 g (by rw [cell_of_row _ _ _ _ _ _ hB8.out.row]; show some ((T 9).1) = _; rw [k9.out])).mono ?_
  rintro e v9 ⟨rfl, hE⟩
  have hB9 := Lib.hid (hB8.out.ext hE)
  have hW9 := Lib.hid (bel_ext hW8.out hb.out hE)
  clear hE hB8 hW8
  go_wp2_with fail
  refine (fillItem_nil v9 g (by rw [cell_of_row _ _ _ _ _ _ hB9.out.row]; show some ((T 10).1) = _; rw [k10.out])).mono ?_
  rintro e v10 ⟨rfl, hE⟩
  have hB10 := Lib.hid (hB9.out.ext hE)
  have hW10 := Lib.hid (bel_ext hW9.out hb.out hE)
  clear hE hB9 hW9
  go_wp2_with fail
  refine (fillSaid_any hB10.out rfl (hnum'.out 11) (hm'.out 11)).mono ?_
  rintro e v11 ⟨rfl, hE, hB⟩
  have hB11 := Lib.hid hB
  have hW11 := Lib.hid (Below.trans hW10.out hE)
  clear hE hB hB10 hW10
  go_wp2_with fail
  refine (fillMsg_nil v11 g (by rw [cell_of_row _ _ _ _ _ _ hB11.out.row]; show some ((T 12).1) = _; rw [k12.out])).mono ?_
  rintro e v12 ⟨rfl, hE⟩
  have hB12 := Lib.hid (hB11.out.ext hE)
  have hW12 := Lib.hid (bel_ext hW11.out hb.out hE)
  clear hE hB11 hW11
  go_wp2_with fail
  refine (fillEvent_nil v12 g (by rw [cell_of_row _ _ _ _ _ _ hB12.out.row]; show some ((T 13).1) = _; rw [k13.out])).mono ?_
  rintro e v13 ⟨rfl, hE⟩
  have hB13 := Lib.hid (hB12.out.ext hE)
  have hW13 := Lib.hid (bel_ext hW12.out hb.out hE)
  clear hE hB12 hW12
  go_wp2_with fail
  refine (growByte_nil v13 g (by rw [cell_of_row _ _ _ _ _ _ hB13.out.row]; show some ((T 1).1) = _; rw [k1.out])).mono ?_
  rintro e v14 ⟨rfl, hE⟩
  have hB14 := Lib.hid (hB13.out.ext hE)
  have hW14 := Lib.hid (bel_ext hW13.out hb.out hE)
  clear hE hB13 hW13
  go_wp2_with fail
  refine (growId_nil v14 g (by rw [cell_of_row _ _ _ _ _ _ hB14.out.row]; show some ((T 2).1) = _; rw [k2.out])).mono ?_
  rintro e v15 ⟨rfl, hE⟩
  have hB15 := Lib.hid (hB14.out.ext hE)
  have hW15 := Lib.hid (bel_ext hW14.out hb.out hE)
  clear hE hB14 hW14
  go_wp2_with fail
  refine (growNum_nil v15 g (by rw [cell_of_row _ _ _ _ _ _ hB15.out.row]; show some ((T 3).1) = _; rw [k3.out])).mono ?_
  rintro e v16 ⟨rfl, hE⟩
  have hB16 := Lib.hid (hB15.out.ext hE)
  have hW16 := Lib.hid (bel_ext hW15.out hb.out hE)
  clear hE hB15 hW15
  go_wp2_with fail
  refine (growInt_nil v16 g (by rw [cell_of_row _ _ _ _ _ _ hB16.out.row]; show some ((T 4).1) = _; rw [k4.out])).mono ?_
  rintro e v17 ⟨rfl, hE⟩
  have hB17 := Lib.hid (hB16.out.ext hE)
  have hW17 := Lib.hid (bel_ext hW16.out hb.out hE)
  clear hE hB16 hW16
  go_wp2_with fail
  refine (growText_nil v17 g (by rw [cell_of_row _ _ _ _ _ _ hB17.out.row]; show some ((T 5).1) = _; rw [k5.out])).mono ?_
  rintro e v18 ⟨rfl, hE⟩
  have hB18 := Lib.hid (hB17.out.ext hE)
  have hW18 := Lib.hid (bel_ext hW17.out hb.out hE)
  clear hE hB17 hW17
  go_wp2_with fail
  refine (growRow_any hB18.out rfl (hnum'.out 6) (hm'.out 6)).mono ?_
  rintro e v19 ⟨rfl, hE, hs6, hn6, hl6, hB⟩
  have hB19 := Lib.hid hB
  have hW19 := Lib.hid (Below.trans hW18.out hE)
  have hn6' := Lib.hid hn6
  have hl6' : Hid (hs6.length ≤ 1000000) := Lib.hid (by have := hm'.out 6; rw [hl6]; exact this)
  clear hE hB hB18 hW18 hn6 hl6
  go_wp2_with fail
  refine (growChange_any hB19.out rfl (hnum'.out 7) (hm'.out 7)).mono ?_
  rintro e v20 ⟨rfl, hE, hs7, hn7, hl7, hB⟩
  have hB20 := Lib.hid hB
  have hW20 := Lib.hid (Below.trans hW19.out hE)
  have hn7' := Lib.hid hn7
  have hl7' : Hid (hs7.length ≤ 1000000) := Lib.hid (by have := hm'.out 7; rw [hl7]; exact this)
  clear hE hB hB19 hW19 hn7 hl7
  go_wp2_with fail
  refine (growEntry_nil v20 g (by rw [cell_of_row _ _ _ _ _ _ hB20.out.row]; show some ((T 8).1) = _; rw [k8.out])).mono ?_
  rintro e v21 ⟨rfl, hE⟩
  have hB21 := Lib.hid (hB20.out.ext hE)
  have hW21 := Lib.hid (bel_ext hW20.out hb.out hE)
  clear hE hB20 hW20
  go_wp2_with fail
  refine (growFile_nil v21 g (by rw [cell_of_row _ _ _ _ _ _ hB21.out.row]; show some ((T 9).1) = _; rw [k9.out])).mono ?_
  rintro e v22 ⟨rfl, hE⟩
  have hB22 := Lib.hid (hB21.out.ext hE)
  have hW22 := Lib.hid (bel_ext hW21.out hb.out hE)
  clear hE hB21 hW21
  go_wp2_with fail
  refine (growItem_nil v22 g (by rw [cell_of_row _ _ _ _ _ _ hB22.out.row]; show some ((T 10).1) = _; rw [k10.out])).mono ?_
  rintro e v23 ⟨rfl, hE⟩
  have hB23 := Lib.hid (hB22.out.ext hE)
  have hW23 := Lib.hid (bel_ext hW22.out hb.out hE)
  clear hE hB22 hW22
  go_wp2_with fail
  refine (growSaid_any hB23.out rfl (hnum'.out 11) (hm'.out 11)).mono ?_
  rintro e v24 ⟨rfl, hE, hs11, hn11, hl11, hB⟩
  have hB24 := Lib.hid hB
  have hW24 := Lib.hid (Below.trans hW23.out hE)
  have hn11' := Lib.hid hn11
  have hl11' : Hid (hs11.length ≤ 1000000) := Lib.hid (by have := hm'.out 11; rw [hl11]; exact this)
  clear hE hB hB23 hW23 hn11 hl11
  go_wp2_with fail
  refine (growMsg_nil v24 g (by rw [cell_of_row _ _ _ _ _ _ hB24.out.row]; show some ((T 12).1) = _; rw [k12.out])).mono ?_
  rintro e v25 ⟨rfl, hE⟩
  have hB25 := Lib.hid (hB24.out.ext hE)
  have hW25 := Lib.hid (bel_ext hW24.out hb.out hE)
  clear hE hB24 hW24
  go_wp2_with fail
  refine (growEvent_nil v25 g (by rw [cell_of_row _ _ _ _ _ _ hB25.out.row]; show some ((T 13).1) = _; rw [k13.out])).mono ?_
  rintro e v26 ⟨rfl, hE⟩
  have hB26 := Lib.hid (hB25.out.ext hE)
  have hW26 := Lib.hid (bel_ext hW25.out hb.out hE)
  clear hE hB25 hW25
  go_wp2_with fail
  refine (lookByte_nil v26 g (by rw [cell_of_row _ _ _ _ _ _ hB26.out.row]; show some ((T 1).1) = _; rw [k1.out])).mono ?_
  rintro e v27 ⟨rfl, hE⟩
  have hB27 := Lib.hid (hB26.out.ext hE)
  have hW27 := Lib.hid (bel_ext hW26.out hb.out hE)
  clear hE hB26 hW26
  go_wp2_with fail
  refine (lookId_nil v27 g (by rw [cell_of_row _ _ _ _ _ _ hB27.out.row]; show some ((T 2).1) = _; rw [k2.out])).mono ?_
  rintro e v28 ⟨rfl, hE⟩
  have hB28 := Lib.hid (hB27.out.ext hE)
  have hW28 := Lib.hid (bel_ext hW27.out hb.out hE)
  clear hE hB27 hW27
  go_wp2_with fail
  refine (lookNum_nil v28 g (by rw [cell_of_row _ _ _ _ _ _ hB28.out.row]; show some ((T 3).1) = _; rw [k3.out])).mono ?_
  rintro e v29 ⟨rfl, hE⟩
  have hB29 := Lib.hid (hB28.out.ext hE)
  have hW29 := Lib.hid (bel_ext hW28.out hb.out hE)
  clear hE hB28 hW28
  go_wp2_with fail
  refine (lookInt_nil v29 g (by rw [cell_of_row _ _ _ _ _ _ hB29.out.row]; show some ((T 4).1) = _; rw [k4.out])).mono ?_
  rintro e v30 ⟨rfl, hE⟩
  have hB30 := Lib.hid (hB29.out.ext hE)
  have hW30 := Lib.hid (bel_ext hW29.out hb.out hE)
  clear hE hB29 hW29
  go_wp2_with fail
  refine (lookText_nil v30 g (by rw [cell_of_row _ _ _ _ _ _ hB30.out.row]; show some ((T 5).1) = _; rw [k5.out])).mono ?_
  rintro e v31 ⟨rfl, hE⟩
  have hB31 := Lib.hid (hB30.out.ext hE)
  have hW31 := Lib.hid (bel_ext hW30.out hb.out hE)
  clear hE hB30 hW30
  go_wp2_with fail
  refine (lookRow_any hB31.out rfl hn6'.out hl6'.out).mono ?_
  rintro e v32 ⟨rfl, hE⟩
  have hB32 := Lib.hid (hB31.out.ext hE)
  have hW32 := Lib.hid (bel_ext hW31.out hb.out hE)
  clear hE hB31 hW31
  go_wp2_with fail
  refine (lookChange_any hB32.out rfl hn7'.out hl7'.out).mono ?_
  rintro e v33 ⟨rfl, hE⟩
  have hB33 := Lib.hid (hB32.out.ext hE)
  have hW33 := Lib.hid (bel_ext hW32.out hb.out hE)
  clear hE hB32 hW32
  go_wp2_with fail
  refine (lookEntry_nil v33 g (by rw [cell_of_row _ _ _ _ _ _ hB33.out.row]; show some ((T 8).1) = _; rw [k8.out])).mono ?_
  rintro e v34 ⟨rfl, hE⟩
  have hB34 := Lib.hid (hB33.out.ext hE)
  have hW34 := Lib.hid (bel_ext hW33.out hb.out hE)
  clear hE hB33 hW33
  go_wp2_with fail
  refine (lookFile_nil v34 g (by rw [cell_of_row _ _ _ _ _ _ hB34.out.row]; show some ((T 9).1) = _; rw [k9.out])).mono ?_
  rintro e v35 ⟨rfl, hE⟩
  have hB35 := Lib.hid (hB34.out.ext hE)
  have hW35 := Lib.hid (bel_ext hW34.out hb.out hE)
  clear hE hB34 hW34
  go_wp2_with fail
  refine (lookItem_nil v35 g (by rw [cell_of_row _ _ _ _ _ _ hB35.out.row]; show some ((T 10).1) = _; rw [k10.out])).mono ?_
  rintro e v36 ⟨rfl, hE⟩
  have hB36 := Lib.hid (hB35.out.ext hE)
  have hW36 := Lib.hid (bel_ext hW35.out hb.out hE)
  clear hE hB35 hW35
  go_wp2_with fail
  refine (lookSaid_any hB36.out rfl hn11'.out hl11'.out).mono ?_
  rintro e v37 ⟨rfl, hE⟩
  have hB37 := Lib.hid (hB36.out.ext hE)
  have hW37 := Lib.hid (bel_ext hW36.out hb.out hE)
  clear hE hB36 hW36
  go_wp2_with fail
  refine (lookMsg_nil v37 g (by rw [cell_of_row _ _ _ _ _ _ hB37.out.row]; show some ((T 12).1) = _; rw [k12.out])).mono ?_
  rintro e v38 ⟨rfl, hE⟩
  have hB38 := Lib.hid (hB37.out.ext hE)
  have hW38 := Lib.hid (bel_ext hW37.out hb.out hE)
  clear hE hB37 hW37
  go_wp2_with fail
  refine (lookEvent_nil v38 g (by rw [cell_of_row _ _ _ _ _ _ hB38.out.row]; show some ((T 13).1) = _; rw [k13.out])).mono ?_
  rintro e v39 ⟨rfl, hE⟩
  have hB39 := Lib.hid (hB38.out.ext hE)
  have hW39 := Lib.hid (bel_ext hW38.out hb.out hE)
  clear hE hB38 hW38
  go_wp2_with fail
  go_ret
  exact ⟨rfl, hW39.out⟩
end Go.Proofs.YthageoibkeebhaaGreatDoor

/- keepRow: a list more is kept. No condition. -/
namespace Go.Proofs.YthageoibkeebhaaGreatDoor
open Go.RowKit
set_option maxRecDepth 100000
set_option maxHeartbeats 4000000
theorem el_heldRow : ElemIs Tryz.prog 125 3 56 := by
  refine ElemIs.mk (z := .agg #[.slice none 0 0, .slice none 0 0, .int .i64 0]) (by kernel_rfl) (by rfl) (by decide)
theorem keepRow_any {base N0 g n : Nat} {T : Nat → Kd} {st : Nat → Nat} {w : World} (h : BkI bkT base N0 g n T st w) (h0 : ∀ j, st j = 0) (hn : n < 1000000) (hm : (T 6).2.length ≤ 1000000) (a : Option Addr) (len cap : Nat) (hx : ∃ xs, OwnC w base (bkT.et 6) (bkT.z 6) (.slice a len cap) len xs) (hxl : len ≤ 1000000) (hxg : (Value.slice a len cap).ownBlock ≠ some g) (hxf : ∀ j q, (Value.slice a len cap).ownBlock = some q → ¬ FP (T j) q) :
    Calls Tryz.prog 51 #[.pointer (some ⟨g, 0, none⟩), .slice a len cap] w fun e w' => e = .returned (.tuple #[]) ∧ Below base w w' ∧ OffB (fun q => q = g ∨ (T 6).1.ownBlock = some q) w w' ∧ ∃ v', (∀ q, v'.ownBlock = some q → (T 6).1.ownBlock = some q ∨ w.heap.size ≤ q) ∧ BkI bkT base w'.heap.size g (n + 1) (upd T 6 (v', (T 6).2 ++ [⟨.slice a len cap, len, n + 1, .slice none 0 0⟩])) st w' := by
  obtain ⟨hv, hhv⟩ : ∃ v, v = (T 6).1 := ⟨_, rfl⟩
  obtain ⟨hs, hhs⟩ : ∃ v, v = (T 6).2 := ⟨_, rfl⟩
  obtain ⟨W1, hW1⟩ : ∃ W, W = w.setCell ⟨g, 0, none⟩ (.int .i64 ((n + 1 : Nat) : Int)) := ⟨_, rfl⟩
  have hgw : g < w.heap.size := (Array.getElem?_eq_some_iff.1 h.row).1
  have c0 : w.cell? ⟨g, 0, none⟩ = some (.int .i64 (n : Int)) := by rw [cell_of_row _ _ _ _ _ _ h.row]; rfl
  have z0 : w.frozen? ⟨g, 0, none⟩ = false := by unfold World.frozen?; rw [h.row]; simp
  have hr1 : W1.heap[g]? = some (.cells (bkRow (n + 1) T) 51 (0, 0)) := by
    rw [hW1, setCell_eq_setRow _ _ _ _ _ _ _ h.row, setRow_heap _ _ _ _ _ _ h.row]
    rfl
  have hO1 : OffB (fun q => q = g ∨ hv.ownBlock = some q) w W1 := by rw [hW1]; exact (OffB.refl w).setCell (p := ⟨g, 0, none⟩) (.inl rfl) _
  have hown : OwnC w base 125 3 hv hs.length (hs.flatMap Hd.cs) := by have := h.hdr 6; rw [← hhv, ← hhs] at this; exact this
  have hsepg : ∀ q, hv.ownBlock = some q → q ≠ g := fun q hq e => h.sepg 6 (.inl (by rw [← hhv, ← e]; exact hq))
  have hown1 : OwnC W1.drew base 125 3 hv hs.length (hs.flatMap Hd.cs) := by
    refine (hown.offB (B := fun q => q = g) (w' := W1) ?_ hsepg).ext (Ext.refl _).drew
    rw [hW1]; exact (OffB.refl (B := fun q => q = g) w).setCell (p := ⟨g, 0, none⟩) rfl _
  have hsz1 : W1.drew.heap.size = w.heap.size := by show W1.heap.size = _; rw [hW1]; simp
  have hbase : base ≤ W1.drew.heap.size := by rw [hsz1]; have := h.gb; omega
  have hcell : ∀ (w' : World), w'.heap[g]? = some (.cells (bkRow (n + 1) T) 51 (0, 0)) → w'.cell? ⟨g, 0, none⟩ = some (.int .i64 ((n + 1 : Nat) : Int)) ∧ w'.cell? ⟨g, 6, none⟩ = some hv ∧ w'.frozen? ⟨g, 6, none⟩ = false := fun w' hw' => by
    refine ⟨by rw [cell_of_row _ _ _ _ _ _ hw']; rfl, by rw [cell_of_row _ _ _ _ _ _ hw', hhv]; rfl, ?_⟩
    unfold World.frozen?; rw [hw']; simp
  obtain ⟨ca0, ca1, _⟩ := hcell W1.drew hr1
  have hlit := fun o => hcell (W1.drew.alloc o) (((Ext.refl _).alloc _).row (show W1.drew.heap[g]? = _ from hr1))
  obtain ⟨cb0, cb1, _⟩ := hlit (.cells #[.slice a len cap, .slice none 0 0, .int .i64 ((n + 1 : Nat) : Int)] 125)
  have cc0 : (W1.alloc (.cells #[.slice a len cap, .slice none 0 0, .int .i64 ((n + 1 : Nat) : Int)] 125)).drew.cell? ⟨g, 0, none⟩ = _ := cb0
  have cc1 : (W1.alloc (.cells #[.slice a len cap, .slice none 0 0, .int .i64 ((n + 1 : Nat) : Int)] 125)).drew.cell? ⟨g, 6, none⟩ = _ := cb1
  have hfin : Hid (∀ v' w6, AppK W1.drew w6 base 125 3 hv v' hs.length (hs.flatMap Hd.cs) [.slice a len cap, .slice none 0 0, .int .i64 ((n + 1 : Nat) : Int)] → w6.cell? ⟨g, 6, none⟩ = some hv ∧ w6.frozen? ⟨g, 6, none⟩ = false ∧ Hid (Below base w (w6.setCell ⟨g, 6, none⟩ v') ∧ OffB (fun q => q = g ∨ (T 6).1.ownBlock = some q) w (w6.setCell ⟨g, 6, none⟩ v') ∧ (∀ q, v'.ownBlock = some q → (T 6).1.ownBlock = some q ∨ w.heap.size ≤ q) ∧ BkI bkT base (w6.setCell ⟨g, 6, none⟩ v').heap.size g (n + 1) (upd T 6 (v', (T 6).2 ++ [⟨.slice a len cap, len, n + 1, .slice none 0 0⟩])) st (w6.setCell ⟨g, 6, none⟩ v'))) := Lib.hid (fun v' w6 hA => by
    have hO6 : OffB (fun q => q = g ∨ hv.ownBlock = some q) w w6 := hO1.trans (OffB.trans (.of_ext (Ext.refl _).drew) (hA.off.mono fun q hq => .inr hq))
    have hg6 : w6.heap[g]? = some (.cells (bkRow (n + 1) T) 51 (0, 0)) := (hA.off.block g (by rw [hsz1]; exact hgw) (fun e => hsepg g e rfl)).trans hr1
    obtain ⟨_, d1, d2⟩ := hcell w6 hg6
    have hO7 : OffB (fun q => q = g ∨ hv.ownBlock = some q) w (w6.setCell ⟨g, 6, none⟩ v') := hO6.setCell (p := ⟨g, 6, none⟩) (.inl rfl) _
    have hvq : ∀ q, v'.ownBlock = some q → q ≠ g := fun q hq e => by
      rcases hA.at_ q hq with h1 | h1
      · exact hsepg q h1 e
      · rw [hsz1] at h1; omega
    have hva : ∀ q, v'.ownBlock = some q → (T 6).1.ownBlock = some q ∨ w.heap.size ≤ q := fun q hq => by
      rw [← hhv]
      rcases hA.at_ q hq with h1 | h1
      · exact .inl h1
      · rw [hsz1] at h1; exact .inr h1
    refine ⟨d1, d2, Lib.hid ⟨hO7.below (fun q hq => ?_) (by rw [← hsz1]; exact hbase), by rw [← hhv]; exact hO7, hva, h.kept 6 h0 v' ⟨.slice a len cap, len, n + 1, .slice none 0 0⟩ ?_ (by rw [← hhv]; exact hO7) ?_ hva ⟨hx, rfl⟩ hxl hxg hxf⟩⟩
    · rcases hq with rfl | hq
      · exact h.gb
      · exact (hown.lt q hq).1
    · rw [setCell_eq_setRow _ _ _ _ _ _ _ hg6, setRow_heap _ _ _ _ _ _ hg6]
      rfl
    · have h1 : OwnC w6 base 125 3 v' (hs.length + 1) (hs.flatMap Hd.cs ++ [.slice a len cap, .slice none 0 0, .int .i64 ((n + 1 : Nat) : Int)]) := hA.own
      rw [← hhs, List.flatMap_append]
      refine h1.offB (B := fun q => q = g) ((OffB.refl (B := fun q => q = g) w6).setCell (p := ⟨g, 6, none⟩) rfl _) hvq)
  have hml : hs.length ≤ 1000000 := by rw [hhs]; exact hm
  obtain ⟨m, hmm⟩ : ∃ m, m = hs.length := ⟨_, rfl⟩
  obtain ⟨xs, hxs⟩ : ∃ xs, xs = hs.flatMap Hd.cs := ⟨_, rfl⟩
  rw [← hmm] at hml hown1 hfin
  rw [← hxs] at hown1 hfin
  have hown1' := Lib.hid hown1
  have hW1' := Lib.hid hW1
  have hn1 : IntKind.i64.wrap ((n : Int) + 1) = (n : Int) + 1 := by rw [IntKind.wrap_i64]; omega
  have e1 : ((n + 1 : Nat) : Int) = (n : Int) + 1 := by omega
  rw [e1] at ca0 cb0 cb1 cc0 cc1
  clear h h0 hm hx hxl hxg hxf hhv hhs hgw hr1 hO1 hown hsepg hown1 hcell hlit hW1 hmm hxs hsz1
  go_enter Tryz.func51, Tryz.ntmps51
  go_upto_region 1 with fail
  rw [show w.setCell ⟨g, 0, none⟩ (.int .i64 ((n : Int) + 1)) = W1 by rw [hW1'.out, e1]]
  clear c0 z0 hn1
  go_region_law (first | ((refine step_append_k rfl (.tmp 15) (.tmp 22) 42 125 rfl Tryz.underlying42 el_heldRow W1.drew base m xs hv (by rfl) hown1'.out #[.slice a len cap, .slice none 0 0, .int .i64 ((n : Int) + 1)] (by rfl) (by rfl) (by simp [Value.oneCell']) (by omega) (by omega) hbase ?_); (intro v' w6 hA; obtain ⟨oa4, oc4, rfl, _⟩ := hA.own.form; obtain ⟨hc6, hz6, hfin6⟩ := hfin.out _ w6 (by rw [e1]; exact hA); clear hA)) | fail)
  all_goals
    go_end0
    exact ⟨rfl, hfin6.out.1, hfin6.out.2.1, _, hfin6.out.2.2⟩
end Go.Proofs.YthageoibkeebhaaGreatDoor

/- keepChange: a list more is kept. No condition. -/
namespace Go.Proofs.YthageoibkeebhaaGreatDoor
open Go.RowKit
set_option maxRecDepth 100000
set_option maxHeartbeats 4000000
theorem el_heldChange : ElemIs Tryz.prog 151 3 56 := by
  refine ElemIs.mk (z := .agg #[.slice none 0 0, .slice none 0 0, .int .i64 0]) (by kernel_rfl) (by rfl) (by decide)
theorem keepChange_any {base N0 g n : Nat} {T : Nat → Kd} {st : Nat → Nat} {w : World} (h : BkI bkT base N0 g n T st w) (h0 : ∀ j, st j = 0) (hn : n < 1000000) (hm : (T 7).2.length ≤ 1000000) (a : Option Addr) (len cap : Nat) (hx : ∃ xs, OwnC w base (bkT.et 7) (bkT.z 7) (.slice a len cap) len xs) (hxl : len ≤ 1000000) (hxg : (Value.slice a len cap).ownBlock ≠ some g) (hxf : ∀ j q, (Value.slice a len cap).ownBlock = some q → ¬ FP (T j) q) :
    Calls Tryz.prog 102 #[.pointer (some ⟨g, 0, none⟩), .slice a len cap] w fun e w' => e = .returned (.tuple #[]) ∧ Below base w w' ∧ OffB (fun q => q = g ∨ (T 7).1.ownBlock = some q) w w' ∧ ∃ v', (∀ q, v'.ownBlock = some q → (T 7).1.ownBlock = some q ∨ w.heap.size ≤ q) ∧ BkI bkT base w'.heap.size g (n + 1) (upd T 7 (v', (T 7).2 ++ [⟨.slice a len cap, len, n + 1, .slice none 0 0⟩])) st w' := by
  obtain ⟨hv, hhv⟩ : ∃ v, v = (T 7).1 := ⟨_, rfl⟩
  obtain ⟨hs, hhs⟩ : ∃ v, v = (T 7).2 := ⟨_, rfl⟩
  obtain ⟨W1, hW1⟩ : ∃ W, W = w.setCell ⟨g, 0, none⟩ (.int .i64 ((n + 1 : Nat) : Int)) := ⟨_, rfl⟩
  have hgw : g < w.heap.size := (Array.getElem?_eq_some_iff.1 h.row).1
  have c0 : w.cell? ⟨g, 0, none⟩ = some (.int .i64 (n : Int)) := by rw [cell_of_row _ _ _ _ _ _ h.row]; rfl
  have z0 : w.frozen? ⟨g, 0, none⟩ = false := by unfold World.frozen?; rw [h.row]; simp
  have hr1 : W1.heap[g]? = some (.cells (bkRow (n + 1) T) 51 (0, 0)) := by
    rw [hW1, setCell_eq_setRow _ _ _ _ _ _ _ h.row, setRow_heap _ _ _ _ _ _ h.row]
    rfl
  have hO1 : OffB (fun q => q = g ∨ hv.ownBlock = some q) w W1 := by rw [hW1]; exact (OffB.refl w).setCell (p := ⟨g, 0, none⟩) (.inl rfl) _
  have hown : OwnC w base 151 3 hv hs.length (hs.flatMap Hd.cs) := by have := h.hdr 7; rw [← hhv, ← hhs] at this; exact this
  have hsepg : ∀ q, hv.ownBlock = some q → q ≠ g := fun q hq e => h.sepg 7 (.inl (by rw [← hhv, ← e]; exact hq))
  have hown1 : OwnC W1.drew base 151 3 hv hs.length (hs.flatMap Hd.cs) := by
    refine (hown.offB (B := fun q => q = g) (w' := W1) ?_ hsepg).ext (Ext.refl _).drew
    rw [hW1]; exact (OffB.refl (B := fun q => q = g) w).setCell (p := ⟨g, 0, none⟩) rfl _
  have hsz1 : W1.drew.heap.size = w.heap.size := by show W1.heap.size = _; rw [hW1]; simp
  have hbase : base ≤ W1.drew.heap.size := by rw [hsz1]; have := h.gb; omega
  have hcell : ∀ (w' : World), w'.heap[g]? = some (.cells (bkRow (n + 1) T) 51 (0, 0)) → w'.cell? ⟨g, 0, none⟩ = some (.int .i64 ((n + 1 : Nat) : Int)) ∧ w'.cell? ⟨g, 7, none⟩ = some hv ∧ w'.frozen? ⟨g, 7, none⟩ = false := fun w' hw' => by
    refine ⟨by rw [cell_of_row _ _ _ _ _ _ hw']; rfl, by rw [cell_of_row _ _ _ _ _ _ hw', hhv]; rfl, ?_⟩
    unfold World.frozen?; rw [hw']; simp
  obtain ⟨ca0, ca1, _⟩ := hcell W1.drew hr1
  have hlit := fun o => hcell (W1.drew.alloc o) (((Ext.refl _).alloc _).row (show W1.drew.heap[g]? = _ from hr1))
  obtain ⟨cb0, cb1, _⟩ := hlit (.cells #[.slice a len cap, .slice none 0 0, .int .i64 ((n + 1 : Nat) : Int)] 151)
  have cc0 : (W1.alloc (.cells #[.slice a len cap, .slice none 0 0, .int .i64 ((n + 1 : Nat) : Int)] 151)).drew.cell? ⟨g, 0, none⟩ = _ := cb0
  have cc1 : (W1.alloc (.cells #[.slice a len cap, .slice none 0 0, .int .i64 ((n + 1 : Nat) : Int)] 151)).drew.cell? ⟨g, 7, none⟩ = _ := cb1
  have hfin : Hid (∀ v' w6, AppK W1.drew w6 base 151 3 hv v' hs.length (hs.flatMap Hd.cs) [.slice a len cap, .slice none 0 0, .int .i64 ((n + 1 : Nat) : Int)] → w6.cell? ⟨g, 7, none⟩ = some hv ∧ w6.frozen? ⟨g, 7, none⟩ = false ∧ Hid (Below base w (w6.setCell ⟨g, 7, none⟩ v') ∧ OffB (fun q => q = g ∨ (T 7).1.ownBlock = some q) w (w6.setCell ⟨g, 7, none⟩ v') ∧ (∀ q, v'.ownBlock = some q → (T 7).1.ownBlock = some q ∨ w.heap.size ≤ q) ∧ BkI bkT base (w6.setCell ⟨g, 7, none⟩ v').heap.size g (n + 1) (upd T 7 (v', (T 7).2 ++ [⟨.slice a len cap, len, n + 1, .slice none 0 0⟩])) st (w6.setCell ⟨g, 7, none⟩ v'))) := Lib.hid (fun v' w6 hA => by
    have hO6 : OffB (fun q => q = g ∨ hv.ownBlock = some q) w w6 := hO1.trans (OffB.trans (.of_ext (Ext.refl _).drew) (hA.off.mono fun q hq => .inr hq))
    have hg6 : w6.heap[g]? = some (.cells (bkRow (n + 1) T) 51 (0, 0)) := (hA.off.block g (by rw [hsz1]; exact hgw) (fun e => hsepg g e rfl)).trans hr1
    obtain ⟨_, d1, d2⟩ := hcell w6 hg6
    have hO7 : OffB (fun q => q = g ∨ hv.ownBlock = some q) w (w6.setCell ⟨g, 7, none⟩ v') := hO6.setCell (p := ⟨g, 7, none⟩) (.inl rfl) _
    have hvq : ∀ q, v'.ownBlock = some q → q ≠ g := fun q hq e => by
      rcases hA.at_ q hq with h1 | h1
      · exact hsepg q h1 e
      · rw [hsz1] at h1; omega
    have hva : ∀ q, v'.ownBlock = some q → (T 7).1.ownBlock = some q ∨ w.heap.size ≤ q := fun q hq => by
      rw [← hhv]
      rcases hA.at_ q hq with h1 | h1
      · exact .inl h1
      · rw [hsz1] at h1; exact .inr h1
    refine ⟨d1, d2, Lib.hid ⟨hO7.below (fun q hq => ?_) (by rw [← hsz1]; exact hbase), by rw [← hhv]; exact hO7, hva, h.kept 7 h0 v' ⟨.slice a len cap, len, n + 1, .slice none 0 0⟩ ?_ (by rw [← hhv]; exact hO7) ?_ hva ⟨hx, rfl⟩ hxl hxg hxf⟩⟩
    · rcases hq with rfl | hq
      · exact h.gb
      · exact (hown.lt q hq).1
    · rw [setCell_eq_setRow _ _ _ _ _ _ _ hg6, setRow_heap _ _ _ _ _ _ hg6]
      rfl
    · have h1 : OwnC w6 base 151 3 v' (hs.length + 1) (hs.flatMap Hd.cs ++ [.slice a len cap, .slice none 0 0, .int .i64 ((n + 1 : Nat) : Int)]) := hA.own
      rw [← hhs, List.flatMap_append]
      refine h1.offB (B := fun q => q = g) ((OffB.refl (B := fun q => q = g) w6).setCell (p := ⟨g, 7, none⟩) rfl _) hvq)
  have hml : hs.length ≤ 1000000 := by rw [hhs]; exact hm
  obtain ⟨m, hmm⟩ : ∃ m, m = hs.length := ⟨_, rfl⟩
  obtain ⟨xs, hxs⟩ : ∃ xs, xs = hs.flatMap Hd.cs := ⟨_, rfl⟩
  rw [← hmm] at hml hown1 hfin
  rw [← hxs] at hown1 hfin
  have hown1' := Lib.hid hown1
  have hW1' := Lib.hid hW1
  have hn1 : IntKind.i64.wrap ((n : Int) + 1) = (n : Int) + 1 := by rw [IntKind.wrap_i64]; omega
  have e1 : ((n + 1 : Nat) : Int) = (n : Int) + 1 := by omega
  rw [e1] at ca0 cb0 cb1 cc0 cc1
  clear h h0 hm hx hxl hxg hxf hhv hhs hgw hr1 hO1 hown hsepg hown1 hcell hlit hW1 hmm hxs hsz1
  go_enter Tryz.func102, Tryz.ntmps102
  go_upto_region 1 with fail
  rw [show w.setCell ⟨g, 0, none⟩ (.int .i64 ((n : Int) + 1)) = W1 by rw [hW1'.out, e1]]
  clear c0 z0 hn1
  go_region_law (first | ((refine step_append_k rfl (.tmp 15) (.tmp 22) 43 151 rfl Tryz.underlying43 el_heldChange W1.drew base m xs hv (by rfl) hown1'.out #[.slice a len cap, .slice none 0 0, .int .i64 ((n : Int) + 1)] (by rfl) (by rfl) (by simp [Value.oneCell']) (by omega) (by omega) hbase ?_); (intro v' w6 hA; obtain ⟨oa4, oc4, rfl, _⟩ := hA.own.form; obtain ⟨hc6, hz6, hfin6⟩ := hfin.out _ w6 (by rw [e1]; exact hA); clear hA)) | fail)
  all_goals
    go_end0
    exact ⟨rfl, hfin6.out.1, hfin6.out.2.1, _, hfin6.out.2.2⟩
end Go.Proofs.YthageoibkeebhaaGreatDoor

/- keepSaid: a list more is kept. No condition. -/
namespace Go.Proofs.YthageoibkeebhaaGreatDoor
open Go.RowKit
set_option maxRecDepth 100000
set_option maxHeartbeats 4000000
theorem el_heldSaid : ElemIs Tryz.prog 127 3 56 := by
  refine ElemIs.mk (z := .agg #[.slice none 0 0, .slice none 0 0, .int .i64 0]) (by kernel_rfl) (by rfl) (by decide)
theorem keepSaid_any {base N0 g n : Nat} {T : Nat → Kd} {st : Nat → Nat} {w : World} (h : BkI bkT base N0 g n T st w) (h0 : ∀ j, st j = 0) (hn : n < 1000000) (hm : (T 11).2.length ≤ 1000000) (a : Option Addr) (len cap : Nat) (hx : ∃ xs, OwnC w base (bkT.et 11) (bkT.z 11) (.slice a len cap) len xs) (hxl : len ≤ 1000000) (hxg : (Value.slice a len cap).ownBlock ≠ some g) (hxf : ∀ j q, (Value.slice a len cap).ownBlock = some q → ¬ FP (T j) q) :
    Calls Tryz.prog 53 #[.pointer (some ⟨g, 0, none⟩), .slice a len cap] w fun e w' => e = .returned (.tuple #[]) ∧ Below base w w' ∧ OffB (fun q => q = g ∨ (T 11).1.ownBlock = some q) w w' ∧ ∃ v', (∀ q, v'.ownBlock = some q → (T 11).1.ownBlock = some q ∨ w.heap.size ≤ q) ∧ BkI bkT base w'.heap.size g (n + 1) (upd T 11 (v', (T 11).2 ++ [⟨.slice a len cap, len, n + 1, .slice none 0 0⟩])) st w' := by
  obtain ⟨hv, hhv⟩ : ∃ v, v = (T 11).1 := ⟨_, rfl⟩
  obtain ⟨hs, hhs⟩ : ∃ v, v = (T 11).2 := ⟨_, rfl⟩
  obtain ⟨W1, hW1⟩ : ∃ W, W = w.setCell ⟨g, 0, none⟩ (.int .i64 ((n + 1 : Nat) : Int)) := ⟨_, rfl⟩
  have hgw : g < w.heap.size := (Array.getElem?_eq_some_iff.1 h.row).1
  have c0 : w.cell? ⟨g, 0, none⟩ = some (.int .i64 (n : Int)) := by rw [cell_of_row _ _ _ _ _ _ h.row]; rfl
  have z0 : w.frozen? ⟨g, 0, none⟩ = false := by unfold World.frozen?; rw [h.row]; simp
  have hr1 : W1.heap[g]? = some (.cells (bkRow (n + 1) T) 51 (0, 0)) := by
    rw [hW1, setCell_eq_setRow _ _ _ _ _ _ _ h.row, setRow_heap _ _ _ _ _ _ h.row]
    rfl
  have hO1 : OffB (fun q => q = g ∨ hv.ownBlock = some q) w W1 := by rw [hW1]; exact (OffB.refl w).setCell (p := ⟨g, 0, none⟩) (.inl rfl) _
  have hown : OwnC w base 127 3 hv hs.length (hs.flatMap Hd.cs) := by have := h.hdr 11; rw [← hhv, ← hhs] at this; exact this
  have hsepg : ∀ q, hv.ownBlock = some q → q ≠ g := fun q hq e => h.sepg 11 (.inl (by rw [← hhv, ← e]; exact hq))
  have hown1 : OwnC W1.drew base 127 3 hv hs.length (hs.flatMap Hd.cs) := by
    refine (hown.offB (B := fun q => q = g) (w' := W1) ?_ hsepg).ext (Ext.refl _).drew
    rw [hW1]; exact (OffB.refl (B := fun q => q = g) w).setCell (p := ⟨g, 0, none⟩) rfl _
  have hsz1 : W1.drew.heap.size = w.heap.size := by show W1.heap.size = _; rw [hW1]; simp
  have hbase : base ≤ W1.drew.heap.size := by rw [hsz1]; have := h.gb; omega
  have hcell : ∀ (w' : World), w'.heap[g]? = some (.cells (bkRow (n + 1) T) 51 (0, 0)) → w'.cell? ⟨g, 0, none⟩ = some (.int .i64 ((n + 1 : Nat) : Int)) ∧ w'.cell? ⟨g, 11, none⟩ = some hv ∧ w'.frozen? ⟨g, 11, none⟩ = false := fun w' hw' => by
    refine ⟨by rw [cell_of_row _ _ _ _ _ _ hw']; rfl, by rw [cell_of_row _ _ _ _ _ _ hw', hhv]; rfl, ?_⟩
    unfold World.frozen?; rw [hw']; simp
  obtain ⟨ca0, ca1, _⟩ := hcell W1.drew hr1
  have hlit := fun o => hcell (W1.drew.alloc o) (((Ext.refl _).alloc _).row (show W1.drew.heap[g]? = _ from hr1))
  obtain ⟨cb0, cb1, _⟩ := hlit (.cells #[.slice a len cap, .slice none 0 0, .int .i64 ((n + 1 : Nat) : Int)] 127)
  have cc0 : (W1.alloc (.cells #[.slice a len cap, .slice none 0 0, .int .i64 ((n + 1 : Nat) : Int)] 127)).drew.cell? ⟨g, 0, none⟩ = _ := cb0
  have cc1 : (W1.alloc (.cells #[.slice a len cap, .slice none 0 0, .int .i64 ((n + 1 : Nat) : Int)] 127)).drew.cell? ⟨g, 11, none⟩ = _ := cb1
  have hfin : Hid (∀ v' w6, AppK W1.drew w6 base 127 3 hv v' hs.length (hs.flatMap Hd.cs) [.slice a len cap, .slice none 0 0, .int .i64 ((n + 1 : Nat) : Int)] → w6.cell? ⟨g, 11, none⟩ = some hv ∧ w6.frozen? ⟨g, 11, none⟩ = false ∧ Hid (Below base w (w6.setCell ⟨g, 11, none⟩ v') ∧ OffB (fun q => q = g ∨ (T 11).1.ownBlock = some q) w (w6.setCell ⟨g, 11, none⟩ v') ∧ (∀ q, v'.ownBlock = some q → (T 11).1.ownBlock = some q ∨ w.heap.size ≤ q) ∧ BkI bkT base (w6.setCell ⟨g, 11, none⟩ v').heap.size g (n + 1) (upd T 11 (v', (T 11).2 ++ [⟨.slice a len cap, len, n + 1, .slice none 0 0⟩])) st (w6.setCell ⟨g, 11, none⟩ v'))) := Lib.hid (fun v' w6 hA => by
    have hO6 : OffB (fun q => q = g ∨ hv.ownBlock = some q) w w6 := hO1.trans (OffB.trans (.of_ext (Ext.refl _).drew) (hA.off.mono fun q hq => .inr hq))
    have hg6 : w6.heap[g]? = some (.cells (bkRow (n + 1) T) 51 (0, 0)) := (hA.off.block g (by rw [hsz1]; exact hgw) (fun e => hsepg g e rfl)).trans hr1
    obtain ⟨_, d1, d2⟩ := hcell w6 hg6
    have hO7 : OffB (fun q => q = g ∨ hv.ownBlock = some q) w (w6.setCell ⟨g, 11, none⟩ v') := hO6.setCell (p := ⟨g, 11, none⟩) (.inl rfl) _
    have hvq : ∀ q, v'.ownBlock = some q → q ≠ g := fun q hq e => by
      rcases hA.at_ q hq with h1 | h1
      · exact hsepg q h1 e
      · rw [hsz1] at h1; omega
    have hva : ∀ q, v'.ownBlock = some q → (T 11).1.ownBlock = some q ∨ w.heap.size ≤ q := fun q hq => by
      rw [← hhv]
      rcases hA.at_ q hq with h1 | h1
      · exact .inl h1
      · rw [hsz1] at h1; exact .inr h1
    refine ⟨d1, d2, Lib.hid ⟨hO7.below (fun q hq => ?_) (by rw [← hsz1]; exact hbase), by rw [← hhv]; exact hO7, hva, h.kept 11 h0 v' ⟨.slice a len cap, len, n + 1, .slice none 0 0⟩ ?_ (by rw [← hhv]; exact hO7) ?_ hva ⟨hx, rfl⟩ hxl hxg hxf⟩⟩
    · rcases hq with rfl | hq
      · exact h.gb
      · exact (hown.lt q hq).1
    · rw [setCell_eq_setRow _ _ _ _ _ _ _ hg6, setRow_heap _ _ _ _ _ _ hg6]
      rfl
    · have h1 : OwnC w6 base 127 3 v' (hs.length + 1) (hs.flatMap Hd.cs ++ [.slice a len cap, .slice none 0 0, .int .i64 ((n + 1 : Nat) : Int)]) := hA.own
      rw [← hhs, List.flatMap_append]
      refine h1.offB (B := fun q => q = g) ((OffB.refl (B := fun q => q = g) w6).setCell (p := ⟨g, 11, none⟩) rfl _) hvq)
  have hml : hs.length ≤ 1000000 := by rw [hhs]; exact hm
  obtain ⟨m, hmm⟩ : ∃ m, m = hs.length := ⟨_, rfl⟩
  obtain ⟨xs, hxs⟩ : ∃ xs, xs = hs.flatMap Hd.cs := ⟨_, rfl⟩
  rw [← hmm] at hml hown1 hfin
  rw [← hxs] at hown1 hfin
  have hown1' := Lib.hid hown1
  have hW1' := Lib.hid hW1
  have hn1 : IntKind.i64.wrap ((n : Int) + 1) = (n : Int) + 1 := by rw [IntKind.wrap_i64]; omega
  have e1 : ((n + 1 : Nat) : Int) = (n : Int) + 1 := by omega
  rw [e1] at ca0 cb0 cb1 cc0 cc1
  clear h h0 hm hx hxl hxg hxf hhv hhs hgw hr1 hO1 hown hsepg hown1 hcell hlit hW1 hmm hxs hsz1
  go_enter Tryz.func53, Tryz.ntmps53
  go_upto_region 1 with fail
  rw [show w.setCell ⟨g, 0, none⟩ (.int .i64 ((n : Int) + 1)) = W1 by rw [hW1'.out, e1]]
  clear c0 z0 hn1
  go_region_law (first | ((refine step_append_k rfl (.tmp 15) (.tmp 22) 47 127 rfl Tryz.underlying47 el_heldSaid W1.drew base m xs hv (by rfl) hown1'.out #[.slice a len cap, .slice none 0 0, .int .i64 ((n : Int) + 1)] (by rfl) (by rfl) (by simp [Value.oneCell']) (by omega) (by omega) hbase ?_); (intro v' w6 hA; obtain ⟨oa4, oc4, rfl, _⟩ := hA.own.form; obtain ⟨hc6, hz6, hfin6⟩ := hfin.out _ w6 (by rw [e1]; exact hA); clear hA)) | fail)
  all_goals
    go_end0
    exact ⟨rfl, hfin6.out.1, hfin6.out.2.1, _, hfin6.out.2.2⟩
end Go.Proofs.YthageoibkeebhaaGreatDoor

/- A book, with the zone that is its own: begun, kept in, asked; lists may be made behind it. No condition. -/
namespace Go.Proofs.YthageoibkeebhaaGreatDoor
open Go.RowKit
set_option maxRecDepth 100000
set_option maxHeartbeats 2000000
def bkIn (j : Nat) : Prop := j = 6 ∨ j = 7 ∨ j = 11
/-- A book that keeps n lists; Z: the blocks that are its own. -/
def BkZ (base g n : Nat) (w : World) (Z : Nat → Prop) : Prop := ∃ T N0, BkI bkT base N0 g n T (fun _ => 0) w ∧ (∀ k, Z k ↔ k = g ∨ ∃ j, FP (T j) k) ∧ (∀ j, ¬ bkIn j → (T j).1 = .slice none 0 0) ∧ (∀ j x, x ∈ (T j).2 → x.num ≤ n) ∧ ∀ j, (T j).2.length ≤ n
theorem BkI.off0 {base N0 g n : Nat} {T : Nat → Kd} {w w' : World} {B : Nat → Prop} (h : BkI bkT base N0 g n T (fun _ => 0) w) (hO : OffB B w w') (hb : ∀ q, B q → base ≤ q) (hZ : ∀ q, B q → ¬ (q = g ∨ ∃ j, FP (T j) q)) : BkI bkT base N0 g n T (fun _ => 0) w' := by
  refine ⟨?_, h.gb, h.gN, Nat.le_trans h.big hO.size, h.fpN, fun j => (h.hdr j).offB hO (fun q hq hB => hZ q hB (.inr ⟨j, .inl hq⟩)), fun j x hx => ?_, h.sepg, h.seph, h.sepl, h.sepx, fun W hW => h.tab W (Below.trans (hO.below hb h.base_le) hW)⟩
  · exact (hO.block g (Array.getElem?_eq_some_iff.1 h.row).1 (fun hB => hZ g hB (.inl rfl))).trans h.row
  · obtain ⟨⟨⟨ys, ky⟩, kn⟩, k2⟩ := h.lst j x hx
    exact ⟨⟨⟨ys, ky.offB hO (fun q hq hB => hZ q hB (.inr ⟨j, .inr ⟨x.sl, List.mem_map_of_mem hx, hq⟩⟩))⟩, kn⟩, k2⟩
section
variable {base g n : Nat} {w w' : World} {Z : Nat → Prop}
theorem BkZ.off {B : Nat → Prop} (h : BkZ base g n w Z) (hO : OffB B w w') (hb : ∀ q, B q → base ≤ q) (hZ : ∀ q, B q → ¬ Z q) : BkZ base g n w' Z := by
  obtain ⟨T, N0, h1, h2, h3⟩ := h
  exact ⟨T, N0, h1.off0 hO hb (fun q hq hz => hZ q hq ((h2 q).2 hz)), h2, h3⟩
theorem BkZ.ext (h : BkZ base g n w Z) (hE : Ext w w') : BkZ base g n w' Z := by
  obtain ⟨T, N0, h1, h2⟩ := h
  exact ⟨T, N0, h1.ext hE, h2⟩
theorem BkZ.base_le (h : BkZ base g n w Z) : base ≤ w.heap.size := by
  obtain ⟨T, N0, h1, _⟩ := h
  exact h1.base_le
theorem BkZ.ge (h : BkZ base g n w Z) {k : Nat} (hk : Z k) : base ≤ k := by
  obtain ⟨T, N0, h1, h2, _⟩ := h
  rcases (h2 k).1 hk with rfl | ⟨j, hj⟩
  · exact h1.gb
  · exact h1.fpb j k hj
theorem BkZ.lt (h : BkZ base g n w Z) {k : Nat} (hk : Z k) : k < w.heap.size := by
  obtain ⟨T, N0, h1, h2, _⟩ := h
  rcases (h2 k).1 hk with rfl | ⟨j, hj⟩
  · exact (Array.getElem?_eq_some_iff.1 h1.row).1
  · exact Nat.lt_of_lt_of_le (h1.fpN j k hj) h1.big
/-- A book's own block and those of its headers; all blocks of a book. -/
def bkOwn (t : TypeId) : Prop := t = 51 ∨ ∃ j, bkIn j ∧ t = bkT.ht j
def bkAny (t : TypeId) : Prop := bkOwn t ∨ ∃ j, bkIn j ∧ t = bkT.et j
def bkTyp (w : World) (q : Nat) : Prop := ∃ c t, w.heap[q]? = some (.cells c t (0, 0)) ∧ bkOwn t
theorem own_typ {w : World} {base : Nat} {e : TypeId} {z n : Nat} {v : Value} {xs : List Value} (h : OwnC w base e z v n xs) {q : Nat} (hq : v.ownBlock = some q) : ∃ c, w.heap[q]? = some (.cells c e (0, 0)) := by
  obtain ⟨_, ⟨e1, _⟩ | ⟨g, cap, cur, e1, _, h6, _⟩⟩ := h
  · rw [e1] at hq; cases hq
  · rw [e1] at hq
    injection hq with hq
    have hq : g = q := hq
    exact ⟨cur, by rw [← hq]; exact h6⟩
theorem BkZ.ty (h : BkZ base g n w Z) {k : Nat} (hk : Z k) : ∃ c t, w.heap[k]? = some (.cells c t (0, 0)) ∧ bkAny t := by
  obtain ⟨T, N0, h1, h2, h4, _, _⟩ := h
  have hno : ∀ j, ¬ bkIn j → ¬ FP (T j) k := fun j hj hF => by
    have h5 := h1.hdr j
    rw [h4 j hj] at h5
    rcases hF with h6 | ⟨v, h6, _⟩
    · rw [h4 j hj] at h6; cases h6
    · obtain ⟨x, hx, _⟩ := List.mem_map.1 h6
      obtain ⟨_, ⟨_, e1⟩ | ⟨g, cap, cur, e1, _⟩⟩ := h5
      · have := List.length_pos_of_mem hx; omega
      · cases e1
  rcases (h2 k).1 hk with rfl | ⟨j, hj⟩
  · exact ⟨_, _, h1.row, .inl (.inl rfl)⟩
  · by_cases hin : bkIn j
    · rcases hj with h6 | ⟨v, h6, h7⟩
      · obtain ⟨c, hc⟩ := own_typ (h1.hdr j) h6
        exact ⟨c, _, hc, .inl (.inr ⟨j, hin, rfl⟩)⟩
      · obtain ⟨x, hx, rfl⟩ := List.mem_map.1 h6
        obtain ⟨⟨⟨ys, ky⟩, _⟩, _⟩ := h1.lst j x hx
        obtain ⟨c, hc⟩ := own_typ ky h7
        exact ⟨c, _, hc, .inr ⟨j, hin, rfl⟩⟩
    · exact absurd hj (hno j hin)
/-- What turns blocks of other types alone leaves a book as it is. -/
theorem BkZ.offT {B : Nat → Prop} (h : BkZ base g n w Z) (hO : OffB B w w') (hb : ∀ q, B q → base ≤ q) (ht : ∀ q, B q → ∀ c t, w.heap[q]? = some (.cells c t (0, 0)) → ¬ bkAny t) : BkZ base g n w' Z :=
  h.off hO hb (fun q hq hz => by
    obtain ⟨c, t, h1, h2⟩ := h.ty hz
    exact ht q hq c t h1 h2)
theorem BkZ.start (hr : w.heap[g]? = some (.cells (bkRow 0 fun _ => (.slice none 0 0, [])) 51 (0, 0))) (hg : base ≤ g) (ht : ∀ W, Below base w W → TabW W) : BkZ base g 0 w (fun k => k = g) := by
  have hgw : g < w.heap.size := (Array.getElem?_eq_some_iff.1 hr).1
  have no : ∀ q, ¬ FP ((.slice none 0 0, []) : Kd) q := fun q hq => by
    rcases hq with h | ⟨v, h, _⟩
    · cases h
    · cases h
  have hB : BkI bkT base (g + 1) g 0 (fun _ => (.slice none 0 0, [])) (fun _ => 0) w := ⟨hr, hg, by omega, hgw, fun _ q hq => (no q hq).elim, fun _ => OwnC.nil _ _ _ _, (fun _ _ hx => nomatch hx), fun _ hq => no _ hq, (fun _ _ hv => nomatch hv), fun _ => .nil, fun _ _ _ q hq => (no q hq).elim, ht⟩
  refine ⟨_, _, hB, fun k => ⟨.inl, fun hk => ?_⟩, ?_, ?_, ?_⟩
  · rcases hk with h | ⟨j, h⟩
    · exact h
    · exact (no k h).elim
  · intro _ _; rfl
  · intro _ _ h; cases h
  · intro _; exact Nat.le_refl _
theorem bkz_kept {N1 : Nat} {T : Nat → Kd} (h2 : ∀ k, Z k ↔ k = g ∨ ∃ j, FP (T j) k) (h4 : ∀ j, ¬ bkIn j → (T j).1 = .slice none 0 0) (h5 : ∀ j x, x ∈ (T j).2 → x.num ≤ n) (h6 : ∀ j, (T j).2.length ≤ n) (i : Nat) (hi : bkIn i) (x v' : Value) (len : Nat) (hv : ∀ q, v'.ownBlock = some q → (T i).1.ownBlock = some q ∨ w.heap.size ≤ q) (hB : BkI bkT base N1 g (n + 1) (upd T i (v', (T i).2 ++ [⟨x, len, n + 1, .slice none 0 0⟩])) (fun _ => 0) w') : ∃ Z', BkZ base g (n + 1) w' Z' ∧ ∀ k, Z' k → Z k ∨ x.ownBlock = some k ∨ w.heap.size ≤ k := by
  refine ⟨_, ⟨_, _, hB, fun k => Iff.rfl, fun j hj => ?_, fun j y hy => ?_, fun j => ?_⟩, fun k hk => ?_⟩
  · rw [upd_ne _ _ (fun e => hj (by rw [e]; exact hi))]
    exact h4 j hj
  · by_cases hj : j = i
    · subst hj
      rw [upd_same] at hy
      rcases List.mem_append.1 hy with hy | hy
      · have := h5 j y hy; omega
      · rw [List.mem_singleton.1 hy]; exact Nat.le_refl _
    · rw [upd_ne _ _ hj] at hy
      have := h5 j y hy; omega
  · by_cases hj : j = i
    · subst hj
      rw [upd_same]
      rw [List.length_append]
      have := h6 j
      simp only [List.length_cons, List.length_nil]
      omega
    · rw [upd_ne _ _ hj]
      have := h6 j; omega
  · rcases hk with rfl | ⟨j, hk⟩
    · exact .inl ((h2 _).2 (.inl rfl))
    · by_cases hj : j = i
      · subst hj
        rw [upd_same] at hk
        rcases hk with hk | ⟨u, hu, hk⟩
        · rcases hv k hk with h | h
          · exact .inl ((h2 k).2 (.inr ⟨j, .inl h⟩))
          · exact .inr (.inr h)
        · unfold sls at hu
          rw [List.map_append] at hu
          rcases List.mem_append.1 hu with hu | hu
          · exact .inl ((h2 k).2 (.inr ⟨j, .inr ⟨u, hu, hk⟩⟩))
          · rw [List.mem_singleton.1 hu] at hk
            exact .inr (.inl hk)
      · rw [upd_ne _ _ hj] at hk
        exact .inl ((h2 k).2 (.inr ⟨j, hk⟩))
/-- A list is kept. -/
def BkZE (base g n : Nat) (x : Value) (Z : Nat → Prop) (w : World) (e : Ending) (w' : World) : Prop := e = .returned (.tuple #[]) ∧ Below base w w' ∧ OffB (fun q => Z q ∧ bkTyp w q) w w' ∧ ∃ Z', BkZ base g n w' Z' ∧ ∀ k, Z' k → Z k ∨ x.ownBlock = some k ∨ w.heap.size ≤ k
theorem keepzRow_any (h : BkZ base g n w Z) (hn : n < 900000) (a : Option Addr) (len cap : Nat) (xs : List Value) (hx : OwnC w base 84 2 (.slice a len cap) len xs) (hl : len ≤ 1000000) (hs : ∀ q, (Value.slice a len cap).ownBlock = some q → ¬ Z q) :
    Calls Tryz.prog 51 #[.pointer (some ⟨g, 0, none⟩), .slice a len cap] w (BkZE base g (n + 1) (.slice a len cap) Z w) := by
  obtain ⟨T, N0, h1, h2, h4, h5, h6⟩ := h
  have h8 : ∀ q, q = g ∨ (T 6).1.ownBlock = some q → Z q ∧ bkTyp w q := fun q hq => by
    rcases hq with rfl | hq
    · exact ⟨(h2 _).2 (.inl rfl), _, _, h1.row, .inl rfl⟩
    · obtain ⟨c, hc⟩ := own_typ (h1.hdr 6) hq
      exact ⟨(h2 _).2 (.inr ⟨6, .inl hq⟩), c, _, hc, .inr ⟨6, by unfold bkIn; decide, rfl⟩⟩
  refine (keepRow_any h1 (fun _ => rfl) (by omega) (by have := h6 6; omega) a len cap ⟨xs, hx⟩ hl (fun e => hs g e ((h2 g).2 (.inl rfl))) (fun j q hq hF => hs q hq ((h2 q).2 (.inr ⟨j, hF⟩)))).mono ?_
  rintro e w' ⟨he, hb, hO, v', hv, hB⟩
  exact ⟨he, hb, hO.mono fun q hq => h8 q hq, bkz_kept h2 h4 h5 h6 6 (by unfold bkIn; decide) _ v' len hv hB⟩
theorem bookzRow_any (h : BkZ base g n w Z) (hn : n < 900000) (a : Option Addr) (len cap : Nat) (xs : List Value) (hx : OwnC w base 84 2 (.slice a len cap) len xs) (hl : len ≤ 1000000) (hs : ∀ q, (Value.slice a len cap).ownBlock = some q → ¬ Z q) :
    Calls Tryz.prog 13 #[.pointer (some ⟨g, 0, none⟩), .slice a len cap] w (BkZE base g (n + 1) (.slice a len cap) Z w) := by
  have hk := Lib.hid (keepzRow_any h hn a len cap xs hx hl hs)
  clear h hx hs
  go_enter Tryz.func13, Tryz.ntmps13
  go_wp2_with fail
  refine hk.out.mono ?_
  rintro e w' ⟨rfl, h2⟩
  have h2' := Lib.hid h2
  clear hk h2
  go_wp2_with fail
  go_end0
  exact ⟨rfl, h2'.out⟩
theorem keepzChange_any (h : BkZ base g n w Z) (hn : n < 900000) (a : Option Addr) (len cap : Nat) (xs : List Value) (hx : OwnC w base 102 3 (.slice a len cap) len xs) (hl : len ≤ 1000000) (hs : ∀ q, (Value.slice a len cap).ownBlock = some q → ¬ Z q) :
    Calls Tryz.prog 102 #[.pointer (some ⟨g, 0, none⟩), .slice a len cap] w (BkZE base g (n + 1) (.slice a len cap) Z w) := by
  obtain ⟨T, N0, h1, h2, h4, h5, h6⟩ := h
  have h8 : ∀ q, q = g ∨ (T 7).1.ownBlock = some q → Z q ∧ bkTyp w q := fun q hq => by
    rcases hq with rfl | hq
    · exact ⟨(h2 _).2 (.inl rfl), _, _, h1.row, .inl rfl⟩
    · obtain ⟨c, hc⟩ := own_typ (h1.hdr 7) hq
      exact ⟨(h2 _).2 (.inr ⟨7, .inl hq⟩), c, _, hc, .inr ⟨7, by unfold bkIn; decide, rfl⟩⟩
  refine (keepChange_any h1 (fun _ => rfl) (by omega) (by have := h6 7; omega) a len cap ⟨xs, hx⟩ hl (fun e => hs g e ((h2 g).2 (.inl rfl))) (fun j q hq hF => hs q hq ((h2 q).2 (.inr ⟨j, hF⟩)))).mono ?_
  rintro e w' ⟨he, hb, hO, v', hv, hB⟩
  exact ⟨he, hb, hO.mono fun q hq => h8 q hq, bkz_kept h2 h4 h5 h6 7 (by unfold bkIn; decide) _ v' len hv hB⟩
theorem bookzChange_any (h : BkZ base g n w Z) (hn : n < 900000) (a : Option Addr) (len cap : Nat) (xs : List Value) (hx : OwnC w base 102 3 (.slice a len cap) len xs) (hl : len ≤ 1000000) (hs : ∀ q, (Value.slice a len cap).ownBlock = some q → ¬ Z q) :
    Calls Tryz.prog 29 #[.pointer (some ⟨g, 0, none⟩), .slice a len cap] w (BkZE base g (n + 1) (.slice a len cap) Z w) := by
  have hk := Lib.hid (keepzChange_any h hn a len cap xs hx hl hs)
  clear h hx hs
  go_enter Tryz.func29, Tryz.ntmps29
  go_wp2_with fail
  refine hk.out.mono ?_
  rintro e w' ⟨rfl, h2⟩
  have h2' := Lib.hid h2
  clear hk h2
  go_wp2_with fail
  go_end0
  exact ⟨rfl, h2'.out⟩
theorem keepzSaid_any (h : BkZ base g n w Z) (hn : n < 900000) (a : Option Addr) (len cap : Nat) (xs : List Value) (hx : OwnC w base 87 5 (.slice a len cap) len xs) (hl : len ≤ 1000000) (hs : ∀ q, (Value.slice a len cap).ownBlock = some q → ¬ Z q) :
    Calls Tryz.prog 53 #[.pointer (some ⟨g, 0, none⟩), .slice a len cap] w (BkZE base g (n + 1) (.slice a len cap) Z w) := by
  obtain ⟨T, N0, h1, h2, h4, h5, h6⟩ := h
  have h8 : ∀ q, q = g ∨ (T 11).1.ownBlock = some q → Z q ∧ bkTyp w q := fun q hq => by
    rcases hq with rfl | hq
    · exact ⟨(h2 _).2 (.inl rfl), _, _, h1.row, .inl rfl⟩
    · obtain ⟨c, hc⟩ := own_typ (h1.hdr 11) hq
      exact ⟨(h2 _).2 (.inr ⟨11, .inl hq⟩), c, _, hc, .inr ⟨11, by unfold bkIn; decide, rfl⟩⟩
  refine (keepSaid_any h1 (fun _ => rfl) (by omega) (by have := h6 11; omega) a len cap ⟨xs, hx⟩ hl (fun e => hs g e ((h2 g).2 (.inl rfl))) (fun j q hq hF => hs q hq ((h2 q).2 (.inr ⟨j, hF⟩)))).mono ?_
  rintro e w' ⟨he, hb, hO, v', hv, hB⟩
  exact ⟨he, hb, hO.mono fun q hq => h8 q hq, bkz_kept h2 h4 h5 h6 11 (by unfold bkIn; decide) _ v' len hv hB⟩
theorem bookzA_any (h : BkZ base g n w Z) (hn : n < numTop) : Calls Tryz.prog 21 #[.pointer (some ⟨g, 0, none⟩)] w fun e w' => e = .returned (.bool true) ∧ Below base w w' := by
  have h10 : numTop ≤ 1000 := by decide
  obtain ⟨T, N0, h1, h2, h4, h5, h6⟩ := h
  exact apart_any h1 (fun j x hx => by have := h5 j x hx; omega) (fun j => by have := h6 j; omega) (h4 1 (by unfold bkIn; decide)) (h4 2 (by unfold bkIn; decide)) (h4 3 (by unfold bkIn; decide)) (h4 4 (by unfold bkIn; decide)) (h4 5 (by unfold bkIn; decide)) (h4 8 (by unfold bkIn; decide)) (h4 9 (by unfold bkIn; decide)) (h4 10 (by unfold bkIn; decide)) (h4 12 (by unfold bkIn; decide)) (h4 13 (by unfold bkIn; decide))
end
end Go.Proofs.YthageoibkeebhaaGreatDoor
