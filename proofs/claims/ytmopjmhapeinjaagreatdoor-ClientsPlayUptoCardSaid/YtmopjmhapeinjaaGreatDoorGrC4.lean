/- Several texts in one: BkA BkKByte BkKNum. No condition. -/
import Derived.Test.YtmopjmhapeinjaaGreatDoorGrB6
import Derived.Test.YtmopjmhapeinjaaGreatDoorGrB7
import Derived.Test.YtmopjmhapeinjaaGreatDoorGrB8
import Derived.Test.YtmopjmhapeinjaaGreatDoorGrB9
import Derived.Test.YtmopjmhapeinjaaGreatDoorGrC0
import Derived.Test.YtmopjmhapeinjaaGreatDoorGrC1
import Derived.Test.YtmopjmhapeinjaaGreatDoorGrC2
import Derived.Test.YtmopjmhapeinjaaGreatDoorGrC3
import Derived.Test.YtmopjmhapeinjaaGreatDoorGrB5
import Derived.Deep.RegionLaw
import Derived.Deep.CutRange
/- Apart: the lists of a book share no memory. No condition. -/
namespace Go.Proofs.YtmopjmhapeinjaaGreatDoor
open Go.RowKit
set_option maxRecDepth 100000
set_option maxHeartbeats 4000000
theorem bel_ext {base : Nat} {w W W' : World} (h : Below base w W) (hb : base ≤ w.heap.size) (hE : Ext W W') : Below base w W' := Below.trans h (hE.mono (Nat.le_trans hb (Below.size h)))
theorem apart_any {base N0 g n : Nat} {T : Nat → Kd} {w : World} (h : BkI bkT base N0 g n T (fun _ => 0) w) (hnum : ∀ j x, x ∈ (T j).2 → x.num < numTop) (hm : ∀ j, (T j).2.length ≤ 1000000) (e2 : (T 2).1 = .slice none 0 0) (e4 : (T 4).1 = .slice none 0 0) (e5 : (T 5).1 = .slice none 0 0) (e8 : (T 8).1 = .slice none 0 0) (e9 : (T 9).1 = .slice none 0 0) (e13 : (T 13).1 = .slice none 0 0) :
    Calls Tryz.prog 26 #[.pointer (some ⟨g, 0, none⟩)] w fun e w' => e = .returned (.bool true) ∧ Below base w w' := by
  have hb : Hid (base ≤ w.heap.size) := Lib.hid (Nat.le_trans h.gb (Nat.le_trans (Nat.le_of_lt h.gN) h.big))
  have k2 := Lib.hid e2
  have k4 := Lib.hid e4
  have k5 := Lib.hid e5
  have k8 := Lib.hid e8
  have k9 := Lib.hid e9
  have k13 := Lib.hid e13
  have hnum' := Lib.hid hnum
  have hm' := Lib.hid hm
  have hB0 := Lib.hid h
  have hW0 : Hid (Below base w w) := Lib.hid (Below.refl _ _)
  clear h hnum hm e2 e4 e5 e8 e9 e13
  go_enter Tryz.func26, Tryz.ntmps26
  go_wp2_with fail
  refine (fillByte_any hB0.out rfl (hnum'.out 1) (hm'.out 1)).mono ?_
  rintro e v1 ⟨rfl, hE, hB⟩
  have hB1 := Lib.hid hB
  have hW1 := Lib.hid (Below.trans hW0.out hE)
  clear hE hB hB0 hW0
  go_wp2_with fail
  refine (fillId_nil v1 g (by rw [cell_of_row _ _ _ _ _ _ hB1.out.row]; show some ((T 2).1) = _; rw [k2.out])).mono ?_
  rintro e v2 ⟨rfl, hE⟩
  have hB2 := Lib.hid (hB1.out.ext hE)
  have hW2 := Lib.hid (bel_ext hW1.out hb.out hE)
  clear hE hB1 hW1
  go_wp2_with fail
  refine (fillNum_any hB2.out rfl (hnum'.out 3) (hm'.out 3)).mono ?_
  rintro e v3 ⟨rfl, hE, hB⟩
  have hB3 := Lib.hid hB
  have hW3 := Lib.hid (Below.trans hW2.out hE)
  clear hE hB hB2 hW2
  go_wp2_with fail
  refine (fillInt_nil v3 g (by rw [cell_of_row _ _ _ _ _ _ hB3.out.row]; show some ((T 4).1) = _; rw [k4.out])).mono ?_
  rintro e v4 ⟨rfl, hE⟩
  have hB4 := Lib.hid (hB3.out.ext hE)
  have hW4 := Lib.hid (bel_ext hW3.out hb.out hE)
  clear hE hB3 hW3
  go_wp2_with fail
  refine (fillText_nil v4 g (by rw [cell_of_row _ _ _ _ _ _ hB4.out.row]; show some ((T 5).1) = _; rw [k5.out])).mono ?_
  rintro e v5 ⟨rfl, hE⟩
  have hB5 := Lib.hid (hB4.out.ext hE)
  have hW5 := Lib.hid (bel_ext hW4.out hb.out hE)
  clear hE hB4 hW4
  go_wp2_with fail
  refine (fillRow_any hB5.out rfl (hnum'.out 6) (hm'.out 6)).mono ?_
  rintro e v6 ⟨rfl, hE, hB⟩
  have hB6 := Lib.hid hB
  have hW6 := Lib.hid (Below.trans hW5.out hE)
  clear hE hB hB5 hW5
  go_wp2_with fail
  refine (fillChange_any hB6.out rfl (hnum'.out 7) (hm'.out 7)).mono ?_
  rintro e v7 ⟨rfl, hE, hB⟩
  have hB7 := Lib.hid hB
  have hW7 := Lib.hid (Below.trans hW6.out hE)
  clear hE hB hB6 hW6
  go_wp2_with fail
  refine (fillEntry_nil v7 g (by rw [cell_of_row _ _ _ _ _ _ hB7.out.row]; show some ((T 8).1) = _; rw [k8.out])).mono ?_
  rintro e v8 ⟨rfl, hE⟩
  have hB8 := Lib.hid (hB7.out.ext hE)
  have hW8 := Lib.hid (bel_ext hW7.out hb.out hE)
  clear hE hB7 hW7
  go_wp2_with fail
  refine (fillFile_nil v8 g (by rw [cell_of_row _ _ _ _ _ _ hB8.out.row]; show some ((T 9).1) = _; rw [k9.out])).mono ?_
  rintro e v9 ⟨rfl, hE⟩
  have hB9 := Lib.hid (hB8.out.ext hE)
  have hW9 := Lib.hid (bel_ext hW8.out hb.out hE)
  clear hE hB8 hW8
  go_wp2_with fail
  refine (fillItem_any hB9.out rfl (hnum'.out 10) (hm'.out 10)).mono ?_
  rintro e v10 ⟨rfl, hE, hB⟩
  have hB10 := Lib.hid hB
  have hW10 := Lib.hid (Below.trans hW9.out hE)
  clear hE hB hB9 hW9
  go_wp2_with fail
  refine (fillSaid_any hB10.out rfl (hnum'.out 11) (hm'.out 11)).mono ?_
  rintro e v11 ⟨rfl, hE, hB⟩
  have hB11 := Lib.hid hB
  have hW11 := Lib.hid (Below.trans hW10.out hE)
  clear hE hB hB10 hW10
  go_wp2_with fail
  refine (fillMsg_any hB11.out rfl (hnum'.out 12) (hm'.out 12)).mono ?_
  rintro e v12 ⟨rfl, hE, hB⟩
  have hB12 := Lib.hid hB
  have hW12 := Lib.hid (Below.trans hW11.out hE)
  clear hE hB hB11 hW11
  go_wp2_with fail
  refine (fillEvent_nil v12 g (by rw [cell_of_row _ _ _ _ _ _ hB12.out.row]; show some ((T 13).1) = _; rw [k13.out])).mono ?_
  rintro e v13 ⟨rfl, hE⟩
  have hB13 := Lib.hid (hB12.out.ext hE)
  have hW13 := Lib.hid (bel_ext hW12.out hb.out hE)
  clear hE hB12 hW12
  go_wp2_with fail
  refine (growByte_any hB13.out rfl (hnum'.out 1) (hm'.out 1)).mono ?_
  rintro e v14 ⟨rfl, hE, hs1, hn1, hl1, hB⟩
  have hB14 := Lib.hid hB
  have hW14 := Lib.hid (Below.trans hW13.out hE)
  have hn1' := Lib.hid hn1
  have hl1' : Hid (hs1.length ≤ 1000000) := Lib.hid (by have := hm'.out 1; rw [hl1]; exact this)
  clear hE hB hB13 hW13 hn1 hl1
  go_wp2_with fail
  refine (growId_nil v14 g (by rw [cell_of_row _ _ _ _ _ _ hB14.out.row]; show some ((T 2).1) = _; rw [k2.out])).mono ?_
  rintro e v15 ⟨rfl, hE⟩
  have hB15 := Lib.hid (hB14.out.ext hE)
  have hW15 := Lib.hid (bel_ext hW14.out hb.out hE)
  clear hE hB14 hW14
  go_wp2_with fail
  refine (growNum_any hB15.out rfl (hnum'.out 3) (hm'.out 3)).mono ?_
  rintro e v16 ⟨rfl, hE, hs3, hn3, hl3, hB⟩
  have hB16 := Lib.hid hB
  have hW16 := Lib.hid (Below.trans hW15.out hE)
  have hn3' := Lib.hid hn3
  have hl3' : Hid (hs3.length ≤ 1000000) := Lib.hid (by have := hm'.out 3; rw [hl3]; exact this)
  clear hE hB hB15 hW15 hn3 hl3
  go_wp2_with fail
  refine (growInt_nil v16 g (by rw [cell_of_row _ _ _ _ _ _ hB16.out.row]; show some ((T 4).1) = _; rw [k4.out])).mono ?_
  rintro e v17 ⟨rfl, hE⟩
  have hB17 := Lib.hid (hB16.out.ext hE)
  have hW17 := Lib.hid (bel_ext hW16.out hb.out hE)
  clear hE hB16 hW16
  go_wp2_with fail
  refine (growText_nil v17 g (by rw [cell_of_row _ _ _ _ _ _ hB17.out.row]; show some ((T 5).1) = _; rw [k5.out])).mono ?_
  rintro e v18 ⟨rfl, hE⟩
  have hB18 := Lib.hid (hB17.out.ext hE)
  have hW18 := Lib.hid (bel_ext hW17.out hb.out hE)
  clear hE hB17 hW17
  go_wp2_with fail
  refine (growRow_any hB18.out rfl (hnum'.out 6) (hm'.out 6)).mono ?_
  rintro e v19 ⟨rfl, hE, hs6, hn6, hl6, hB⟩
  have hB19 := Lib.hid hB
  have hW19 := Lib.hid (Below.trans hW18.out hE)
  have hn6' := Lib.hid hn6
  have hl6' : Hid (hs6.length ≤ 1000000) := Lib.hid (by have := hm'.out 6; rw [hl6]; exact this)
  clear hE hB hB18 hW18 hn6 hl6
  go_wp2_with fail
  refine (growChange_any hB19.out rfl (hnum'.out 7) (hm'.out 7)).mono ?_
  rintro e v20 ⟨rfl, hE, hs7, hn7, hl7, hB⟩
  have hB20 := Lib.hid hB
  have hW20 := Lib.hid (Below.trans hW19.out hE)
  have hn7' := Lib.hid hn7
  have hl7' : Hid (hs7.length ≤ 1000000) := Lib.hid (by have := hm'.out 7; rw [hl7]; exact this)
  clear hE hB hB19 hW19 hn7 hl7
  go_wp2_with fail
  refine (growEntry_nil v20 g (by rw [cell_of_row _ _ _ _ _ _ hB20.out.row]; show some ((T 8).1) = _; rw [k8.out])).mono ?_
  rintro e v21 ⟨rfl, hE⟩
  have hB21 := Lib.hid (hB20.out.ext hE)
  have hW21 := Lib.hid (bel_ext hW20.out hb.out hE)
  clear hE hB20 hW20
  go_wp2_with fail
  refine (growFile_nil v21 g (by rw [cell_of_row _ _ _ _ _ _ hB21.out.row]; show some ((T 9).1) = _; rw [k9.out])).mono ?_
  rintro e v22 ⟨rfl, hE⟩
  have hB22 := Lib.hid (hB21.out.ext hE)
  have hW22 := Lib.hid (bel_ext hW21.out hb.out hE)
  clear hE hB21 hW21
  go_wp2_with fail
  refine (growItem_any hB22.out rfl (hnum'.out 10) (hm'.out 10)).mono ?_
  rintro e v23 ⟨rfl, hE, hs10, hn10, hl10, hB⟩
  have hB23 := Lib.hid hB
  have hW23 := Lib.hid (Below.trans hW22.out hE)
  have hn10' := Lib.hid hn10
  have hl10' : Hid (hs10.length ≤ 1000000) := Lib.hid (by have := hm'.out 10; rw [hl10]; exact this)
  clear hE hB hB22 hW22 hn10 hl10
  go_wp2_with fail
  refine (growSaid_any hB23.out rfl (hnum'.out 11) (hm'.out 11)).mono ?_
  rintro e v24 ⟨rfl, hE, hs11, hn11, hl11, hB⟩
  have hB24 := Lib.hid hB
  have hW24 := Lib.hid (Below.trans hW23.out hE)
  have hn11' := Lib.hid hn11
  have hl11' : Hid (hs11.length ≤ 1000000) := Lib.hid (by have := hm'.out 11; rw [hl11]; exact this)
  clear hE hB hB23 hW23 hn11 hl11
  go_wp2_with fail
  refine (growMsg_any hB24.out rfl (hnum'.out 12) (hm'.out 12)).mono ?_
  rintro e v25 ⟨rfl, hE, hs12, hn12, hl12, hB⟩
  have hB25 := Lib.hid hB
  have hW25 := Lib.hid (Below.trans hW24.out hE)
  have hn12' := Lib.hid hn12
  have hl12' : Hid (hs12.length ≤ 1000000) := Lib.hid (by have := hm'.out 12; rw [hl12]; exact this)
  clear hE hB hB24 hW24 hn12 hl12
  go_wp2_with fail
  refine (growEvent_nil v25 g (by rw [cell_of_row _ _ _ _ _ _ hB25.out.row]; show some ((T 13).1) = _; rw [k13.out])).mono ?_
  rintro e v26 ⟨rfl, hE⟩
  have hB26 := Lib.hid (hB25.out.ext hE)
  have hW26 := Lib.hid (bel_ext hW25.out hb.out hE)
  clear hE hB25 hW25
  go_wp2_with fail
  refine (lookByte_any hB26.out rfl hn1'.out hl1'.out).mono ?_
  rintro e v27 ⟨rfl, hE⟩
  have hB27 := Lib.hid (hB26.out.ext hE)
  have hW27 := Lib.hid (bel_ext hW26.out hb.out hE)
  clear hE hB26 hW26
  go_wp2_with fail
  refine (lookId_nil v27 g (by rw [cell_of_row _ _ _ _ _ _ hB27.out.row]; show some ((T 2).1) = _; rw [k2.out])).mono ?_
  rintro e v28 ⟨rfl, hE⟩
  have hB28 := Lib.hid (hB27.out.ext hE)
  have hW28 := Lib.hid (bel_ext hW27.out hb.out hE)
  clear hE hB27 hW27
  go_wp2_with fail
  refine (lookNum_any hB28.out rfl hn3'.out hl3'.out).mono ?_
  rintro e v29 ⟨rfl, hE⟩
  have hB29 := Lib.hid (hB28.out.ext hE)
  have hW29 := Lib.hid (bel_ext hW28.out hb.out hE)
  clear hE hB28 hW28
  go_wp2_with fail
  refine (lookInt_nil v29 g (by rw [cell_of_row _ _ _ _ _ _ hB29.out.row]; show some ((T 4).1) = _; rw [k4.out])).mono ?_
  rintro e v30 ⟨rfl, hE⟩
  have hB30 := Lib.hid (hB29.out.ext hE)
  have hW30 := Lib.hid (bel_ext hW29.out hb.out hE)
  clear hE hB29 hW29
  go_wp2_with fail
  refine (lookText_nil v30 g (by rw [cell_of_row _ _ _ _ _ _ hB30.out.row]; show some ((T 5).1) = _; rw [k5.out])).mono ?_
  rintro e v31 ⟨rfl, hE⟩
  have hB31 := Lib.hid (hB30.out.ext hE)
  have hW31 := Lib.hid (bel_ext hW30.out hb.out hE)
  clear hE hB30 hW30
  go_wp2_with fail
  refine (lookRow_any hB31.out rfl hn6'.out hl6'.out).mono ?_
  rintro e v32 ⟨rfl, hE⟩
  have hB32 := Lib.hid (hB31.out.ext hE)
  have hW32 := Lib.hid (bel_ext hW31.out hb.out hE)
  clear hE hB31 hW31
  go_wp2_with fail
  refine (lookChange_any hB32.out rfl hn7'.out hl7'.out).mono ?_
  rintro e v33 ⟨rfl, hE⟩
  have hB33 := Lib.hid (hB32.out.ext hE)
  have hW33 := Lib.hid (bel_ext hW32.out hb.out hE)
  clear hE hB32 hW32
  go_wp2_with fail
  refine (lookEntry_nil v33 g (by rw [cell_of_row _ _ _ _ _ _ hB33.out.row]; show some ((T 8).1) = _; rw [k8.out])).mono ?_
  rintro e v34 ⟨rfl, hE⟩
  have hB34 := Lib.hid (hB33.out.ext hE)
  have hW34 := Lib.hid (bel_ext hW33.out hb.out hE)
  clear hE hB33 hW33
  go_wp2_with fail
  refine (lookFile_nil v34 g (by rw [cell_of_row _ _ _ _ _ _ hB34.out.row]; show some ((T 9).1) = _; rw [k9.out])).mono ?_
  rintro e v35 ⟨rfl, hE⟩
  have hB35 := Lib.hid (hB34.out.ext hE)
  have hW35 := Lib.hid (bel_ext hW34.out hb.out hE)
  clear hE hB34 hW34
  go_wp2_with fail
  refine (lookItem_any hB35.out rfl hn10'.out hl10'.out).mono ?_
  rintro e v36 ⟨rfl, hE⟩
  have hB36 := Lib.hid (hB35.out.ext hE)
  have hW36 := Lib.hid (bel_ext hW35.out hb.out hE)
  clear hE hB35 hW35
  go_wp2_with fail
  refine (lookSaid_any hB36.out rfl hn11'.out hl11'.out).mono ?_
  rintro e v37 ⟨rfl, hE⟩
  have hB37 := Lib.hid (hB36.out.ext hE)
  have hW37 := Lib.hid (bel_ext hW36.out hb.out hE)
  clear hE hB36 hW36
  go_wp2_with fail
  refine (lookMsg_any hB37.out rfl hn12'.out hl12'.out).mono ?_
  rintro e v38 ⟨rfl, hE⟩
  have hB38 := Lib.hid (hB37.out.ext hE)
  have hW38 := Lib.hid (bel_ext hW37.out hb.out hE)
  clear hE hB37 hW37
  go_wp2_with fail
  refine (lookEvent_nil v38 g (by rw [cell_of_row _ _ _ _ _ _ hB38.out.row]; show some ((T 13).1) = _; rw [k13.out])).mono ?_
  rintro e v39 ⟨rfl, hE⟩
  have hB39 := Lib.hid (hB38.out.ext hE)
  have hW39 := Lib.hid (bel_ext hW38.out hb.out hE)
  clear hE hB38 hW38
  go_wp2_with fail
  go_ret
  exact ⟨rfl, hW39.out⟩
end Go.Proofs.YtmopjmhapeinjaaGreatDoor

/- keepByte: a list more is kept. No condition. -/
namespace Go.Proofs.YtmopjmhapeinjaaGreatDoor
open Go.RowKit
set_option maxRecDepth 100000
set_option maxHeartbeats 4000000
theorem el_heldByte : ElemIs Tryz.prog 143 3 56 := by
  refine ElemIs.mk (z := .agg #[.slice none 0 0, .slice none 0 0, .int .i64 0]) (by kernel_rfl) (by rfl) (by decide)
theorem keepByte_any {base N0 g n : Nat} {T : Nat → Kd} {st : Nat → Nat} {w : World} (h : BkI bkT base N0 g n T st w) (h0 : ∀ j, st j = 0) (hn : n < 1000000) (hm : (T 1).2.length ≤ 1000000) (a : Option Addr) (len cap : Nat) (hx : ∃ xs, OwnC w base (bkT.et 1) (bkT.z 1) (.slice a len cap) len xs) (hxl : len ≤ 1000000) (hxg : (Value.slice a len cap).ownBlock ≠ some g) (hxf : ∀ j q, (Value.slice a len cap).ownBlock = some q → ¬ FP (T j) q) :
    Calls Tryz.prog 119 #[.pointer (some ⟨g, 0, none⟩), .slice a len cap] w fun e w' => e = .returned (.tuple #[]) ∧ Below base w w' ∧ OffB (fun q => q = g ∨ (T 1).1.ownBlock = some q) w w' ∧ ∃ v', (∀ q, v'.ownBlock = some q → (T 1).1.ownBlock = some q ∨ w.heap.size ≤ q) ∧ BkI bkT base w'.heap.size g (n + 1) (upd T 1 (v', (T 1).2 ++ [⟨.slice a len cap, len, n + 1, .slice none 0 0⟩])) st w' := by
  obtain ⟨hv, hhv⟩ : ∃ v, v = (T 1).1 := ⟨_, rfl⟩
  obtain ⟨hs, hhs⟩ : ∃ v, v = (T 1).2 := ⟨_, rfl⟩
  obtain ⟨W1, hW1⟩ : ∃ W, W = w.setCell ⟨g, 0, none⟩ (.int .i64 ((n + 1 : Nat) : Int)) := ⟨_, rfl⟩
  have hgw : g < w.heap.size := (Array.getElem?_eq_some_iff.1 h.row).1
  have c0 : w.cell? ⟨g, 0, none⟩ = some (.int .i64 (n : Int)) := by rw [cell_of_row _ _ _ _ _ _ h.row]; rfl
  have z0 : w.frozen? ⟨g, 0, none⟩ = false := by unfold World.frozen?; rw [h.row]; simp
  have hr1 : W1.heap[g]? = some (.cells (bkRow (n + 1) T) 46 (0, 0)) := by
    rw [hW1, setCell_eq_setRow _ _ _ _ _ _ _ h.row, setRow_heap _ _ _ _ _ _ h.row]
    rfl
  have hO1 : OffB (fun q => q = g ∨ hv.ownBlock = some q) w W1 := by rw [hW1]; exact (OffB.refl w).setCell (p := ⟨g, 0, none⟩) (.inl rfl) _
  have hown : OwnC w base 143 3 hv hs.length (hs.flatMap Hd.cs) := by have := h.hdr 1; rw [← hhv, ← hhs] at this; exact this
  have hsepg : ∀ q, hv.ownBlock = some q → q ≠ g := fun q hq e => h.sepg 1 (.inl (by rw [← hhv, ← e]; exact hq))
  have hown1 : OwnC W1.drew base 143 3 hv hs.length (hs.flatMap Hd.cs) := by
    refine (hown.offB (B := fun q => q = g) (w' := W1) ?_ hsepg).ext (Ext.refl _).drew
    rw [hW1]; exact (OffB.refl (B := fun q => q = g) w).setCell (p := ⟨g, 0, none⟩) rfl _
  have hsz1 : W1.drew.heap.size = w.heap.size := by show W1.heap.size = _; rw [hW1]; simp
  have hbase : base ≤ W1.drew.heap.size := by rw [hsz1]; have := h.gb; omega
  have hcell : ∀ (w' : World), w'.heap[g]? = some (.cells (bkRow (n + 1) T) 46 (0, 0)) → w'.cell? ⟨g, 0, none⟩ = some (.int .i64 ((n + 1 : Nat) : Int)) ∧ w'.cell? ⟨g, 1, none⟩ = some hv ∧ w'.frozen? ⟨g, 1, none⟩ = false := fun w' hw' => by
    refine ⟨by rw [cell_of_row _ _ _ _ _ _ hw']; rfl, by rw [cell_of_row _ _ _ _ _ _ hw', hhv]; rfl, ?_⟩
    unfold World.frozen?; rw [hw']; simp
  obtain ⟨ca0, ca1, _⟩ := hcell W1.drew hr1
  have hlit := fun o => hcell (W1.drew.alloc o) (((Ext.refl _).alloc _).row (show W1.drew.heap[g]? = _ from hr1))
  obtain ⟨cb0, cb1, _⟩ := hlit (.cells #[.slice a len cap, .slice none 0 0, .int .i64 ((n + 1 : Nat) : Int)] 143)
  have cc0 : (W1.alloc (.cells #[.slice a len cap, .slice none 0 0, .int .i64 ((n + 1 : Nat) : Int)] 143)).drew.cell? ⟨g, 0, none⟩ = _ := cb0
  have cc1 : (W1.alloc (.cells #[.slice a len cap, .slice none 0 0, .int .i64 ((n + 1 : Nat) : Int)] 143)).drew.cell? ⟨g, 1, none⟩ = _ := cb1
  have hfin : Hid (∀ v' w6, AppK W1.drew w6 base 143 3 hv v' hs.length (hs.flatMap Hd.cs) [.slice a len cap, .slice none 0 0, .int .i64 ((n + 1 : Nat) : Int)] → w6.cell? ⟨g, 1, none⟩ = some hv ∧ w6.frozen? ⟨g, 1, none⟩ = false ∧ Hid (Below base w (w6.setCell ⟨g, 1, none⟩ v') ∧ OffB (fun q => q = g ∨ (T 1).1.ownBlock = some q) w (w6.setCell ⟨g, 1, none⟩ v') ∧ (∀ q, v'.ownBlock = some q → (T 1).1.ownBlock = some q ∨ w.heap.size ≤ q) ∧ BkI bkT base (w6.setCell ⟨g, 1, none⟩ v').heap.size g (n + 1) (upd T 1 (v', (T 1).2 ++ [⟨.slice a len cap, len, n + 1, .slice none 0 0⟩])) st (w6.setCell ⟨g, 1, none⟩ v'))) := Lib.hid (fun v' w6 hA => by
    have hO6 : OffB (fun q => q = g ∨ hv.ownBlock = some q) w w6 := hO1.trans (OffB.trans (.of_ext (Ext.refl _).drew) (hA.off.mono fun q hq => .inr hq))
    have hg6 : w6.heap[g]? = some (.cells (bkRow (n + 1) T) 46 (0, 0)) := (hA.off.block g (by rw [hsz1]; exact hgw) (fun e => hsepg g e rfl)).trans hr1
    obtain ⟨_, d1, d2⟩ := hcell w6 hg6
    have hO7 : OffB (fun q => q = g ∨ hv.ownBlock = some q) w (w6.setCell ⟨g, 1, none⟩ v') := hO6.setCell (p := ⟨g, 1, none⟩) (.inl rfl) _
    have hvq : ∀ q, v'.ownBlock = some q → q ≠ g := fun q hq e => by
      rcases hA.at_ q hq with h1 | h1
      · exact hsepg q h1 e
      · rw [hsz1] at h1; omega
    have hva : ∀ q, v'.ownBlock = some q → (T 1).1.ownBlock = some q ∨ w.heap.size ≤ q := fun q hq => by
      rw [← hhv]
      rcases hA.at_ q hq with h1 | h1
      · exact .inl h1
      · rw [hsz1] at h1; exact .inr h1
    refine ⟨d1, d2, Lib.hid ⟨hO7.below (fun q hq => ?_) (by rw [← hsz1]; exact hbase), by rw [← hhv]; exact hO7, hva, h.kept 1 h0 v' ⟨.slice a len cap, len, n + 1, .slice none 0 0⟩ ?_ (by rw [← hhv]; exact hO7) ?_ hva ⟨hx, rfl⟩ hxl hxg hxf⟩⟩
    · rcases hq with rfl | hq
      · exact h.gb
      · exact (hown.lt q hq).1
    · rw [setCell_eq_setRow _ _ _ _ _ _ _ hg6, setRow_heap _ _ _ _ _ _ hg6]
      rfl
    · have h1 : OwnC w6 base 143 3 v' (hs.length + 1) (hs.flatMap Hd.cs ++ [.slice a len cap, .slice none 0 0, .int .i64 ((n + 1 : Nat) : Int)]) := hA.own
      rw [← hhs, List.flatMap_append]
      refine h1.offB (B := fun q => q = g) ((OffB.refl (B := fun q => q = g) w6).setCell (p := ⟨g, 1, none⟩) rfl _) hvq)
  have hml : hs.length ≤ 1000000 := by rw [hhs]; exact hm
  obtain ⟨m, hmm⟩ : ∃ m, m = hs.length := ⟨_, rfl⟩
  obtain ⟨xs, hxs⟩ : ∃ xs, xs = hs.flatMap Hd.cs := ⟨_, rfl⟩
  rw [← hmm] at hml hown1 hfin
  rw [← hxs] at hown1 hfin
  have hown1' := Lib.hid hown1
  have hW1' := Lib.hid hW1
  have hn1 : IntKind.i64.wrap ((n : Int) + 1) = (n : Int) + 1 := by rw [IntKind.wrap_i64]; omega
  have e1 : ((n + 1 : Nat) : Int) = (n : Int) + 1 := by omega
  rw [e1] at ca0 cb0 cb1 cc0 cc1
  clear h h0 hm hx hxl hxg hxf hhv hhs hgw hr1 hO1 hown hsepg hown1 hcell hlit hW1 hmm hxs hsz1
  go_enter Tryz.func119, Tryz.ntmps119
  go_upto_region 1 with fail
  rw [show w.setCell ⟨g, 0, none⟩ (.int .i64 ((n : Int) + 1)) = W1 by rw [hW1'.out, e1]]
  clear c0 z0 hn1
  go_region_law (first | ((refine step_append_k rfl (.tmp 15) (.tmp 22) 32 143 rfl Tryz.underlying32 el_heldByte W1.drew base m xs hv (by rfl) hown1'.out #[.slice a len cap, .slice none 0 0, .int .i64 ((n : Int) + 1)] (by rfl) (by rfl) (by simp [Value.oneCell']) (by omega) (by omega) hbase ?_); (intro v' w6 hA; obtain ⟨oa4, oc4, rfl, _⟩ := hA.own.form; obtain ⟨hc6, hz6, hfin6⟩ := hfin.out _ w6 (by rw [e1]; exact hA); clear hA)) | fail)
  all_goals
    go_end0
    exact ⟨rfl, hfin6.out.1, hfin6.out.2.1, _, hfin6.out.2.2⟩
end Go.Proofs.YtmopjmhapeinjaaGreatDoor

/- keepNum: a list more is kept. No condition. -/
namespace Go.Proofs.YtmopjmhapeinjaaGreatDoor
open Go.RowKit
set_option maxRecDepth 100000
set_option maxHeartbeats 4000000
theorem el_heldNum : ElemIs Tryz.prog 150 3 56 := by
  refine ElemIs.mk (z := .agg #[.slice none 0 0, .slice none 0 0, .int .i64 0]) (by kernel_rfl) (by rfl) (by decide)
theorem keepNum_any {base N0 g n : Nat} {T : Nat → Kd} {st : Nat → Nat} {w : World} (h : BkI bkT base N0 g n T st w) (h0 : ∀ j, st j = 0) (hn : n < 1000000) (hm : (T 3).2.length ≤ 1000000) (a : Option Addr) (len cap : Nat) (hx : ∃ xs, OwnC w base (bkT.et 3) (bkT.z 3) (.slice a len cap) len xs) (hxl : len ≤ 1000000) (hxg : (Value.slice a len cap).ownBlock ≠ some g) (hxf : ∀ j q, (Value.slice a len cap).ownBlock = some q → ¬ FP (T j) q) :
    Calls Tryz.prog 120 #[.pointer (some ⟨g, 0, none⟩), .slice a len cap] w fun e w' => e = .returned (.tuple #[]) ∧ Below base w w' ∧ OffB (fun q => q = g ∨ (T 3).1.ownBlock = some q) w w' ∧ ∃ v', (∀ q, v'.ownBlock = some q → (T 3).1.ownBlock = some q ∨ w.heap.size ≤ q) ∧ BkI bkT base w'.heap.size g (n + 1) (upd T 3 (v', (T 3).2 ++ [⟨.slice a len cap, len, n + 1, .slice none 0 0⟩])) st w' := by
  obtain ⟨hv, hhv⟩ : ∃ v, v = (T 3).1 := ⟨_, rfl⟩
  obtain ⟨hs, hhs⟩ : ∃ v, v = (T 3).2 := ⟨_, rfl⟩
  obtain ⟨W1, hW1⟩ : ∃ W, W = w.setCell ⟨g, 0, none⟩ (.int .i64 ((n + 1 : Nat) : Int)) := ⟨_, rfl⟩
  have hgw : g < w.heap.size := (Array.getElem?_eq_some_iff.1 h.row).1
  have c0 : w.cell? ⟨g, 0, none⟩ = some (.int .i64 (n : Int)) := by rw [cell_of_row _ _ _ _ _ _ h.row]; rfl
  have z0 : w.frozen? ⟨g, 0, none⟩ = false := by unfold World.frozen?; rw [h.row]; simp
  have hr1 : W1.heap[g]? = some (.cells (bkRow (n + 1) T) 46 (0, 0)) := by
    rw [hW1, setCell_eq_setRow _ _ _ _ _ _ _ h.row, setRow_heap _ _ _ _ _ _ h.row]
    rfl
  have hO1 : OffB (fun q => q = g ∨ hv.ownBlock = some q) w W1 := by rw [hW1]; exact (OffB.refl w).setCell (p := ⟨g, 0, none⟩) (.inl rfl) _
  have hown : OwnC w base 150 3 hv hs.length (hs.flatMap Hd.cs) := by have := h.hdr 3; rw [← hhv, ← hhs] at this; exact this
  have hsepg : ∀ q, hv.ownBlock = some q → q ≠ g := fun q hq e => h.sepg 3 (.inl (by rw [← hhv, ← e]; exact hq))
  have hown1 : OwnC W1.drew base 150 3 hv hs.length (hs.flatMap Hd.cs) := by
    refine (hown.offB (B := fun q => q = g) (w' := W1) ?_ hsepg).ext (Ext.refl _).drew
    rw [hW1]; exact (OffB.refl (B := fun q => q = g) w).setCell (p := ⟨g, 0, none⟩) rfl _
  have hsz1 : W1.drew.heap.size = w.heap.size := by show W1.heap.size = _; rw [hW1]; simp
  have hbase : base ≤ W1.drew.heap.size := by rw [hsz1]; have := h.gb; omega
  have hcell : ∀ (w' : World), w'.heap[g]? = some (.cells (bkRow (n + 1) T) 46 (0, 0)) → w'.cell? ⟨g, 0, none⟩ = some (.int .i64 ((n + 1 : Nat) : Int)) ∧ w'.cell? ⟨g, 3, none⟩ = some hv ∧ w'.frozen? ⟨g, 3, none⟩ = false := fun w' hw' => by
    refine ⟨by rw [cell_of_row _ _ _ _ _ _ hw']; rfl, by rw [cell_of_row _ _ _ _ _ _ hw', hhv]; rfl, ?_⟩
    unfold World.frozen?; rw [hw']; simp
  obtain ⟨ca0, ca1, _⟩ := hcell W1.drew hr1
  have hlit := fun o => hcell (W1.drew.alloc o) (((Ext.refl _).alloc _).row (show W1.drew.heap[g]? = _ from hr1))
  obtain ⟨cb0, cb1, _⟩ := hlit (.cells #[.slice a len cap, .slice none 0 0, .int .i64 ((n + 1 : Nat) : Int)] 150)
  have cc0 : (W1.alloc (.cells #[.slice a len cap, .slice none 0 0, .int .i64 ((n + 1 : Nat) : Int)] 150)).drew.cell? ⟨g, 0, none⟩ = _ := cb0
  have cc1 : (W1.alloc (.cells #[.slice a len cap, .slice none 0 0, .int .i64 ((n + 1 : Nat) : Int)] 150)).drew.cell? ⟨g, 3, none⟩ = _ := cb1
  have hfin : Hid (∀ v' w6, AppK W1.drew w6 base 150 3 hv v' hs.length (hs.flatMap Hd.cs) [.slice a len cap, .slice none 0 0, .int .i64 ((n + 1 : Nat) : Int)] → w6.cell? ⟨g, 3, none⟩ = some hv ∧ w6.frozen? ⟨g, 3, none⟩ = false ∧ Hid (Below base w (w6.setCell ⟨g, 3, none⟩ v') ∧ OffB (fun q => q = g ∨ (T 3).1.ownBlock = some q) w (w6.setCell ⟨g, 3, none⟩ v') ∧ (∀ q, v'.ownBlock = some q → (T 3).1.ownBlock = some q ∨ w.heap.size ≤ q) ∧ BkI bkT base (w6.setCell ⟨g, 3, none⟩ v').heap.size g (n + 1) (upd T 3 (v', (T 3).2 ++ [⟨.slice a len cap, len, n + 1, .slice none 0 0⟩])) st (w6.setCell ⟨g, 3, none⟩ v'))) := Lib.hid (fun v' w6 hA => by
    have hO6 : OffB (fun q => q = g ∨ hv.ownBlock = some q) w w6 := hO1.trans (OffB.trans (.of_ext (Ext.refl _).drew) (hA.off.mono fun q hq => .inr hq))
    have hg6 : w6.heap[g]? = some (.cells (bkRow (n + 1) T) 46 (0, 0)) := (hA.off.block g (by rw [hsz1]; exact hgw) (fun e => hsepg g e rfl)).trans hr1
    obtain ⟨_, d1, d2⟩ := hcell w6 hg6
    have hO7 : OffB (fun q => q = g ∨ hv.ownBlock = some q) w (w6.setCell ⟨g, 3, none⟩ v') := hO6.setCell (p := ⟨g, 3, none⟩) (.inl rfl) _
    have hvq : ∀ q, v'.ownBlock = some q → q ≠ g := fun q hq e => by
      rcases hA.at_ q hq with h1 | h1
      · exact hsepg q h1 e
      · rw [hsz1] at h1; omega
    have hva : ∀ q, v'.ownBlock = some q → (T 3).1.ownBlock = some q ∨ w.heap.size ≤ q := fun q hq => by
      rw [← hhv]
      rcases hA.at_ q hq with h1 | h1
      · exact .inl h1
      · rw [hsz1] at h1; exact .inr h1
    refine ⟨d1, d2, Lib.hid ⟨hO7.below (fun q hq => ?_) (by rw [← hsz1]; exact hbase), by rw [← hhv]; exact hO7, hva, h.kept 3 h0 v' ⟨.slice a len cap, len, n + 1, .slice none 0 0⟩ ?_ (by rw [← hhv]; exact hO7) ?_ hva ⟨hx, rfl⟩ hxl hxg hxf⟩⟩
    · rcases hq with rfl | hq
      · exact h.gb
      · exact (hown.lt q hq).1
    · rw [setCell_eq_setRow _ _ _ _ _ _ _ hg6, setRow_heap _ _ _ _ _ _ hg6]
      rfl
    · have h1 : OwnC w6 base 150 3 v' (hs.length + 1) (hs.flatMap Hd.cs ++ [.slice a len cap, .slice none 0 0, .int .i64 ((n + 1 : Nat) : Int)]) := hA.own
      rw [← hhs, List.flatMap_append]
      refine h1.offB (B := fun q => q = g) ((OffB.refl (B := fun q => q = g) w6).setCell (p := ⟨g, 3, none⟩) rfl _) hvq)
  have hml : hs.length ≤ 1000000 := by rw [hhs]; exact hm
  obtain ⟨m, hmm⟩ : ∃ m, m = hs.length := ⟨_, rfl⟩
  obtain ⟨xs, hxs⟩ : ∃ xs, xs = hs.flatMap Hd.cs := ⟨_, rfl⟩
  rw [← hmm] at hml hown1 hfin
  rw [← hxs] at hown1 hfin
  have hown1' := Lib.hid hown1
  have hW1' := Lib.hid hW1
  have hn1 : IntKind.i64.wrap ((n : Int) + 1) = (n : Int) + 1 := by rw [IntKind.wrap_i64]; omega
  have e1 : ((n + 1 : Nat) : Int) = (n : Int) + 1 := by omega
  rw [e1] at ca0 cb0 cb1 cc0 cc1
  clear h h0 hm hx hxl hxg hxf hhv hhs hgw hr1 hO1 hown hsepg hown1 hcell hlit hW1 hmm hxs hsz1
  go_enter Tryz.func120, Tryz.ntmps120
  go_upto_region 1 with fail
  rw [show w.setCell ⟨g, 0, none⟩ (.int .i64 ((n : Int) + 1)) = W1 by rw [hW1'.out, e1]]
  clear c0 z0 hn1
  go_region_law (first | ((refine step_append_k rfl (.tmp 15) (.tmp 22) 34 150 rfl Tryz.underlying34 el_heldNum W1.drew base m xs hv (by rfl) hown1'.out #[.slice a len cap, .slice none 0 0, .int .i64 ((n : Int) + 1)] (by rfl) (by rfl) (by simp [Value.oneCell']) (by omega) (by omega) hbase ?_); (intro v' w6 hA; obtain ⟨oa4, oc4, rfl, _⟩ := hA.own.form; obtain ⟨hc6, hz6, hfin6⟩ := hfin.out _ w6 (by rw [e1]; exact hA); clear hA)) | fail)
  all_goals
    go_end0
    exact ⟨rfl, hfin6.out.1, hfin6.out.2.1, _, hfin6.out.2.2⟩
end Go.Proofs.YtmopjmhapeinjaaGreatDoor
