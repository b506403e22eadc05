/- Apart: the lists of a book share no memory. No condition. -/
import Derived.Test.YtfcpnkalcijflaaGreatDoorGrD
import Derived.Test.YtfcpnkalcijflaaGreatDoorGrE
import Derived.Test.YtfcpnkalcijflaaGreatDoorGrF
namespace Go.Proofs.YtfcpnkalcijflaaGreatDoor
open Go.RowKit
set_option maxRecDepth 100000
set_option maxHeartbeats 4000000
theorem bel_ext {base : Nat} {w W W' : World} (h : Below base w W) (hb : base ≤ w.heap.size) (hE : Ext W W') : Below base w W' := Below.trans h (hE.mono (Nat.le_trans hb (Below.size h)))
theorem apart_any {base N0 g n : Nat} {T : Nat → Kd} {w : World} (h : BkI bkT base N0 g n T (fun _ => 0) w) (hnum : ∀ j x, x ∈ (T j).2 → x.num < numTop) (hm : ∀ j, (T j).2.length ≤ 1000000) (e1 : (T 1).1 = .slice none 0 0) (e2 : (T 2).1 = .slice none 0 0) (e3 : (T 3).1 = .slice none 0 0) (e4 : (T 4).1 = .slice none 0 0) (e5 : (T 5).1 = .slice none 0 0) (e6 : (T 6).1 = .slice none 0 0) (e7 : (T 7).1 = .slice none 0 0) (e9 : (T 9).1 = .slice none 0 0) (e10 : (T 10).1 = .slice none 0 0) (e11 : (T 11).1 = .slice none 0 0) (e12 : (T 12).1 = .slice none 0 0) (e13 : (T 13).1 = .slice none 0 0) :
    Calls Tryz.prog 18 #[.pointer (some ⟨g, 0, none⟩)] w fun e w' => e = .returned (.bool true) ∧ Below base w w' := by
  have hb : Hid (base ≤ w.heap.size) := Lib.hid (Nat.le_trans h.gb (Nat.le_trans (Nat.le_of_lt h.gN) h.big))
  have k1 := Lib.hid e1
  have k2 := Lib.hid e2
  have k3 := Lib.hid e3
  have k4 := Lib.hid e4
  have k5 := Lib.hid e5
  have k6 := Lib.hid e6
  have k7 := Lib.hid e7
  have k9 := Lib.hid e9
  have k10 := Lib.hid e10
  have k11 := Lib.hid e11
  have k12 := Lib.hid e12
  have k13 := Lib.hid e13
  have hnum' := Lib.hid hnum
  have hm' := Lib.hid hm
  have hB0 := Lib.hid h
  have hW0 : Hid (Below base w w) := Lib.hid (Below.refl _ _)
  clear h hnum hm e1 e2 e3 e4 e5 e6 e7 e9 e10 e11 e12 e13
  go_enter Tryz.func18, Tryz.ntmps18
  go_wp2_with fail
  refine (fillByte_nil w g (by rw [cell_of_row _ _ _ _ _ _ hB0.out.row]; show some ((T 1).1) = _; rw [k1.out])).mono ?_
  rintro e v1 ⟨rfl, hE⟩
  have hB1 := Lib.hid (hB0.out.ext hE)
  have hW1 := Lib.hid (bel_ext hW0.out hb.out hE)
  clear hE hB0 hW0
  go_wp2_with fail
  refine (fillId_nil v1 g (by rw [cell_of_row _ _ _ _ _ _ hB1.out.row]; show some ((T 2).1) = _; rw [k2.out])).mono ?_
  rintro e v2 ⟨rfl, hE⟩
  have hB2 := Lib.hid (hB1.out.ext hE)
  have hW2 := Lib.hid (bel_ext hW1.out hb.out hE)
  clear hE hB1 hW1
  go_wp2_with fail
  refine (fillNum_nil v2 g (by rw [cell_of_row _ _ _ _ _ _ hB2.out.row]; show some ((T 3).1) = _; rw [k3.out])).mono ?_
  rintro e v3 ⟨rfl, hE⟩
  have hB3 := Lib.hid (hB2.out.ext hE)
  have hW3 := Lib.hid (bel_ext hW2.out hb.out hE)
  clear hE hB2 hW2
  go_wp2_with fail
  refine (fillInt_nil v3 g (by rw [cell_of_row _ _ _ _ _ _ hB3.out.row]; show some ((T 4).1) = _; rw [k4.out])).mono ?_
  rintro e v4 ⟨rfl, hE⟩
  have hB4 := Lib.hid (hB3.out.ext hE)
  have hW4 := Lib.hid (bel_ext hW3.out hb.out hE)
  clear hE hB3 hW3
  go_wp2_with fail
  refine (fillText_nil v4 g (by rw [cell_of_row _ _ _ _ _ _ hB4.out.row]; show some ((T 5).1) = _; rw [k5.out])).mono ?_
  rintro e v5 ⟨rfl, hE⟩
  have hB5 := Lib.hid (hB4.out.ext hE)
  have hW5 := Lib.hid (bel_ext hW4.out hb.out hE)
  clear hE hB4 hW4
  go_wp2_with fail
  refine (fillRow_nil v5 g (by rw [cell_of_row _ _ _ _ _ _ hB5.out.row]; show some ((T 6).1) = _; rw [k6.out])).mono ?_
  rintro e v6 ⟨rfl, hE⟩
  have hB6 := Lib.hid (hB5.out.ext hE)
  have hW6 := Lib.hid (bel_ext hW5.out hb.out hE)
  clear hE hB5 hW5
  go_wp2_with fail
  refine (fillChange_nil v6 g (by rw [cell_of_row _ _ _ _ _ _ hB6.out.row]; show some ((T 7).1) = _; rw [k7.out])).mono ?_
  rintro e v7 ⟨rfl, hE⟩
  have hB7 := Lib.hid (hB6.out.ext hE)
  have hW7 := Lib.hid (bel_ext hW6.out hb.out hE)
  clear hE hB6 hW6
  go_wp2_with fail
  refine (fillEntry_any hB7.out rfl (hnum'.out 8) (hm'.out 8)).mono ?_
  rintro e v8 ⟨rfl, hE, hB⟩
  have hB8 := Lib.hid hB
  have hW8 := Lib.hid (Below.trans hW7.out hE)
  clear hE hB hB7 hW7
  go_wp2_with fail
  refine (fillFile_nil v8 g (by rw [cell_of_row _ _ _ _ _ _ hB8.out.row]; show some ((T 9).1) = _; rw [k9.out])).mono ?_
  rintro e v9 ⟨rfl, hE⟩
  have hB9 := Lib.hid (hB8.out.ext hE)
  have hW9 := Lib.hid (bel_ext hW8.out hb.out hE)
  clear hE hB8 hW8
  go_wp2_with fail
  refine (fillItem_nil v9 g (by rw [cell_of_row _ _ _ _ _ _ hB9.out.row]; show some ((T 10).1) = _; rw [k10.out])).mono ?_
  rintro e v10 ⟨rfl, hE⟩
  have hB10 := Lib.hid (hB9.out.ext hE)
  have hW10 := Lib.hid (bel_ext hW9.out hb.out hE)
  clear hE hB9 hW9
  go_wp2_with fail
  refine (fillSaid_nil v10 g (by rw [cell_of_row _ _ _ _ _ _ hB10.out.row]; show some ((T 11).1) = _; rw [k11.out])).mono ?_
  rintro e v11 ⟨rfl, hE⟩
  have hB11 := Lib.hid (hB10.out.ext hE)
  have hW11 := Lib.hid (bel_ext hW10.out hb.out hE)
  clear hE hB10 hW10
  go_wp2_with fail
  refine (fillMsg_nil v11 g (by rw [cell_of_row _ _ _ _ _ _ hB11.out.row]; show some ((T 12).1) = _; rw [k12.out])).mono ?_
  rintro e v12 ⟨rfl, hE⟩
  have hB12 := Lib.hid (hB11.out.ext hE)
  have hW12 := Lib.hid (bel_ext hW11.out hb.out hE)
  clear hE hB11 hW11
  go_wp2_with fail
  refine (fillEvent_nil v12 g (by rw [cell_of_row _ _ _ _ _ _ hB12.out.row]; show some ((T 13).1) = _; rw [k13.out])).mono ?_
  rintro e v13 ⟨rfl, hE⟩
  have hB13 := Lib.hid (hB12.out.ext hE)
  have hW13 := Lib.hid (bel_ext hW12.out hb.out hE)
  clear hE hB12 hW12
  go_wp2_with fail
  refine (growByte_nil v13 g (by rw [cell_of_row _ _ _ _ _ _ hB13.out.row]; show some ((T 1).1) = _; rw [k1.out])).mono ?_
  rintro e v14 ⟨rfl, hE⟩
  have hB14 := Lib.hid (hB13.out.ext hE)
  have hW14 := Lib.hid (bel_ext hW13.out hb.out hE)
  clear hE hB13 hW13
  go_wp2_with fail
  refine (growId_nil v14 g (by rw [cell_of_row _ _ _ _ _ _ hB14.out.row]; show some ((T 2).1) = _; rw [k2.out])).mono ?_
  rintro e v15 ⟨rfl, hE⟩
  have hB15 := Lib.hid (hB14.out.ext hE)
  have hW15 := Lib.hid (bel_ext hW14.out hb.out hE)
  clear hE hB14 hW14
  go_wp2_with fail
  refine (growNum_nil v15 g (by rw [cell_of_row _ _ _ _ _ _ hB15.out.row]; show some ((T 3).1) = _; rw [k3.out])).mono ?_
  rintro e v16 ⟨rfl, hE⟩
  have hB16 := Lib.hid (hB15.out.ext hE)
  have hW16 := Lib.hid (bel_ext hW15.out hb.out hE)
  clear hE hB15 hW15
  go_wp2_with fail
  refine (growInt_nil v16 g (by rw [cell_of_row _ _ _ _ _ _ hB16.out.row]; show some ((T 4).1) = _; rw [k4.out])).mono ?_
  rintro e v17 ⟨rfl, hE⟩
  have hB17 := Lib.hid (hB16.out.ext hE)
  have hW17 := Lib.hid (bel_ext hW16.out hb.out hE)
  clear hE hB16 hW16
  go_wp2_with fail
  refine (growText_nil v17 g (by rw [cell_of_row _ _ _ _ _ _ hB17.out.row]; show some ((T 5).1) = _; rw [k5.out])).mono ?_
  rintro e v18 ⟨rfl, hE⟩
  have hB18 := Lib.hid (hB17.out.ext hE)
  have hW18 := Lib.hid (bel_ext hW17.out hb.out hE)
  clear hE hB17 hW17
  go_wp2_with fail
  refine (growRow_nil v18 g (by rw [cell_of_row _ _ _ _ _ _ hB18.out.row]; show some ((T 6).1) = _; rw [k6.out])).mono ?_
  rintro e v19 ⟨rfl, hE⟩
  have hB19 := Lib.hid (hB18.out.ext hE)
  have hW19 := Lib.hid (bel_ext hW18.out hb.out hE)
  clear hE hB18 hW18
  go_wp2_with fail
  refine (growChange_nil v19 g (by rw [cell_of_row _ _ _ _ _ _ hB19.out.row]; show some ((T 7).1) = _; rw [k7.out])).mono ?_
  rintro e v20 ⟨rfl, hE⟩
  have hB20 := Lib.hid (hB19.out.ext hE)
  have hW20 := Lib.hid (bel_ext hW19.out hb.out hE)
  clear hE hB19 hW19
  go_wp2_with fail
  refine (growEntry_any hB20.out rfl (hnum'.out 8) (hm'.out 8)).mono ?_
  rintro e v21 ⟨rfl, hE, hs8, hn8, hl8, hB⟩
  have hB21 := Lib.hid hB
  have hW21 := Lib.hid (Below.trans hW20.out hE)
  have hn8' := Lib.hid hn8
  have hl8' : Hid (hs8.length ≤ 1000000) := Lib.hid (by have := hm'.out 8; rw [hl8]; exact this)
  clear hE hB hB20 hW20 hn8 hl8
  go_wp2_with fail
  refine (growFile_nil v21 g (by rw [cell_of_row _ _ _ _ _ _ hB21.out.row]; show some ((T 9).1) = _; rw [k9.out])).mono ?_
  rintro e v22 ⟨rfl, hE⟩
  have hB22 := Lib.hid (hB21.out.ext hE)
  have hW22 := Lib.hid (bel_ext hW21.out hb.out hE)
  clear hE hB21 hW21
  go_wp2_with fail
  refine (growItem_nil v22 g (by rw [cell_of_row _ _ _ _ _ _ hB22.out.row]; show some ((T 10).1) = _; rw [k10.out])).mono ?_
  rintro e v23 ⟨rfl, hE⟩
  have hB23 := Lib.hid (hB22.out.ext hE)
  have hW23 := Lib.hid (bel_ext hW22.out hb.out hE)
  clear hE hB22 hW22
  go_wp2_with fail
  refine (growSaid_nil v23 g (by rw [cell_of_row _ _ _ _ _ _ hB23.out.row]; show some ((T 11).1) = _; rw [k11.out])).mono ?_
  rintro e v24 ⟨rfl, hE⟩
  have hB24 := Lib.hid (hB23.out.ext hE)
  have hW24 := Lib.hid (bel_ext hW23.out hb.out hE)
  clear hE hB23 hW23
  go_wp2_with fail
  refine (growMsg_nil v24 g (by rw [cell_of_row _ _ _ _ _ _ hB24.out.row]; show some ((T 12).1) = _; rw [k12.out])).mono ?_
  rintro e v25 ⟨rfl, hE⟩
  have hB25 := Lib.hid (hB24.out.ext hE)
  have hW25 := Lib.hid (bel_ext hW24.out hb.out hE)
  clear hE hB24 hW24
  go_wp2_with fail
  refine (growEvent_nil v25 g (by rw [cell_of_row _ _ _ _ _ _ hB25.out.row]; show some ((T 13).1) = _; rw [k13.out])).mono ?_
  rintro e v26 ⟨rfl, hE⟩
  have hB26 := Lib.hid (hB25.out.ext hE)
  have hW26 := Lib.hid (bel_ext hW25.out hb.out hE)
  clear hE hB25 hW25
  go_wp2_with fail
  refine (lookByte_nil v26 g (by rw [cell_of_row _ _ _ _ _ _ hB26.out.row]; show some ((T 1).1) = _; rw [k1.out])).mono ?_
  rintro e v27 ⟨rfl, hE⟩
  have hB27 := Lib.hid (hB26.out.ext hE)
  have hW27 := Lib.hid (bel_ext hW26.out hb.out hE)
  clear hE hB26 hW26
  go_wp2_with fail
  refine (lookId_nil v27 g (by rw [cell_of_row _ _ _ _ _ _ hB27.out.row]; show some ((T 2).1) = _; rw [k2.out])).mono ?_
  rintro e v28 ⟨rfl, hE⟩
  have hB28 := Lib.hid (hB27.out.ext hE)
  have hW28 := Lib.hid (bel_ext hW27.out hb.out hE)
  clear hE hB27 hW27
  go_wp2_with fail
  refine (lookNum_nil v28 g (by rw [cell_of_row _ _ _ _ _ _ hB28.out.row]; show some ((T 3).1) = _; rw [k3.out])).mono ?_
  rintro e v29 ⟨rfl, hE⟩
  have hB29 := Lib.hid (hB28.out.ext hE)
  have hW29 := Lib.hid (bel_ext hW28.out hb.out hE)
  clear hE hB28 hW28
  go_wp2_with fail
  refine (lookInt_nil v29 g (by rw [cell_of_row _ _ _ _ _ _ hB29.out.row]; show some ((T 4).1) = _; rw [k4.out])).mono ?_
  rintro e v30 ⟨rfl, hE⟩
  have hB30 := Lib.hid (hB29.out.ext hE)
  have hW30 := Lib.hid (bel_ext hW29.out hb.out hE)
  clear hE hB29 hW29
  go_wp2_with fail
  refine (lookText_nil v30 g (by rw [cell_of_row _ _ _ _ _ _ hB30.out.row]; show some ((T 5).1) = _; rw [k5.out])).mono ?_
  rintro e v31 ⟨rfl, hE⟩
  have hB31 := Lib.hid (hB30.out.ext hE)
  have hW31 := Lib.hid (bel_ext hW30.out hb.out hE)
  clear hE hB30 hW30
  go_wp2_with fail
  refine (lookRow_nil v31 g (by rw [cell_of_row _ _ _ _ _ _ hB31.out.row]; show some ((T 6).1) = _; rw [k6.out])).mono ?_
  rintro e v32 ⟨rfl, hE⟩
  have hB32 := Lib.hid (hB31.out.ext hE)
  have hW32 := Lib.hid (bel_ext hW31.out hb.out hE)
  clear hE hB31 hW31
  go_wp2_with fail
  refine (lookChange_nil v32 g (by rw [cell_of_row _ _ _ _ _ _ hB32.out.row]; show some ((T 7).1) = _; rw [k7.out])).mono ?_
  rintro e v33 ⟨rfl, hE⟩
  have hB33 := Lib.hid (hB32.out.ext hE)
  have hW33 := Lib.hid (bel_ext hW32.out hb.out hE)
  clear hE hB32 hW32
  go_wp2_with fail
  refine (lookEntry_any hB33.out rfl hn8'.out hl8'.out).mono ?_
  rintro e v34 ⟨rfl, hE⟩
  have hB34 := Lib.hid (hB33.out.ext hE)
  have hW34 := Lib.hid (bel_ext hW33.out hb.out hE)
  clear hE hB33 hW33
  go_wp2_with fail
  refine (lookFile_nil v34 g (by rw [cell_of_row _ _ _ _ _ _ hB34.out.row]; show some ((T 9).1) = _; rw [k9.out])).mono ?_
  rintro e v35 ⟨rfl, hE⟩
  have hB35 := Lib.hid (hB34.out.ext hE)
  have hW35 := Lib.hid (bel_ext hW34.out hb.out hE)
  clear hE hB34 hW34
  go_wp2_with fail
  refine (lookItem_nil v35 g (by rw [cell_of_row _ _ _ _ _ _ hB35.out.row]; show some ((T 10).1) = _; rw [k10.out])).mono ?_
  rintro e v36 ⟨rfl, hE⟩
  have hB36 := Lib.hid (hB35.out.ext hE)
  have hW36 := Lib.hid (bel_ext hW35.out hb.out hE)
  clear hE hB35 hW35
  go_wp2_with fail
  refine (lookSaid_nil v36 g (by rw [cell_of_row _ _ _ _ _ _ hB36.out.row]; show some ((T 11).1) = _; rw [k11.out])).mono ?_
  rintro e v37 ⟨rfl, hE⟩
  have hB37 := Lib.hid (hB36.out.ext hE)
  have hW37 := Lib.hid (bel_ext hW36.out hb.out hE)
  clear hE hB36 hW36
  go_wp2_with fail
  refine (lookMsg_nil v37 g (by rw [cell_of_row _ _ _ _ _ _ hB37.out.row]; show some ((T 12).1) = _; rw [k12.out])).mono ?_
  rintro e v38 ⟨rfl, hE⟩
  have hB38 := Lib.hid (hB37.out.ext hE)
  have hW38 := Lib.hid (bel_ext hW37.out hb.out hE)
  clear hE hB37 hW37
  go_wp2_with fail
  refine (lookEvent_nil v38 g (by rw [cell_of_row _ _ _ _ _ _ hB38.out.row]; show some ((T 13).1) = _; rw [k13.out])).mono ?_
  rintro e v39 ⟨rfl, hE⟩
  have hB39 := Lib.hid (hB38.out.ext hE)
  have hW39 := Lib.hid (bel_ext hW38.out hb.out hE)
  clear hE hB38 hW38
  go_wp2_with fail
  go_ret
  exact ⟨rfl, hW39.out⟩
end Go.Proofs.YtfcpnkalcijflaaGreatDoor
