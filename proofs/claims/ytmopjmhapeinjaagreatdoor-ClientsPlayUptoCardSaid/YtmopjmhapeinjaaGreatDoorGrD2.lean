/- Several texts in one: Rc1 Rn6. No condition. -/
import Derived.Test.YtmopjmhapeinjaaGreatDoorGrD1
import Derived.Test.YtmopjmhapeinjaaGreatDoorGrA4
import Derived.StillTailTactics
import Derived.Deep.CutRange
import Derived.Test.YtmopjmhapeinjaaGreatDoorGrA5
import Derived.Test.YtmopjmhapeinjaaGreatDoorGrA3
/- The document's Came; a client's Came where the message is none for it. (Printed by mkrc.py.) No condition. -/
namespace Go.Proofs.YtmopjmhapeinjaaGreatDoor
open Go.RowKit
set_option maxRecDepth 100000
set_option maxHeartbeats 2000000
section
variable {w : World} {c : Nat} {id num lv : Int} {wt : Bool} {x : Ak} {v : Value} (m : Mg) (v8 v9 v10 v11 v12 v13 v14 v15 : Value)
theorem rcame_arg1 (h : RcAt w c id num wt x v lv) (h1 : 1 ≤ id) (h8 : id ≤ 8) (hs : m.say ≠ 2) : Calls Tryz.prog 21 #[.pointer (some ⟨c, 0, none⟩), .agg (m.row v8 v9 v10 v11 v12 v13 v14 v15)] w fun e w' => e = .returned (.tuple #[.bool false, .int .i64 1]) ∧ Ext w w' := by
  obtain ⟨W, hW⟩ : ∃ W, W = w.alloc (.cells (m.row v8 v9 v10 v11 v12 v13 v14 v15) 63) := ⟨_, rfl⟩
  have hE : Ext w W := by rw [hW]; exact (Ext.refl w).alloc _
  have hbx : W.heap[w.heap.size]? = some (.cells (m.row v8 v9 v10 v11 v12 v13 v14 v15) 63 (0, 0)) := by rw [hW]; exact heap_alloc_new _ _
  obtain ⟨m0, m2, m4, m5⟩ := Mg.cells hbx
  have hcl := h.ext hE
  obtain ⟨c0, c1, c2, c11, _, cf⟩ := hcl.cells
  have cf2 := cf 2
  have e1 : IntKind.u8.wrap (16 + id) = 16 + id := by rw [IntKind.wrap_u8]; omega
  have hW' := Lib.hid hW
  clear hW hbx cf
  unfold Mg.row at hW' ⊢
  go_enter Tryz.func21, Tryz.ntmps21
  go_upto_region 1 with fail
  rw [← hW'.out]
  clear hW'
  go_quiet (fail)
  go_wp2_with fail
  go_ret2
  exact ⟨rfl, by first | exact ext_drewN (ext_drewN hE _) _ | exact ext_drewN hE _ | exact hE⟩
theorem rcame_arg2 (h : RcAt w c id num wt x v lv) (h1 : 1 ≤ id) (h8 : id ≤ 8) (hs : m.say = 2) (ht : m.to ≠ 16 + id) : Calls Tryz.prog 21 #[.pointer (some ⟨c, 0, none⟩), .agg (m.row v8 v9 v10 v11 v12 v13 v14 v15)] w fun e w' => e = .returned (.tuple #[.bool false, .int .i64 1]) ∧ Ext w w' := by
  obtain ⟨W, hW⟩ : ∃ W, W = w.alloc (.cells (m.row v8 v9 v10 v11 v12 v13 v14 v15) 63) := ⟨_, rfl⟩
  have hE : Ext w W := by rw [hW]; exact (Ext.refl w).alloc _
  have hbx : W.heap[w.heap.size]? = some (.cells (m.row v8 v9 v10 v11 v12 v13 v14 v15) 63 (0, 0)) := by rw [hW]; exact heap_alloc_new _ _
  obtain ⟨m0, m2, m4, m5⟩ := Mg.cells hbx
  have hcl := h.ext hE
  obtain ⟨c0, c1, c2, c11, _, cf⟩ := hcl.cells
  have cf2 := cf 2
  have e1 : IntKind.u8.wrap (16 + id) = 16 + id := by rw [IntKind.wrap_u8]; omega
  rw [hs] at m0
  clear hs
  have hW' := Lib.hid hW
  clear hW hbx cf
  unfold Mg.row at hW' ⊢
  go_enter Tryz.func21, Tryz.ntmps21
  go_upto_region 1 with fail
  rw [← hW'.out]
  clear hW'
  go_quiet (fail)
  go_wp2_with fail
  go_ret2
  exact ⟨rfl, by first | exact ext_drewN (ext_drewN hE _) _ | exact ext_drewN hE _ | exact hE⟩
theorem rcame_idle (h : RcAt w c id num false x v lv) (h1 : 1 ≤ id) (h8 : id ≤ 8) (hs : m.say = 2) (ht : m.to = 16 + id) : Calls Tryz.prog 21 #[.pointer (some ⟨c, 0, none⟩), .agg (m.row v8 v9 v10 v11 v12 v13 v14 v15)] w fun e w' => e = .returned (.tuple #[.bool false, .int .i64 0]) ∧ Ext w w' := by
  obtain ⟨W, hW⟩ : ∃ W, W = w.alloc (.cells (m.row v8 v9 v10 v11 v12 v13 v14 v15) 63) := ⟨_, rfl⟩
  have hE : Ext w W := by rw [hW]; exact (Ext.refl w).alloc _
  have hbx : W.heap[w.heap.size]? = some (.cells (m.row v8 v9 v10 v11 v12 v13 v14 v15) 63 (0, 0)) := by rw [hW]; exact heap_alloc_new _ _
  obtain ⟨m0, m2, m4, m5⟩ := Mg.cells hbx
  have hcl := h.ext hE
  obtain ⟨c0, c1, c2, c11, _, cf⟩ := hcl.cells
  have cf2 := cf 2
  have e1 : IntKind.u8.wrap (16 + id) = 16 + id := by rw [IntKind.wrap_u8]; omega
  rw [hs] at m0
  rw [ht] at m2
  clear hs ht
  have hW' := Lib.hid hW
  clear hW hbx cf
  unfold Mg.row at hW' ⊢
  go_enter Tryz.func21, Tryz.ntmps21
  go_upto_region 1 with fail
  rw [← hW'.out]
  clear hW'
  go_quiet (fail)
  go_wp2_with fail
  go_quiet (fail)
  go_wp2_with fail
  go_ret2
  exact ⟨rfl, by first | exact ext_drewN (ext_drewN hE _) _ | exact ext_drewN hE _ | exact hE⟩
theorem rcame_num (h : RcAt w c id num true x v lv) (h1 : 1 ≤ id) (h8 : id ≤ 8) (hs : m.say = 2) (ht : m.to = 16 + id) (hn : m.num ≠ num) : Calls Tryz.prog 21 #[.pointer (some ⟨c, 0, none⟩), .agg (m.row v8 v9 v10 v11 v12 v13 v14 v15)] w fun e w' => e = .returned (.tuple #[.bool false, .int .i64 0]) ∧ Ext w w' := by
  obtain ⟨W, hW⟩ : ∃ W, W = w.alloc (.cells (m.row v8 v9 v10 v11 v12 v13 v14 v15) 63) := ⟨_, rfl⟩
  have hE : Ext w W := by rw [hW]; exact (Ext.refl w).alloc _
  have hbx : W.heap[w.heap.size]? = some (.cells (m.row v8 v9 v10 v11 v12 v13 v14 v15) 63 (0, 0)) := by rw [hW]; exact heap_alloc_new _ _
  obtain ⟨m0, m2, m4, m5⟩ := Mg.cells hbx
  have hcl := h.ext hE
  obtain ⟨c0, c1, c2, c11, _, cf⟩ := hcl.cells
  have cf2 := cf 2
  have e1 : IntKind.u8.wrap (16 + id) = 16 + id := by rw [IntKind.wrap_u8]; omega
  rw [hs] at m0
  rw [ht] at m2
  clear hs ht
  have hW' := Lib.hid hW
  clear hW hbx cf
  unfold Mg.row at hW' ⊢
  go_enter Tryz.func21, Tryz.ntmps21
  go_upto_region 1 with fail
  rw [← hW'.out]
  clear hW'
  go_quiet (fail)
  go_wp2_with fail
  go_quiet (fail)
  go_wp2_with fail
  go_ret2
  exact ⟨rfl, by first | exact ext_drewN (ext_drewN hE _) _ | exact ext_drewN hE _ | exact hE⟩
theorem rcame_lv (h : RcAt w c id num true x v lv) (h1 : 1 ≤ id) (h8 : id ≤ 8) (hs : m.say = 2) (ht : m.to = 16 + id) (hn : m.num = num) (hl : m.lv ≠ lv) : Calls Tryz.prog 21 #[.pointer (some ⟨c, 0, none⟩), .agg (m.row v8 v9 v10 v11 v12 v13 v14 v15)] w fun e w' => e = .returned (.tuple #[.bool false, .int .i64 0]) ∧ Ext w w' := by
  obtain ⟨W, hW⟩ : ∃ W, W = w.alloc (.cells (m.row v8 v9 v10 v11 v12 v13 v14 v15) 63) := ⟨_, rfl⟩
  have hE : Ext w W := by rw [hW]; exact (Ext.refl w).alloc _
  have hbx : W.heap[w.heap.size]? = some (.cells (m.row v8 v9 v10 v11 v12 v13 v14 v15) 63 (0, 0)) := by rw [hW]; exact heap_alloc_new _ _
  obtain ⟨m0, m2, m4, m5⟩ := Mg.cells hbx
  have hcl := h.ext hE
  obtain ⟨c0, c1, c2, c11, _, cf⟩ := hcl.cells
  have cf2 := cf 2
  have e1 : IntKind.u8.wrap (16 + id) = 16 + id := by rw [IntKind.wrap_u8]; omega
  rw [hs] at m0
  rw [ht] at m2
  rw [hn] at m5
  clear hs ht hn
  have hW' := Lib.hid hW
  clear hW hbx cf
  unfold Mg.row at hW' ⊢
  go_enter Tryz.func21, Tryz.ntmps21
  go_upto_region 1 with fail
  rw [← hW'.out]
  clear hW'
  go_quiet (fail)
  go_wp2_with fail
  go_quiet (fail)
  go_wp2_with fail
  go_ret2
  exact ⟨rfl, by first | exact ext_drewN (ext_drewN hE _) _ | exact ext_drewN hE _ | exact hE⟩
theorem rcame_yes (h : RcAt w c id num true x v lv) (h1 : 1 ≤ id) (h8 : id ≤ 8) (hs : m.say = 2) (ht : m.to = 16 + id) (hn : m.num = num) (hl : m.lv = lv) : Calls Tryz.prog 21 #[.pointer (some ⟨c, 0, none⟩), .agg (m.row v8 v9 v10 v11 v12 v13 v14 v15)] w fun e w' => e = .returned (.tuple #[.bool true, .int .i64 0]) ∧ RcAt w' c id num false x v lv ∧ OffB (fun k => k = c) w w' := by
  obtain ⟨W, hW⟩ : ∃ W, W = w.alloc (.cells (m.row v8 v9 v10 v11 v12 v13 v14 v15) 63) := ⟨_, rfl⟩
  have hE : Ext w W := by rw [hW]; exact (Ext.refl w).alloc _
  have hbx : W.heap[w.heap.size]? = some (.cells (m.row v8 v9 v10 v11 v12 v13 v14 v15) 63 (0, 0)) := by rw [hW]; exact heap_alloc_new _ _
  obtain ⟨m0, m2, m4, m5⟩ := Mg.cells hbx
  have hcl := h.ext hE
  obtain ⟨c0, c1, c2, c11, _, cf⟩ := hcl.cells
  have cf2 := cf 2
  have e1 : IntKind.u8.wrap (16 + id) = 16 + id := by rw [IntKind.wrap_u8]; omega
  rw [hs] at m0
  rw [ht] at m2
  rw [hn] at m5
  rw [hl] at m4
  clear hs ht hn hl
  have hW' := Lib.hid hW
  clear hW hbx cf
  unfold Mg.row at hW' ⊢
  go_enter Tryz.func21, Tryz.ntmps21
  go_upto_region 1 with fail
  rw [← hW'.out]
  clear hW'
  go_quiet (fail)
  rename Nat => n1
  go_wp2_with fail
  go_quiet (fail)
  rename Nat => n2
  go_wp2_with fail
  go_ret2
  have hE2 := ext_drewN (Ext.refl W) (n1 + n2)
  exact ⟨rfl, (hcl.ext hE2).put 2 (.bool false) (num' := num) (wt' := false) (lv' := lv) rfl, OffB.setCell (B := fun k => k = c) (.of_ext (hE.trans hE2)) rfl _⟩
end
section
variable {w : World} {c : Nat} {id num : Int} {p : Option Addr} (m : Mg) (v8 v9 v10 v11 v12 v13 v14 v15 : Value)
theorem came_arg1 (h : ClAt w c id num p) (h1 : 1 ≤ id) (h8 : id ≤ 8) (hs : m.say ≠ 2) : Calls Tryz.prog 20 #[.pointer (some ⟨c, 0, none⟩), .agg (m.row v8 v9 v10 v11 v12 v13 v14 v15)] w fun e w' => e = .returned (.tuple #[.bool false, .int .i64 1]) ∧ Ext w w' := by
  obtain ⟨W, hW⟩ : ∃ W, W = w.alloc (.cells (m.row v8 v9 v10 v11 v12 v13 v14 v15) 63) := ⟨_, rfl⟩
  have hE : Ext w W := by rw [hW]; exact (Ext.refl w).alloc _
  have hbx : W.heap[w.heap.size]? = some (.cells (m.row v8 v9 v10 v11 v12 v13 v14 v15) 63 (0, 0)) := by rw [hW]; exact heap_alloc_new _ _
  obtain ⟨m0, m2, m4, m5⟩ := Mg.cells hbx
  have hcl := h.ext hE
  obtain ⟨c0, c1, c2, cf⟩ := hcl.cells
  have e1 : IntKind.u8.wrap (16 + id) = 16 + id := by rw [IntKind.wrap_u8]; omega
  have hW' := Lib.hid hW
  clear hW hbx cf
  unfold Mg.row at hW' ⊢
  go_enter Tryz.func20, Tryz.ntmps20
  go_wp2_with fail
  rw [← hW'.out]
  clear hW'
  refine (there_any _ c id num _ hcl h1).mono ?_
  rintro e w' ⟨rfl, rfl⟩
  go_wp2_with fail
  go_quiet (fail)
  go_wp2_with fail
  go_ret2
  exact ⟨rfl, by first | exact ext_drewN (ext_drewN hE _) _ | exact ext_drewN hE _ | exact hE⟩
theorem came_arg2 (h : ClAt w c id num p) (h1 : 1 ≤ id) (h8 : id ≤ 8) (hs : m.say = 2) (ht : m.to ≠ 16 + id) : Calls Tryz.prog 20 #[.pointer (some ⟨c, 0, none⟩), .agg (m.row v8 v9 v10 v11 v12 v13 v14 v15)] w fun e w' => e = .returned (.tuple #[.bool false, .int .i64 1]) ∧ Ext w w' := by
  obtain ⟨W, hW⟩ : ∃ W, W = w.alloc (.cells (m.row v8 v9 v10 v11 v12 v13 v14 v15) 63) := ⟨_, rfl⟩
  have hE : Ext w W := by rw [hW]; exact (Ext.refl w).alloc _
  have hbx : W.heap[w.heap.size]? = some (.cells (m.row v8 v9 v10 v11 v12 v13 v14 v15) 63 (0, 0)) := by rw [hW]; exact heap_alloc_new _ _
  obtain ⟨m0, m2, m4, m5⟩ := Mg.cells hbx
  have hcl := h.ext hE
  obtain ⟨c0, c1, c2, cf⟩ := hcl.cells
  have e1 : IntKind.u8.wrap (16 + id) = 16 + id := by rw [IntKind.wrap_u8]; omega
  rw [hs] at m0
  clear hs
  have hW' := Lib.hid hW
  clear hW hbx cf
  unfold Mg.row at hW' ⊢
  go_enter Tryz.func20, Tryz.ntmps20
  go_wp2_with fail
  rw [← hW'.out]
  clear hW'
  refine (there_any _ c id num _ hcl h1).mono ?_
  rintro e w' ⟨rfl, rfl⟩
  go_wp2_with fail
  go_quiet (fail)
  go_wp2_with fail
  go_ret2
  exact ⟨rfl, by first | exact ext_drewN (ext_drewN hE _) _ | exact ext_drewN hE _ | exact hE⟩
end
end Go.Proofs.YtmopjmhapeinjaaGreatDoor

/- The document's Check, kind by kind. No condition. -/
namespace Go.Proofs.YtmopjmhapeinjaaGreatDoor
open Go.RowKit
set_option maxRecDepth 100000
set_option maxHeartbeats 4000000
theorem val_empty {s : ByteArray} (h : valB s = false) : s.toList.isEmpty = false := by
  rw [empty_not]
  unfold valB at h
  have := of_decide_eq_false h
  omega
theorem checkR_put (w : World) (x : Ak) (a : Option Addr) (cap : Nat) (hs : x.small) (hk : x.kind = 1) : Calls Tryz.prog 32 #[.agg (x.row (.slice a x.chs.length cap))] w fun e w' => e = .returned (.bool x.putB) ∧ Ext w w' := by
  obtain ⟨_, s1, s2, s3, s4, s5⟩ := hs
  obtain ⟨m, hm⟩ : ∃ m, m = x.chs.length := ⟨_, rfl⟩
  rw [← hm]
  have hm' := Lib.hid hm
  clear hm
  unfold Ak.row
  rw [hk]
  clear hk
  go_enter Tryz.func32, Tryz.ntmps32
  go_wp2_with fail
  refine (keyR_any _ x.key s1).mono ?_
  rintro e w' ⟨rfl, rfl⟩
  cases hb : keyB x.key
  · have h1 := Lib.hid hb
    clear hb
    go_wp2_with fail
    all_goals (have kh1 := h1.out; go_ret; exact ⟨ret_bool (by unfold Ak.putB; rw [← hm'.out]; first | (simp [*]; done) | (obtain rfl : m = 0 := (by omega); simp [*]; done) | (have kL : (m == 0) = false := (by rw [beq_eq_false_iff_ne]; omega); simp only [kL, Bool.and_false]; done) | (have kV := val_empty kh2; simp [*]; done)), ((Ext.refl _).alloc _).alloc _⟩)
  · have h1 := Lib.hid hb
    clear hb
    go_wp2_with fail
    refine (valR_any _ x.val s2).mono ?_
    rintro e w' ⟨rfl, rfl⟩
    cases hb : valB x.val
    · have h2 := Lib.hid hb
      clear hb
      go_wp2_with fail
      all_goals (have kh1 := h1.out; have kh2 := h2.out; go_ret; exact ⟨ret_bool (by unfold Ak.putB; rw [← hm'.out]; first | (simp [*]; done) | (obtain rfl : m = 0 := (by omega); simp [*]; done) | (have kL : (m == 0) = false := (by rw [beq_eq_false_iff_ne]; omega); simp only [kL, Bool.and_false]; done) | (have kV := val_empty kh2; simp [*]; done)), ((Ext.refl _).alloc _).alloc _⟩)
    · have h2 := Lib.hid hb
      clear hb
      go_wp2_with fail
      all_goals (have kh1 := h1.out; have kh2 := h2.out; go_ret; exact ⟨ret_bool (by unfold Ak.putB; rw [← hm'.out]; first | (simp [*]; done) | (obtain rfl : m = 0 := (by omega); simp [*]; done) | (have kL : (m == 0) = false := (by rw [beq_eq_false_iff_ne]; omega); simp only [kL, Bool.and_false]; done) | (have kV := val_empty kh2; simp [*]; done)), ((Ext.refl _).alloc _).alloc _⟩)
theorem checkR_del (w : World) (x : Ak) (a : Option Addr) (cap : Nat) (hs : x.small) (hk : x.kind = 2) : Calls Tryz.prog 32 #[.agg (x.row (.slice a x.chs.length cap))] w fun e w' => e = .returned (.bool x.plainB) ∧ Ext w w' := by
  obtain ⟨_, s1, s2, s3, s4, s5⟩ := hs
  obtain ⟨m, hm⟩ : ∃ m, m = x.chs.length := ⟨_, rfl⟩
  rw [← hm]
  have hm' := Lib.hid hm
  clear hm
  unfold Ak.row
  rw [hk]
  clear hk
  go_enter Tryz.func32, Tryz.ntmps32
  go_wp2_with fail
  refine (keyR_any _ x.key s1).mono ?_
  rintro e w' ⟨rfl, rfl⟩
  cases hb : keyB x.key
  · have h1 := Lib.hid hb
    clear hb
    go_wp2_with fail
    all_goals (have kh1 := h1.out; go_ret; exact ⟨ret_bool (by unfold Ak.plainB; rw [← hm'.out]; first | (simp [*]; done) | (obtain rfl : m = 0 := (by omega); simp [*]; done) | (have kL : (m == 0) = false := (by rw [beq_eq_false_iff_ne]; omega); simp only [kL, Bool.and_false]; done) | (have kV := val_empty kh2; simp [*]; done)), ((Ext.refl _).alloc _).alloc _⟩)
  · have h1 := Lib.hid hb
    clear hb
    go_wp2_with fail
    refine (valR_any _ x.val s2).mono ?_
    rintro e w' ⟨rfl, rfl⟩
    cases hb : valB x.val
    · have h2 := Lib.hid hb
      clear hb
      go_wp2_with fail
      all_goals (have kh1 := h1.out; have kh2 := h2.out; go_ret; exact ⟨ret_bool (by unfold Ak.plainB; rw [← hm'.out]; first | (simp [*]; done) | (obtain rfl : m = 0 := (by omega); simp [*]; done) | (have kL : (m == 0) = false := (by rw [beq_eq_false_iff_ne]; omega); simp only [kL, Bool.and_false]; done) | (have kV := val_empty kh2; simp [*]; done)), ((Ext.refl _).alloc _).alloc _⟩)
    · have h2 := Lib.hid hb
      clear hb
      go_wp2_with fail
      all_goals (have kh1 := h1.out; have kh2 := h2.out; go_ret; exact ⟨ret_bool (by unfold Ak.plainB; rw [← hm'.out]; first | (simp [*]; done) | (obtain rfl : m = 0 := (by omega); simp [*]; done) | (have kL : (m == 0) = false := (by rw [beq_eq_false_iff_ne]; omega); simp only [kL, Bool.and_false]; done) | (have kV := val_empty kh2; simp [*]; done)), ((Ext.refl _).alloc _).alloc _⟩)
theorem checkR_get (w : World) (x : Ak) (a : Option Addr) (cap : Nat) (hs : x.small) (hk : x.kind = 5) : Calls Tryz.prog 32 #[.agg (x.row (.slice a x.chs.length cap))] w fun e w' => e = .returned (.bool x.plainB) ∧ Ext w w' := by
  obtain ⟨_, s1, s2, s3, s4, s5⟩ := hs
  obtain ⟨m, hm⟩ : ∃ m, m = x.chs.length := ⟨_, rfl⟩
  rw [← hm]
  have hm' := Lib.hid hm
  clear hm
  unfold Ak.row
  rw [hk]
  clear hk
  go_enter Tryz.func32, Tryz.ntmps32
  go_wp2_with fail
  refine (keyR_any _ x.key s1).mono ?_
  rintro e w' ⟨rfl, rfl⟩
  cases hb : keyB x.key
  · have h1 := Lib.hid hb
    clear hb
    go_wp2_with fail
    all_goals (have kh1 := h1.out; go_ret; exact ⟨ret_bool (by unfold Ak.plainB; rw [← hm'.out]; first | (simp [*]; done) | (obtain rfl : m = 0 := (by omega); simp [*]; done) | (have kL : (m == 0) = false := (by rw [beq_eq_false_iff_ne]; omega); simp only [kL, Bool.and_false]; done) | (have kV := val_empty kh2; simp [*]; done)), ((Ext.refl _).alloc _).alloc _⟩)
  · have h1 := Lib.hid hb
    clear hb
    go_wp2_with fail
    refine (valR_any _ x.val s2).mono ?_
    rintro e w' ⟨rfl, rfl⟩
    cases hb : valB x.val
    · have h2 := Lib.hid hb
      clear hb
      go_wp2_with fail
      all_goals (have kh1 := h1.out; have kh2 := h2.out; go_ret; exact ⟨ret_bool (by unfold Ak.plainB; rw [← hm'.out]; first | (simp [*]; done) | (obtain rfl : m = 0 := (by omega); simp [*]; done) | (have kL : (m == 0) = false := (by rw [beq_eq_false_iff_ne]; omega); simp only [kL, Bool.and_false]; done) | (have kV := val_empty kh2; simp [*]; done)), ((Ext.refl _).alloc _).alloc _⟩)
    · have h2 := Lib.hid hb
      clear hb
      go_wp2_with fail
      all_goals (have kh1 := h1.out; have kh2 := h2.out; go_ret; exact ⟨ret_bool (by unfold Ak.plainB; rw [← hm'.out]; first | (simp [*]; done) | (obtain rfl : m = 0 := (by omega); simp [*]; done) | (have kL : (m == 0) = false := (by rw [beq_eq_false_iff_ne]; omega); simp only [kL, Bool.and_false]; done) | (have kV := val_empty kh2; simp [*]; done)), ((Ext.refl _).alloc _).alloc _⟩)
end Go.Proofs.YtmopjmhapeinjaaGreatDoor
