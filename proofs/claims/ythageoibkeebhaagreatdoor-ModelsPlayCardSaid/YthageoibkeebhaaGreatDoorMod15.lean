/- Do: the same again; what may not be asked. (Printed by wip/tools/gdo.py.) No condition. -/
import Derived.Test.YthageoibkeebhaaGreatDoorMod14
namespace Go.Proofs.YthageoibkeebhaaGreatDoor
open Go.RowKit Go.Maps Go.WideMaps
set_option maxRecDepth 100000
set_option maxHeartbeats 2000000
theorem sd_rng {w : World} {st mb : Nat} {sd : List Sv} {c : Nat} {s : Sv} (hw : w.heap[st]? = some (.cells (stRow mb sd) 96 (0, 0))) (h : sd[c]? = some s) : w.rangeAt st (1 + c * 4 + 1) (reG s.e s.yes).toList := by
  obtain ⟨_, e1, e2, e3⟩ := sd_cells hw h
  intro j u hu
  have hj : j < 3 := (List.getElem?_eq_some_iff.1 hu).1
  obtain rfl | rfl | rfl : j = 0 ∨ j = 1 ∨ j = 2 := by omega
  · rw [Nat.add_zero, e1]; exact hu
  · rw [show 1 + c * 4 + 1 + 1 = 1 + c * 4 + 2 by omega, e2]; exact hu
  · rw [show 1 + c * 4 + 1 + 2 = 1 + c * 4 + 3 by omega, e3]; exact hu
theorem reg_len (e : Int) (y : Bool) : (reG e y).toList.length = 3 := rfl
theorem do_same {w0 w : World} {st mb : Nat} {m : Md} (hS : StM w0 w st mb m) (c n : Nat) (x : Ak) (a : Option Addr) (cap : Nat) (h : ChsAt w x.chs a cap) (hs : x.small) (h1 : 1 ≤ c) (h8 : c ≤ 8) (hn : n ≠ 0) (hok : x.okB = true) {s : Sv} (hsc : m.sd[c]? = some s) (hle : n = s.num) (hk : keptP x) :
    Calls Tryz.prog 30 #[.pointer (some ⟨st, 0, none⟩), .int .u8 (c : Int), .int .u32 (n : Int), .agg (x.row (.slice a x.chs.length cap))] w (DoE w0 w st mb s.e s.yes [] 10 m) := by
  obtain ⟨W, hW⟩ : ∃ W, W = (w.alloc (.cells (x.row (.slice a x.chs.length cap)) 66)).alloc (.cells zRe 74) := ⟨_, rfl⟩
  have hE : Ext w W := by rw [hW]; exact ((Ext.refl _).alloc _).alloc _
  have hX : W.heap[w.heap.size]? = some (.cells (x.row (.slice a x.chs.length cap)) 66 (0, 0)) := by rw [hW]; exact ((Ext.refl _).alloc _).row (heap_alloc_new w _)
  have hR : W.heap[w.heap.size + 1]? = some (.cells zRe 74 (0, 0)) := by
    have h1 := heap_alloc_new (w.alloc (.cells (x.row (.slice a x.chs.length cap)) 66)) (.cells zRe 74)
    rw [show (w.alloc (.cells (x.row (.slice a x.chs.length cap)) 66)).heap.size = w.heap.size + 1 by simp] at h1
    rw [hW]; exact h1
  have hrg := ask_rng hX
  obtain ⟨k0, _⟩ := askc hX
  obtain ⟨rs, hX0, _⟩ := id hS
  obtain ⟨_, _, _, _, _, hst, _⟩ := (hS.ext hE).at
  have hth := st_there (hX0.ext hE)
  obtain ⟨d0, _⟩ := sd_cells hst hsc
  have hsc' := Lib.hid hsc
  have hR' := Lib.hid hR
  have hW' := Lib.hid hW
  have hok' := Lib.hid hok
  have hch := Lib.hid (check_any W x a cap (h.ext hE) hs)
  have hS' := Lib.hid hS
  have hsr := sd_rng hst hsc
  clear hW hX hst hX0 hR hok hsc hS
  have i1 : ¬ (c : Int) < 1 := by omega
  have i2 : ¬ (8 : Int) < (c : Int) := by omega
  have i3 : ¬ (n : Int) = 0 := by omega
  rw [← hle] at d0
  clear hle
  obtain ⟨k5, k6⟩ := hk
  unfold Ak.row zRe at hW'
  unfold Ak.row at hrg
  unfold Ak.row
  go_enter Tryz.func30, Tryz.ntmps30
  go_upto_region 1 with fail
  rw [← hW'.out]
  clear hW'
  go_wp2_with fail
  refine hth.mono ?_
  rintro e w' ⟨rfl, rfl⟩
  clear hth
  go_wp2_with (first | (refine wpList_load_mid_on (by rfl) 66 (.tmp 7) (by rfl) w.heap.size 0 (by rfl) (x.row (.slice a x.chs.length cap)).toList _ hrg Tryz.underlying66 rfl (by rw [ask_ln]; exact ask_inf) ?_) | fail)
  refine hch.out.mono ?_
  rw [hok'.out]
  rintro e w1 ⟨rfl, hE1⟩
  replace k0 := hE1.cell k0
  replace d0 := hE1.cell d0
  have hR1 := Lib.hid (hE1.row hR'.out)
  clear hrg hch
  go_upto_region 5 with fail
  have hEw := hE.trans hE1
  have hfin : ∀ Wf, Ext w Wf → DoE w0 w st mb s.e s.yes [] 10 m (.returned (.tuple #[.agg (reG s.e s.yes), .int .i64 10])) Wf := fun Wf he => do_none hS'.out he s.e s.yes 10
  have hfin' := Lib.hid hfin
  have hsr1 : w1.rangeAt st (1 + c * 4 + 1) (reG s.e s.yes).toList := fun j u hu => hE1.cell (hsr j u hu)
  clear hfin hE hsr
  go_wp2_with (first | (refine wpList_load_mid (by rfl) 74 (.tmp 60) (by rfl) st (1 + c * 4 + 1) (by rfl) (reG s.e s.yes).toList _ hsr1 Tryz.underlying74 rfl (by rw [reg_len]; exact info_reply) ?_) | fail)
  refine (st_twin w1 s.e s.yes).mono ?_
  rintro e w2 ⟨rfl, hE2⟩
  replace hEw := hEw.trans hE2
  have hR2 := Lib.hid (hE2.row hR1.out)
  clear hR1 hsr1 d0 k0 hE1 hE2
  go_wp2_with (first | (refine wpList_store_row (by rfl) 74 (.tmp 8) (.tmp 62) (by rfl) (w.heap.size + 1) (reG s.e s.yes) (by rfl) (by rfl) 74 zRe hR2.out (by exact info_reply) (by rfl) (reG_one _ _) ?_) | fail)
  have hset : (w2.setRow (w.heap.size + 1) (reG s.e s.yes)).heap[w.heap.size + 1]? = some (.cells (reG s.e s.yes) 74 (0, 0)) := by rw [setRow_heap _ _ _ _ _ _ hR2.out]
  have hEf : Ext w (w2.setRow (w.heap.size + 1) (reG s.e s.yes)) := hEw.setRow (by omega) _
  generalize w2.setRow (w.heap.size + 1) (reG s.e s.yes) = Wf at *
  obtain ⟨b0, b1, b2⟩ := re_cells hset
  exact bodyPost_ret (v := .tuple #[.agg (reG s.e s.yes), .int .i64 10]) (by simp [results, Tryz.results30, go_sem, b0, b1, b2, reG]) rfl (hfin'.out Wf hEf)
/-- What may not be asked. -/
def badA (c n : Nat) (x : Ak) : Prop := c < 1 ∨ 8 < c ∨ n = 0 ∨ x.okB = false
theorem do_arg1 {w0 w : World} {st mb : Nat} {m : Md} (hS : StM w0 w st mb m) (c n : Nat) (x : Ak) (a : Option Addr) (cap : Nat) (h : ChsAt w x.chs a cap) (hs : x.small) (_ : c < 1) :
    Calls Tryz.prog 30 #[.pointer (some ⟨st, 0, none⟩), .int .u8 (c : Int), .int .u32 (n : Int), .agg (x.row (.slice a x.chs.length cap))] w (DoE w0 w st mb 0 false [] 1 m) := by
  obtain ⟨W, hW⟩ : ∃ W, W = (w.alloc (.cells (x.row (.slice a x.chs.length cap)) 66)).alloc (.cells zRe 74) := ⟨_, rfl⟩
  have hE : Ext w W := by rw [hW]; exact ((Ext.refl _).alloc _).alloc _
  have hX : W.heap[w.heap.size]? = some (.cells (x.row (.slice a x.chs.length cap)) 66 (0, 0)) := by rw [hW]; exact ((Ext.refl _).alloc _).row (heap_alloc_new w _)
  have hR : W.heap[w.heap.size + 1]? = some (.cells zRe 74 (0, 0)) := by
    have h1 := heap_alloc_new (w.alloc (.cells (x.row (.slice a x.chs.length cap)) 66)) (.cells zRe 74)
    rw [show (w.alloc (.cells (x.row (.slice a x.chs.length cap)) 66)).heap.size = w.heap.size + 1 by simp] at h1
    rw [hW]; exact h1
  have hrg := ask_rng hX
  obtain ⟨rs, hX0, _⟩ := id hS
  obtain ⟨_, _, _, _, _, hst, _⟩ := (hS.ext hE).at
  have hth := st_there (hX0.ext hE)
  have hR' := Lib.hid hR
  have hW' := Lib.hid hW
  have hch := Lib.hid (check_any W x a cap (h.ext hE) hs)
  have hS' := Lib.hid hS
  clear hW hX hst hX0 hR hS
  have i1 : (c : Int) < 1 := by omega
  unfold Ak.row zRe at hW'
  unfold Ak.row at hrg
  unfold Ak.row
  go_enter Tryz.func30, Tryz.ntmps30
  go_upto_region 1 with fail
  rw [← hW'.out]
  clear hW'
  go_wp2_with fail
  refine hth.mono ?_
  rintro e w' ⟨rfl, rfl⟩
  clear hth
  have hEw := hE
  clear hrg hch
  have hfin : ∀ Wf, Ext w Wf → DoE w0 w st mb 0 false [] 1 m (.returned (.tuple #[.agg zRe, .int .i64 1])) Wf := fun Wf he => do_none hS'.out he 0 false 1
  have hfin' := Lib.hid hfin
  clear hfin
  go_wp2_with (first | (refine wpList_store_row (by rfl) 74 (.tmp 8) (.tmp 34) (by rfl) (w.heap.size + 1) zRe (by rfl) (by rfl) 74 zRe hR'.out (by exact info_reply) (by rfl) zRe_one ?_) | fail)
  have hset : (W.setRow (w.heap.size + 1) zRe).heap[w.heap.size + 1]? = some (.cells zRe 74 (0, 0)) := by rw [setRow_heap _ _ _ _ _ _ hR'.out]
  have hEf : Ext w (W.setRow (w.heap.size + 1) zRe) := hEw.setRow (by omega) _
  generalize W.setRow (w.heap.size + 1) zRe = Wf at *
  obtain ⟨b0, b1, b2⟩ := re_cells hset
  exact bodyPost_ret (v := .tuple #[.agg zRe, .int .i64 1]) (by simp [results, Tryz.results30, go_sem, b0, b1, b2, zRe]) rfl (hfin'.out Wf hEf)
theorem do_arg2 {w0 w : World} {st mb : Nat} {m : Md} (hS : StM w0 w st mb m) (c n : Nat) (x : Ak) (a : Option Addr) (cap : Nat) (h : ChsAt w x.chs a cap) (hs : x.small) (_h1 : ¬ c < 1) (h2 : 8 < c) :
    Calls Tryz.prog 30 #[.pointer (some ⟨st, 0, none⟩), .int .u8 (c : Int), .int .u32 (n : Int), .agg (x.row (.slice a x.chs.length cap))] w (DoE w0 w st mb 0 false [] 1 m) := by
  obtain ⟨W, hW⟩ : ∃ W, W = (w.alloc (.cells (x.row (.slice a x.chs.length cap)) 66)).alloc (.cells zRe 74) := ⟨_, rfl⟩
  have hE : Ext w W := by rw [hW]; exact ((Ext.refl _).alloc _).alloc _
  have hX : W.heap[w.heap.size]? = some (.cells (x.row (.slice a x.chs.length cap)) 66 (0, 0)) := by rw [hW]; exact ((Ext.refl _).alloc _).row (heap_alloc_new w _)
  have hR : W.heap[w.heap.size + 1]? = some (.cells zRe 74 (0, 0)) := by
    have h1 := heap_alloc_new (w.alloc (.cells (x.row (.slice a x.chs.length cap)) 66)) (.cells zRe 74)
    rw [show (w.alloc (.cells (x.row (.slice a x.chs.length cap)) 66)).heap.size = w.heap.size + 1 by simp] at h1
    rw [hW]; exact h1
  have hrg := ask_rng hX
  obtain ⟨rs, hX0, _⟩ := id hS
  obtain ⟨_, _, _, _, _, hst, _⟩ := (hS.ext hE).at
  have hth := st_there (hX0.ext hE)
  have hR' := Lib.hid hR
  have hW' := Lib.hid hW
  have hch := Lib.hid (check_any W x a cap (h.ext hE) hs)
  have hS' := Lib.hid hS
  clear hW hX hst hX0 hR hS
  have i1 : ¬ (c : Int) < 1 := by omega
  have i2 : (8 : Int) < (c : Int) := by omega
  unfold Ak.row zRe at hW'
  unfold Ak.row at hrg
  unfold Ak.row
  go_enter Tryz.func30, Tryz.ntmps30
  go_upto_region 1 with fail
  rw [← hW'.out]
  clear hW'
  go_wp2_with fail
  refine hth.mono ?_
  rintro e w' ⟨rfl, rfl⟩
  clear hth
  have hEw := hE
  clear hrg hch
  have hfin : ∀ Wf, Ext w Wf → DoE w0 w st mb 0 false [] 1 m (.returned (.tuple #[.agg zRe, .int .i64 1])) Wf := fun Wf he => do_none hS'.out he 0 false 1
  have hfin' := Lib.hid hfin
  clear hfin
  go_wp2_with (first | (refine wpList_store_row (by rfl) 74 (.tmp 8) (.tmp 34) (by rfl) (w.heap.size + 1) zRe (by rfl) (by rfl) 74 zRe hR'.out (by exact info_reply) (by rfl) zRe_one ?_) | fail)
  have hset : (W.setRow (w.heap.size + 1) zRe).heap[w.heap.size + 1]? = some (.cells zRe 74 (0, 0)) := by rw [setRow_heap _ _ _ _ _ _ hR'.out]
  have hEf : Ext w (W.setRow (w.heap.size + 1) zRe) := hEw.setRow (by omega) _
  generalize W.setRow (w.heap.size + 1) zRe = Wf at *
  obtain ⟨b0, b1, b2⟩ := re_cells hset
  exact bodyPost_ret (v := .tuple #[.agg zRe, .int .i64 1]) (by simp [results, Tryz.results30, go_sem, b0, b1, b2, zRe]) rfl (hfin'.out Wf hEf)
theorem do_arg3 {w0 w : World} {st mb : Nat} {m : Md} (hS : StM w0 w st mb m) (c n : Nat) (x : Ak) (a : Option Addr) (cap : Nat) (h : ChsAt w x.chs a cap) (hs : x.small) (h1 : ¬ c < 1) (h2 : ¬ 8 < c) (hn : n = 0) :
    Calls Tryz.prog 30 #[.pointer (some ⟨st, 0, none⟩), .int .u8 (c : Int), .int .u32 (n : Int), .agg (x.row (.slice a x.chs.length cap))] w (DoE w0 w st mb 0 false [] 1 m) := by
  obtain ⟨W, hW⟩ : ∃ W, W = (w.alloc (.cells (x.row (.slice a x.chs.length cap)) 66)).alloc (.cells zRe 74) := ⟨_, rfl⟩
  have hE : Ext w W := by rw [hW]; exact ((Ext.refl _).alloc _).alloc _
  have hX : W.heap[w.heap.size]? = some (.cells (x.row (.slice a x.chs.length cap)) 66 (0, 0)) := by rw [hW]; exact ((Ext.refl _).alloc _).row (heap_alloc_new w _)
  have hR : W.heap[w.heap.size + 1]? = some (.cells zRe 74 (0, 0)) := by
    have h1 := heap_alloc_new (w.alloc (.cells (x.row (.slice a x.chs.length cap)) 66)) (.cells zRe 74)
    rw [show (w.alloc (.cells (x.row (.slice a x.chs.length cap)) 66)).heap.size = w.heap.size + 1 by simp] at h1
    rw [hW]; exact h1
  have hrg := ask_rng hX
  obtain ⟨rs, hX0, _⟩ := id hS
  obtain ⟨_, _, _, _, _, hst, _⟩ := (hS.ext hE).at
  have hth := st_there (hX0.ext hE)
  have hR' := Lib.hid hR
  have hW' := Lib.hid hW
  have hch := Lib.hid (check_any W x a cap (h.ext hE) hs)
  have hS' := Lib.hid hS
  clear hW hX hst hX0 hR hS
  have i1 : ¬ (c : Int) < 1 := by omega
  have i2 : ¬ (8 : Int) < (c : Int) := by omega
  have i3 : (n : Int) = 0 := by omega
  clear hn
  unfold Ak.row zRe at hW'
  unfold Ak.row at hrg
  unfold Ak.row
  go_enter Tryz.func30, Tryz.ntmps30
  go_upto_region 1 with fail
  rw [← hW'.out]
  clear hW'
  go_wp2_with fail
  refine hth.mono ?_
  rintro e w' ⟨rfl, rfl⟩
  clear hth
  have hEw := hE
  clear hrg hch
  have hfin : ∀ Wf, Ext w Wf → DoE w0 w st mb 0 false [] 1 m (.returned (.tuple #[.agg zRe, .int .i64 1])) Wf := fun Wf he => do_none hS'.out he 0 false 1
  have hfin' := Lib.hid hfin
  clear hfin
  go_wp2_with (first | (refine wpList_store_row (by rfl) 74 (.tmp 8) (.tmp 34) (by rfl) (w.heap.size + 1) zRe (by rfl) (by rfl) 74 zRe hR'.out (by exact info_reply) (by rfl) zRe_one ?_) | fail)
  have hset : (W.setRow (w.heap.size + 1) zRe).heap[w.heap.size + 1]? = some (.cells zRe 74 (0, 0)) := by rw [setRow_heap _ _ _ _ _ _ hR'.out]
  have hEf : Ext w (W.setRow (w.heap.size + 1) zRe) := hEw.setRow (by omega) _
  generalize W.setRow (w.heap.size + 1) zRe = Wf at *
  obtain ⟨b0, b1, b2⟩ := re_cells hset
  exact bodyPost_ret (v := .tuple #[.agg zRe, .int .i64 1]) (by simp [results, Tryz.results30, go_sem, b0, b1, b2, zRe]) rfl (hfin'.out Wf hEf)
theorem do_arg4 {w0 w : World} {st mb : Nat} {m : Md} (hS : StM w0 w st mb m) (c n : Nat) (x : Ak) (a : Option Addr) (cap : Nat) (h : ChsAt w x.chs a cap) (hs : x.small) (h1 : 1 ≤ c) (h8 : c ≤ 8) (hn : n ≠ 0) (hok : x.okB = false) :
    Calls Tryz.prog 30 #[.pointer (some ⟨st, 0, none⟩), .int .u8 (c : Int), .int .u32 (n : Int), .agg (x.row (.slice a x.chs.length cap))] w (DoE w0 w st mb 0 false [] 1 m) := by
  obtain ⟨W, hW⟩ : ∃ W, W = (w.alloc (.cells (x.row (.slice a x.chs.length cap)) 66)).alloc (.cells zRe 74) := ⟨_, rfl⟩
  have hE : Ext w W := by rw [hW]; exact ((Ext.refl _).alloc _).alloc _
  have hX : W.heap[w.heap.size]? = some (.cells (x.row (.slice a x.chs.length cap)) 66 (0, 0)) := by rw [hW]; exact ((Ext.refl _).alloc _).row (heap_alloc_new w _)
  have hR : W.heap[w.heap.size + 1]? = some (.cells zRe 74 (0, 0)) := by
    have h1 := heap_alloc_new (w.alloc (.cells (x.row (.slice a x.chs.length cap)) 66)) (.cells zRe 74)
    rw [show (w.alloc (.cells (x.row (.slice a x.chs.length cap)) 66)).heap.size = w.heap.size + 1 by simp] at h1
    rw [hW]; exact h1
  have hrg := ask_rng hX
  obtain ⟨k0, _⟩ := askc hX
  obtain ⟨rs, hX0, _⟩ := id hS
  obtain ⟨_, _, _, _, _, hst, _⟩ := (hS.ext hE).at
  have hth := st_there (hX0.ext hE)
  have hR' := Lib.hid hR
  have hW' := Lib.hid hW
  have hok' := Lib.hid hok
  have hch := Lib.hid (check_any W x a cap (h.ext hE) hs)
  have hS' := Lib.hid hS
  clear hW hX hst hX0 hR hS
  have i1 : ¬ (c : Int) < 1 := by omega
  have i2 : ¬ (8 : Int) < (c : Int) := by omega
  have i3 : ¬ (n : Int) = 0 := by omega
  clear hok
  unfold Ak.row zRe at hW'
  unfold Ak.row at hrg
  unfold Ak.row
  go_enter Tryz.func30, Tryz.ntmps30
  go_upto_region 1 with fail
  rw [← hW'.out]
  clear hW'
  go_wp2_with fail
  refine hth.mono ?_
  rintro e w' ⟨rfl, rfl⟩
  clear hth
  go_wp2_with (first | (refine wpList_load_mid_on (by rfl) 66 (.tmp 7) (by rfl) w.heap.size 0 (by rfl) (x.row (.slice a x.chs.length cap)).toList _ hrg Tryz.underlying66 rfl (by rw [ask_ln]; exact ask_inf) ?_) | fail)
  refine hch.out.mono ?_
  rw [hok'.out]
  rintro e w1 ⟨rfl, hE1⟩
  have hEw := hE.trans hE1
  have hR1 := Lib.hid (hE1.row hR'.out)
  clear hrg hch
  have hfin : ∀ Wf, Ext w Wf → DoE w0 w st mb 0 false [] 1 m (.returned (.tuple #[.agg zRe, .int .i64 1])) Wf := fun Wf he => do_none hS'.out he 0 false 1
  have hfin' := Lib.hid hfin
  clear hfin
  go_wp2_with (first | (refine wpList_store_row (by rfl) 74 (.tmp 8) (.tmp 34) (by rfl) (w.heap.size + 1) zRe (by rfl) (by rfl) 74 zRe hR1.out (by exact info_reply) (by rfl) zRe_one ?_) | fail)
  have hset : (w1.setRow (w.heap.size + 1) zRe).heap[w.heap.size + 1]? = some (.cells zRe 74 (0, 0)) := by rw [setRow_heap _ _ _ _ _ _ hR1.out]
  have hEf : Ext w (w1.setRow (w.heap.size + 1) zRe) := hEw.setRow (by omega) _
  generalize w1.setRow (w.heap.size + 1) zRe = Wf at *
  obtain ⟨b0, b1, b2⟩ := re_cells hset
  exact bodyPost_ret (v := .tuple #[.agg zRe, .int .i64 1]) (by simp [results, Tryz.results30, go_sem, b0, b1, b2, zRe]) rfl (hfin'.out Wf hEf)
theorem do_arg {w0 w : World} {st mb : Nat} {m : Md} (hS : StM w0 w st mb m) (c n : Nat) (x : Ak) (a : Option Addr) (cap : Nat) (h : ChsAt w x.chs a cap) (hs : x.small) (hb : badA c n x) :
    Calls Tryz.prog 30 #[.pointer (some ⟨st, 0, none⟩), .int .u8 (c : Int), .int .u32 (n : Int), .agg (x.row (.slice a x.chs.length cap))] w (DoE w0 w st mb 0 false [] 1 m) := by
  by_cases h1 : c < 1
  · exact do_arg1 hS c n x a cap h hs h1
  by_cases h2 : 8 < c
  · exact do_arg2 hS c n x a cap h hs h1 h2
  by_cases h3 : n = 0
  · exact do_arg3 hS c n x a cap h hs h1 h2 h3
  rcases hb with hb | hb | hb | hb
  · exact absurd hb h1
  · exact absurd hb h2
  · exact absurd hb h3
  · exact do_arg4 hS c n x a cap h hs (by omega) (by omega) h3 hb
end Go.Proofs.YthageoibkeebhaaGreatDoor
