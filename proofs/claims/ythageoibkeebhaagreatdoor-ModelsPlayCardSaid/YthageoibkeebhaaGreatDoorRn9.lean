/- The document's Do: what is refused, what was said before. (Printed by mkrn9.py.) No condition. -/
import Derived.Test.YthageoibkeebhaaGreatDoorGrRa
import Derived.Test.YthageoibkeebhaaGreatDoorRn4
import Derived.Test.YthageoibkeebhaaGreatDoorGrK
import Derived.Test.YthageoibkeebhaaGreatDoorGrP
namespace Go.Proofs.YthageoibkeebhaaGreatDoor
open Go.RowKit
set_option maxRecDepth 100000
set_option maxHeartbeats 4000000
/-- What the document's Do is answered. -/
def RDoE (base : Nat) (w : World) (st : Nat) (r : An) (e : Ending) (w' : World) : Prop := ∃ a cap, e = .returned (.tuple #[.agg (reH r.e r.yes (.slice a r.rows.length cap)), .int .i64 r.err]) ∧ OwnC w' w.heap.size 84 2 (.slice a r.rows.length cap) r.rows.length (r.rows.flatMap rwL) ∧ Below base w w' ∧ OffB (fun k => k = st) w w' ∧ RefX base w' st r.m.rows ((saidL r.m.sd).map toSa)
theorem RefX.at {base st : Nat} {w : World} {rows : List Rw} {sq : List Sa} (h : RefX base w st rows sq) : base ≤ st ∧ st < w.heap.size := by
  obtain ⟨sd, h, _⟩ := h
  exact h.at
theorem rdo_none {base st : Nat} {w w' : World} {m : Md} (h : RefX base w st m.rows ((saidL m.sd).map toSa)) (hE : Ext w w') (err : Int) : RDoE base w st ⟨0, false, [], err, m⟩ (.returned (.tuple #[.agg zRe, .int .i64 err])) w' :=
  ⟨none, 0, rfl, OwnC.nil _ _ _ _, hE.mono (by have := h.at; omega), .of_ext hE, h.ext hE⟩
theorem sdb_at {sd : List Sa} {S : List (Sv × Nat)} (h : sd.map Sa.bare = S.map toSa) {k : Nat} {y : Sv × Nat} (hy : S[k]? = some y) : ∃ z, sd[k]? = some z ∧ z.cl = y.2 ∧ z.num = y.1.num ∧ z.e = y.1.e ∧ z.yes = y.1.yes ∧ z.rows = [] := by
  have h1 : (sd.map Sa.bare)[k]? = some (toSa y) := by rw [h, List.getElem?_map, hy]; rfl
  rw [List.getElem?_map] at h1
  cases hz : sd[k]? with
  | none => rw [hz] at h1; cases h1
  | some z =>
    rw [hz] at h1
    injection h1 with h1
    unfold Sa.bare toSa at h1
    injection h1 with a b c d e _
    exact ⟨z, rfl, a, b, c, d, e⟩
theorem toSa_bare (l : List (Sv × Nat)) : (l.map toSa).map Sa.bare = l.map toSa := by rw [List.map_map]; rfl
/-- An entry of a client's is the one that is kept of it. -/
theorem said_num {m : Md} {p : Sv × Nat} (h : p ∈ saidL m.sd) : m.sd[p.2]? = some p.1 ∧ 0 < p.1.num ∧ m.num p.2 = p.1.num ∧ m.sv p.2 = p.1 := by
  obtain ⟨h1, h2⟩ := said_mem.1 (show (p.1, p.2) ∈ saidL m.sd from h)
  refine ⟨h1, h2, Md.num_at h1, ?_⟩
  unfold Md.sv
  rw [List.getD_eq_getElem?_getD, h1]; rfl
theorem doR_low {m : Md} {base st : Nat} {w : World} (hx0 : RefX base w st m.rows ((saidL m.sd).map toSa)) (c n : Nat) (x : Ak) (a : Option Addr) (cap : Nat) (hch : ChsAt w x.chs a cap) (hs : x.small) (hb : c < 1) : Calls Tryz.prog 31 #[.pointer (some ⟨st, 0, none⟩), .int .u8 (c : Int), .int .u32 (n : Int), .agg (x.row (.slice a x.chs.length cap))] w (RDoE base w st ⟨0, false, [], 1, m⟩) := by
  have hX' := Lib.hid hx0
  obtain ⟨sd, h, hsd0⟩ := hx0
  have hsd := Lib.hid hsd0
  clear hsd0
  obtain ⟨V, hV⟩ : ∃ W, W = (w.alloc (.cells (x.row (.slice a x.chs.length cap)) 66)).alloc (.cells zRe 74) := ⟨_, rfl⟩
  have hE0 : Ext w V := by rw [hV]; exact ((Ext.refl _).alloc _).alloc _
  have hVs : w.heap.size + 2 ≤ V.heap.size := by rw [hV]; simp
  have hVx : Hid (V.heap[w.heap.size]? = some (.cells (x.row (.slice a x.chs.length cap)) 66 (0, 0))) := Lib.hid (by rw [hV]; exact ((Ext.refl _).alloc _).row (heap_alloc_new w _))
  have hVr : Hid (V.heap[w.heap.size + 1]? = some (.cells zRe 74 (0, 0))) := Lib.hid (by
    have h1 := heap_alloc_new (w.alloc (.cells (x.row (.slice a x.chs.length cap)) 66)) (.cells zRe 74)
    rw [show (w.alloc (.cells (x.row (.slice a x.chs.length cap)) 66)).heap.size = w.heap.size + 1 by simp] at h1
    rw [hV]; exact h1)
  have hck := Lib.hid (checkR_any V x a cap (hch.ext hE0) hs)
  have hch' := Lib.hid hch
  obtain ⟨N, hN⟩ : ∃ N, N = x.chs.length := ⟨_, rfl⟩
  rw [← hN] at hck hVx hV ⊢
  have hN' := Lib.hid hN
  have hrg := ask_rng hVx.out
  have h' := Lib.hid h
  have hV' := Lib.hid hV
  clear h hV hN hch
  have i1 : (c : Int) < 1 := by omega
  unfold Ak.row zRe at hV'
  unfold Ak.row at hrg
  unfold Ak.row
  go_enter Tryz.func31, Tryz.ntmps31
  go_upto_region 1 with fail
  rw [← hV'.out]
  clear hV'
  clear hrg
  have hR1 := (Ext.refl V).row hVr.out
  go_wp2_with (first | (refine wpList_store_row (by rfl) 74 (.tmp 8) (.tmp 31) (by rfl) (w.heap.size + 1) zRe (by rfl) (by rfl) 74 zRe hR1 (by exact info_reply) (by rfl) zRe_one ?_) | fail)
  have hset : (V.setRow (w.heap.size + 1) zRe).heap[w.heap.size + 1]? = some (.cells zRe 74 (0, 0)) := by rw [setRow_heap _ _ _ _ _ _ hR1]
  have hEf : Ext w (V.setRow (w.heap.size + 1) zRe) := (hE0.trans (Ext.refl V)).setRow (by omega) _
  generalize V.setRow (w.heap.size + 1) zRe = Wf at *
  obtain ⟨b0, b1, b2⟩ := re_cells hset
  exact bodyPost_ret (v := .tuple #[.agg zRe, .int .i64 1]) (by simp [results, Tryz.results31, go_sem, b0, b1, b2, zRe]) rfl (rdo_none hX'.out hEf 1)
theorem doR_high {m : Md} {base st : Nat} {w : World} (hx0 : RefX base w st m.rows ((saidL m.sd).map toSa)) (c n : Nat) (x : Ak) (a : Option Addr) (cap : Nat) (hch : ChsAt w x.chs a cap) (hs : x.small) (_h1 : 1 ≤ c) (hb : 8 < c) : Calls Tryz.prog 31 #[.pointer (some ⟨st, 0, none⟩), .int .u8 (c : Int), .int .u32 (n : Int), .agg (x.row (.slice a x.chs.length cap))] w (RDoE base w st ⟨0, false, [], 1, m⟩) := by
  have hX' := Lib.hid hx0
  obtain ⟨sd, h, hsd0⟩ := hx0
  have hsd := Lib.hid hsd0
  clear hsd0
  obtain ⟨V, hV⟩ : ∃ W, W = (w.alloc (.cells (x.row (.slice a x.chs.length cap)) 66)).alloc (.cells zRe 74) := ⟨_, rfl⟩
  have hE0 : Ext w V := by rw [hV]; exact ((Ext.refl _).alloc _).alloc _
  have hVs : w.heap.size + 2 ≤ V.heap.size := by rw [hV]; simp
  have hVx : Hid (V.heap[w.heap.size]? = some (.cells (x.row (.slice a x.chs.length cap)) 66 (0, 0))) := Lib.hid (by rw [hV]; exact ((Ext.refl _).alloc _).row (heap_alloc_new w _))
  have hVr : Hid (V.heap[w.heap.size + 1]? = some (.cells zRe 74 (0, 0))) := Lib.hid (by
    have h1 := heap_alloc_new (w.alloc (.cells (x.row (.slice a x.chs.length cap)) 66)) (.cells zRe 74)
    rw [show (w.alloc (.cells (x.row (.slice a x.chs.length cap)) 66)).heap.size = w.heap.size + 1 by simp] at h1
    rw [hV]; exact h1)
  have hck := Lib.hid (checkR_any V x a cap (hch.ext hE0) hs)
  have hch' := Lib.hid hch
  obtain ⟨N, hN⟩ : ∃ N, N = x.chs.length := ⟨_, rfl⟩
  rw [← hN] at hck hVx hV ⊢
  have hN' := Lib.hid hN
  have hrg := ask_rng hVx.out
  have h' := Lib.hid h
  have hV' := Lib.hid hV
  clear h hV hN hch
  have i1 : ¬ (c : Int) < 1 := by omega
  have i2 : (8 : Int) < (c : Int) := by omega
  unfold Ak.row zRe at hV'
  unfold Ak.row at hrg
  unfold Ak.row
  go_enter Tryz.func31, Tryz.ntmps31
  go_upto_region 1 with fail
  rw [← hV'.out]
  clear hV'
  clear hrg
  have hR1 := (Ext.refl V).row hVr.out
  go_wp2_with (first | (refine wpList_store_row (by rfl) 74 (.tmp 8) (.tmp 31) (by rfl) (w.heap.size + 1) zRe (by rfl) (by rfl) 74 zRe hR1 (by exact info_reply) (by rfl) zRe_one ?_) | fail)
  have hset : (V.setRow (w.heap.size + 1) zRe).heap[w.heap.size + 1]? = some (.cells zRe 74 (0, 0)) := by rw [setRow_heap _ _ _ _ _ _ hR1]
  have hEf : Ext w (V.setRow (w.heap.size + 1) zRe) := (hE0.trans (Ext.refl V)).setRow (by omega) _
  generalize V.setRow (w.heap.size + 1) zRe = Wf at *
  obtain ⟨b0, b1, b2⟩ := re_cells hset
  exact bodyPost_ret (v := .tuple #[.agg zRe, .int .i64 1]) (by simp [results, Tryz.results31, go_sem, b0, b1, b2, zRe]) rfl (rdo_none hX'.out hEf 1)
theorem doR_zero {m : Md} {base st : Nat} {w : World} (hx0 : RefX base w st m.rows ((saidL m.sd).map toSa)) (c n : Nat) (x : Ak) (a : Option Addr) (cap : Nat) (hch : ChsAt w x.chs a cap) (hs : x.small) (h1 : 1 ≤ c) (h8 : c ≤ 8) (hb : n = 0) : Calls Tryz.prog 31 #[.pointer (some ⟨st, 0, none⟩), .int .u8 (c : Int), .int .u32 (n : Int), .agg (x.row (.slice a x.chs.length cap))] w (RDoE base w st ⟨0, false, [], 1, m⟩) := by
  have hX' := Lib.hid hx0
  obtain ⟨sd, h, hsd0⟩ := hx0
  have hsd := Lib.hid hsd0
  clear hsd0
  obtain ⟨V, hV⟩ : ∃ W, W = (w.alloc (.cells (x.row (.slice a x.chs.length cap)) 66)).alloc (.cells zRe 74) := ⟨_, rfl⟩
  have hE0 : Ext w V := by rw [hV]; exact ((Ext.refl _).alloc _).alloc _
  have hVs : w.heap.size + 2 ≤ V.heap.size := by rw [hV]; simp
  have hVx : Hid (V.heap[w.heap.size]? = some (.cells (x.row (.slice a x.chs.length cap)) 66 (0, 0))) := Lib.hid (by rw [hV]; exact ((Ext.refl _).alloc _).row (heap_alloc_new w _))
  have hVr : Hid (V.heap[w.heap.size + 1]? = some (.cells zRe 74 (0, 0))) := Lib.hid (by
    have h1 := heap_alloc_new (w.alloc (.cells (x.row (.slice a x.chs.length cap)) 66)) (.cells zRe 74)
    rw [show (w.alloc (.cells (x.row (.slice a x.chs.length cap)) 66)).heap.size = w.heap.size + 1 by simp] at h1
    rw [hV]; exact h1)
  have hck := Lib.hid (checkR_any V x a cap (hch.ext hE0) hs)
  have hch' := Lib.hid hch
  obtain ⟨N, hN⟩ : ∃ N, N = x.chs.length := ⟨_, rfl⟩
  rw [← hN] at hck hVx hV ⊢
  have hN' := Lib.hid hN
  have hrg := ask_rng hVx.out
  have h' := Lib.hid h
  have hV' := Lib.hid hV
  clear h hV hN hch
  have i1 : ¬ (c : Int) < 1 := by omega
  have i2 : ¬ (8 : Int) < (c : Int) := by omega
  have i3 : (n : Int) = 0 := by omega
  unfold Ak.row zRe at hV'
  unfold Ak.row at hrg
  unfold Ak.row
  go_enter Tryz.func31, Tryz.ntmps31
  go_upto_region 1 with fail
  rw [← hV'.out]
  clear hV'
  clear hrg
  have hR1 := (Ext.refl V).row hVr.out
  go_wp2_with (first | (refine wpList_store_row (by rfl) 74 (.tmp 8) (.tmp 31) (by rfl) (w.heap.size + 1) zRe (by rfl) (by rfl) 74 zRe hR1 (by exact info_reply) (by rfl) zRe_one ?_) | fail)
  have hset : (V.setRow (w.heap.size + 1) zRe).heap[w.heap.size + 1]? = some (.cells zRe 74 (0, 0)) := by rw [setRow_heap _ _ _ _ _ _ hR1]
  have hEf : Ext w (V.setRow (w.heap.size + 1) zRe) := (hE0.trans (Ext.refl V)).setRow (by omega) _
  generalize V.setRow (w.heap.size + 1) zRe = Wf at *
  obtain ⟨b0, b1, b2⟩ := re_cells hset
  exact bodyPost_ret (v := .tuple #[.agg zRe, .int .i64 1]) (by simp [results, Tryz.results31, go_sem, b0, b1, b2, zRe]) rfl (rdo_none hX'.out hEf 1)
theorem doR_refused {m : Md} {base st : Nat} {w : World} (hx0 : RefX base w st m.rows ((saidL m.sd).map toSa)) (c n : Nat) (x : Ak) (a : Option Addr) (cap : Nat) (hch : ChsAt w x.chs a cap) (hs : x.small) (h1 : 1 ≤ c) (h8 : c ≤ 8) (hn : n ≠ 0) (hok : x.okB = false) : Calls Tryz.prog 31 #[.pointer (some ⟨st, 0, none⟩), .int .u8 (c : Int), .int .u32 (n : Int), .agg (x.row (.slice a x.chs.length cap))] w (RDoE base w st ⟨0, false, [], 1, m⟩) := by
  have hX' := Lib.hid hx0
  obtain ⟨sd, h, hsd0⟩ := hx0
  have hsd := Lib.hid hsd0
  clear hsd0
  obtain ⟨V, hV⟩ : ∃ W, W = (w.alloc (.cells (x.row (.slice a x.chs.length cap)) 66)).alloc (.cells zRe 74) := ⟨_, rfl⟩
  have hE0 : Ext w V := by rw [hV]; exact ((Ext.refl _).alloc _).alloc _
  have hVs : w.heap.size + 2 ≤ V.heap.size := by rw [hV]; simp
  have hVx : Hid (V.heap[w.heap.size]? = some (.cells (x.row (.slice a x.chs.length cap)) 66 (0, 0))) := Lib.hid (by rw [hV]; exact ((Ext.refl _).alloc _).row (heap_alloc_new w _))
  have hVr : Hid (V.heap[w.heap.size + 1]? = some (.cells zRe 74 (0, 0))) := Lib.hid (by
    have h1 := heap_alloc_new (w.alloc (.cells (x.row (.slice a x.chs.length cap)) 66)) (.cells zRe 74)
    rw [show (w.alloc (.cells (x.row (.slice a x.chs.length cap)) 66)).heap.size = w.heap.size + 1 by simp] at h1
    rw [hV]; exact h1)
  have hck := Lib.hid (checkR_any V x a cap (hch.ext hE0) hs)
  have hch' := Lib.hid hch
  obtain ⟨N, hN⟩ : ∃ N, N = x.chs.length := ⟨_, rfl⟩
  rw [← hN] at hck hVx hV ⊢
  have hN' := Lib.hid hN
  have hrg := ask_rng hVx.out
  have h' := Lib.hid h
  have hV' := Lib.hid hV
  clear h hV hN hch
  have i1 : ¬ (c : Int) < 1 := by omega
  have i2 : ¬ (8 : Int) < (c : Int) := by omega
  have i3 : ¬ (n : Int) = 0 := by omega
  have hok' := Lib.hid hok
  clear hok
  unfold Ak.row zRe at hV'
  unfold Ak.row at hrg
  unfold Ak.row
  go_enter Tryz.func31, Tryz.ntmps31
  go_upto_region 1 with fail
  rw [← hV'.out]
  clear hV'
  go_wp2_with (first | (refine wpList_load_mid_on (by rfl) 66 (.tmp 7) (by rfl) w.heap.size 0 (by rfl) (x.row (.slice a N cap)).toList _ hrg Tryz.underlying66 rfl (by rw [ask_ln]; exact ask_inf) ?_) | fail)
  refine hck.out.mono ?_
  rw [hok'.out]
  rintro e w1 ⟨rfl, hE1⟩
  clear hrg hck
  have hR1 := hE1.row hVr.out
  go_wp2_with (first | (refine wpList_store_row (by rfl) 74 (.tmp 8) (.tmp 31) (by rfl) (w.heap.size + 1) zRe (by rfl) (by rfl) 74 zRe hR1 (by exact info_reply) (by rfl) zRe_one ?_) | fail)
  have hset : (w1.setRow (w.heap.size + 1) zRe).heap[w.heap.size + 1]? = some (.cells zRe 74 (0, 0)) := by rw [setRow_heap _ _ _ _ _ _ hR1]
  have hEf : Ext w (w1.setRow (w.heap.size + 1) zRe) := (hE0.trans hE1).setRow (by omega) _
  generalize w1.setRow (w.heap.size + 1) zRe = Wf at *
  obtain ⟨b0, b1, b2⟩ := re_cells hset
  exact bodyPost_ret (v := .tuple #[.agg zRe, .int .i64 1]) (by simp [results, Tryz.results31, go_sem, b0, b1, b2, zRe]) rfl (rdo_none hX'.out hEf 1)
end Go.Proofs.YthageoibkeebhaaGreatDoor
