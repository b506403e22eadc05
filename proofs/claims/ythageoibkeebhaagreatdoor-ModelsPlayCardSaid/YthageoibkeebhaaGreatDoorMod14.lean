/- Do: what is refused, or was done. No condition. -/
import Derived.Test.YthageoibkeebhaaGreatDoorGrH
import Derived.Test.YthageoibkeebhaaGreatDoorGrF
namespace Go.Proofs.YthageoibkeebhaaGreatDoor
open Go.RowKit Go.Maps Go.WideMaps
set_option maxRecDepth 100000
set_option maxHeartbeats 2000000
/-- What Do tells: a reply (its rows in memory of the call's own, or none), an error; the state behind it. -/
def DoE (w0 w : World) (st mb : Nat) (E : Int) (yes : Bool) (l : List Rw) (err : Int) (m : Md) (e : Ending) (w' : World) : Prop :=
  ∃ a cap, e = .returned (.tuple #[.agg #[.int .i64 E, .bool yes, .slice a l.length cap], .int .i64 err]) ∧ (RowIs w' 2 (.slice a l.length cap) l.length (l.flatMap rwL) ∧ OwnC w' w.heap.size 84 2 (.slice a l.length cap) l.length (l.flatMap rwL)) ∧ Out (fun i => i < w.heap.size) (.slice a l.length cap) ∧ StM w0 w' st mb m ∧ OffB (fun i => i = st ∨ i = mb) w w'
theorem do_none {w0 w w' : World} {st mb : Nat} {m : Md} (hS : StM w0 w st mb m) (hE : Ext w w') (E : Int) (yes : Bool) (err : Int) : DoE w0 w st mb E yes [] err m (.returned (.tuple #[.agg #[.int .i64 E, .bool yes, .slice none 0 0], .int .i64 err])) w' :=
  ⟨none, 0, rfl, ⟨RowIs.nil _ _ _ _ (fun _ => rfl), OwnC.nil _ _ _ _⟩, Out.nil, hS.ext hE, .of_ext hE⟩
theorem sd_at {mb : Nat} {sd : List Sv} {c : Nat} {s : Sv} (h : sd[c]? = some s) {j : Nat} (hj : j < 4) : (stRow mb sd)[1 + c * 4 + j]? = (svc s)[j]? := by
  unfold stRow
  rw [List.getElem?_toArray, show 1 + c * 4 + j = (c * 4 + j) + 1 by omega, List.getElem?_cons_succ]
  exact flatMap_at svc 4 (by decide) (fun _ => rfl) sd c s h j hj _ rfl
theorem sd_cells {w : World} {st mb : Nat} {sd : List Sv} {c : Nat} {s : Sv} (hw : w.heap[st]? = some (.cells (stRow mb sd) 96 (0, 0))) (h : sd[c]? = some s) : w.cell? ⟨st, 1 + c * 4, none⟩ = some (.int .u32 (s.num : Int)) ∧ w.cell? ⟨st, 1 + c * 4 + 1, none⟩ = some (.int .i64 s.e) ∧ w.cell? ⟨st, 1 + c * 4 + 2, none⟩ = some (.bool s.yes) ∧ w.cell? ⟨st, 1 + c * 4 + 3, none⟩ = some (.slice none 0 0) := by
  refine ⟨?_, ?_, ?_, ?_⟩
  · rw [cell_of_row _ _ _ _ 96 (0, 0) hw]; exact sd_at h (j := 0) (by decide)
  · rw [cell_of_row _ _ _ _ 96 (0, 0) hw]; exact sd_at h (j := 1) (by decide)
  · rw [cell_of_row _ _ _ _ 96 (0, 0) hw]; exact sd_at h (j := 2) (by decide)
  · rw [cell_of_row _ _ _ _ 96 (0, 0) hw]; exact sd_at h (j := 3) (by decide)
theorem Md.num_at {m : Md} {c : Nat} {s : Sv} (h : m.sd[c]? = some s) : m.num c = s.num := by unfold Md.num; rw [List.getD_eq_getElem?_getD, h]; rfl
theorem do_old {w0 w : World} {st mb : Nat} {m : Md} (hS : StM w0 w st mb m) (c n : Nat) (x : Ak) (a : Option Addr) (cap : Nat) (h : ChsAt w x.chs a cap) (hs : x.small) (h1 : 1 ≤ c) (h8 : c ≤ 8) (hn : n ≠ 0) (hok : x.okB = true) (hle : n ≤ m.num c) (hk : ¬ (n = m.num c ∧ keptP x)) :
    Calls Tryz.prog 30 #[.pointer (some ⟨st, 0, none⟩), .int .u8 (c : Int), .int .u32 (n : Int), .agg (x.row (.slice a x.chs.length cap))] w (DoE w0 w st mb 0 false [] 10 m) := by
  obtain ⟨s, hsc⟩ : ∃ s, m.sd[c]? = some s := ⟨_, List.getElem?_eq_getElem (by rw [hS.len]; omega)⟩
  rw [Md.num_at hsc] at hle hk
  obtain ⟨W, hW⟩ : ∃ W, W = (w.alloc (.cells (x.row (.slice a x.chs.length cap)) 66)).alloc (.cells zRe 74) := ⟨_, rfl⟩
  have hE : Ext w W := by rw [hW]; exact ((Ext.refl _).alloc _).alloc _
  have hX : W.heap[w.heap.size]? = some (.cells (x.row (.slice a x.chs.length cap)) 66 (0, 0)) := by rw [hW]; exact ((Ext.refl _).alloc _).row (heap_alloc_new w _)
  have hR : W.heap[w.heap.size + 1]? = some (.cells zRe 74 (0, 0)) := by
    have h1 := heap_alloc_new (w.alloc (.cells (x.row (.slice a x.chs.length cap)) 66)) (.cells zRe 74)
    rw [show (w.alloc (.cells (x.row (.slice a x.chs.length cap)) 66)).heap.size = w.heap.size + 1 by simp] at h1
    rw [hW]; exact h1
  have hrg := ask_rng hX
  obtain ⟨k0, _⟩ := askc hX
  obtain ⟨rs, hX0, _⟩ := id hS
  obtain ⟨_, _, _, _, _, hst, _⟩ := (hS.ext hE).at
  have hth := st_there (hX0.ext hE)
  obtain ⟨d0, _⟩ := sd_cells hst hsc
  have hsc' := Lib.hid hsc
  have hR' := Lib.hid hR
  have hW' := Lib.hid hW
  have hok' := Lib.hid hok
  have hch := Lib.hid (check_any W x a cap (h.ext hE) hs)
  have hS' := Lib.hid hS
  clear hW hX hst hX0 hR hok hsc hS
  have i1 : ¬ (c : Int) < 1 := by omega
  have i2 : ¬ (8 : Int) < (c : Int) := by omega
  have i3 : ¬ (n : Int) = 0 := by omega
  have i4 : (n : Int) ≤ (s.num : Int) := by omega
  unfold Ak.row zRe at hW'
  unfold Ak.row at hrg
  unfold Ak.row
  go_enter Tryz.func30, Tryz.ntmps30
  go_upto_region 1 with fail
  rw [← hW'.out]
  clear hW'
  go_wp2_with fail
  refine hth.mono ?_
  rintro e w' ⟨rfl, rfl⟩
  clear hth
  go_wp2_with (first | (refine wpList_load_mid_on (by rfl) 66 (.tmp 7) (by rfl) w.heap.size 0 (by rfl) (x.row (.slice a x.chs.length cap)).toList _ hrg Tryz.underlying66 rfl (by rw [ask_ln]; exact ask_inf) ?_) | fail)
  refine hch.out.mono ?_
  rw [hok'.out]
  rintro e w1 ⟨rfl, hE1⟩
  replace k0 := hE1.cell k0
  replace d0 := hE1.cell d0
  have hR1 := Lib.hid (hE1.row hR'.out)
  clear hrg hch
  go_upto_region 5 with fail
  have hEw := hE.trans hE1
  have hfin : ∀ Wf, Ext w Wf → DoE w0 w st mb 0 false [] 10 m (.returned (.tuple #[.agg zRe, .int .i64 10])) Wf := fun Wf he => do_none hS'.out he 0 false 10
  have hfin' := Lib.hid hfin
  clear hfin hE hE1
  by_cases hq : (n : Int) = (s.num : Int)
  · by_cases k5 : x.kind = 5
    · rw [← hq] at d0
      clear i4
      go_wp2_with (first | (refine wpList_store_row (by rfl) 74 (.tmp 8) (.tmp 70) (by rfl) (w.heap.size + 1) zRe (by rfl) (by rfl) 74 zRe hR1.out (by exact info_reply) (by rfl) zRe_one ?_) | fail)
      have hset : (w1.setRow (w.heap.size + 1) zRe).heap[w.heap.size + 1]? = some (.cells zRe 74 (0, 0)) := by rw [setRow_heap _ _ _ _ _ _ hR1.out]
      have hEf : Ext w (w1.setRow (w.heap.size + 1) zRe) := hEw.setRow (by omega) _
      generalize w1.setRow (w.heap.size + 1) zRe = Wf at *
      obtain ⟨b0, b1, b2⟩ := re_cells hset
      exact bodyPost_ret (v := .tuple #[.agg zRe, .int .i64 10]) (by simp [results, Tryz.results30, go_sem, b0, b1, b2, zRe]) rfl (hfin'.out Wf hEf)
    · by_cases k6 : x.kind = 6
      · rw [← hq] at d0
        clear i4
        go_wp2_with (first | (refine wpList_store_row (by rfl) 74 (.tmp 8) (.tmp 70) (by rfl) (w.heap.size + 1) zRe (by rfl) (by rfl) 74 zRe hR1.out (by exact info_reply) (by rfl) zRe_one ?_) | fail)
        have hset : (w1.setRow (w.heap.size + 1) zRe).heap[w.heap.size + 1]? = some (.cells zRe 74 (0, 0)) := by rw [setRow_heap _ _ _ _ _ _ hR1.out]
        have hEf : Ext w (w1.setRow (w.heap.size + 1) zRe) := hEw.setRow (by omega) _
        generalize w1.setRow (w.heap.size + 1) zRe = Wf at *
        obtain ⟨b0, b1, b2⟩ := re_cells hset
        exact bodyPost_ret (v := .tuple #[.agg zRe, .int .i64 10]) (by simp [results, Tryz.results30, go_sem, b0, b1, b2, zRe]) rfl (hfin'.out Wf hEf)
      · exact absurd ⟨by omega, k5, k6⟩ hk
  · by_cases k5 : x.kind = 5
    · -- get
      go_wp2_with (first | (refine wpList_store_row (by rfl) 74 (.tmp 8) (.tmp 70) (by rfl) (w.heap.size + 1) zRe (by rfl) (by rfl) 74 zRe hR1.out (by exact info_reply) (by rfl) zRe_one ?_) | fail)
      have hset : (w1.setRow (w.heap.size + 1) zRe).heap[w.heap.size + 1]? = some (.cells zRe 74 (0, 0)) := by rw [setRow_heap _ _ _ _ _ _ hR1.out]
      have hEf : Ext w (w1.setRow (w.heap.size + 1) zRe) := hEw.setRow (by omega) _
      generalize w1.setRow (w.heap.size + 1) zRe = Wf at *
      obtain ⟨b0, b1, b2⟩ := re_cells hset
      exact bodyPost_ret (v := .tuple #[.agg zRe, .int .i64 10]) (by simp [results, Tryz.results30, go_sem, b0, b1, b2, zRe]) rfl (hfin'.out Wf hEf)
    · by_cases k6 : x.kind = 6
      · -- scan
        go_wp2_with (first | (refine wpList_store_row (by rfl) 74 (.tmp 8) (.tmp 70) (by rfl) (w.heap.size + 1) zRe (by rfl) (by rfl) 74 zRe hR1.out (by exact info_reply) (by rfl) zRe_one ?_) | fail)
        have hset : (w1.setRow (w.heap.size + 1) zRe).heap[w.heap.size + 1]? = some (.cells zRe 74 (0, 0)) := by rw [setRow_heap _ _ _ _ _ _ hR1.out]
        have hEf : Ext w (w1.setRow (w.heap.size + 1) zRe) := hEw.setRow (by omega) _
        generalize w1.setRow (w.heap.size + 1) zRe = Wf at *
        obtain ⟨b0, b1, b2⟩ := re_cells hset
        exact bodyPost_ret (v := .tuple #[.agg zRe, .int .i64 10]) (by simp [results, Tryz.results30, go_sem, b0, b1, b2, zRe]) rfl (hfin'.out Wf hEf)
      · -- the others
        go_wp2_with (first | (refine wpList_store_row (by rfl) 74 (.tmp 8) (.tmp 70) (by rfl) (w.heap.size + 1) zRe (by rfl) (by rfl) 74 zRe hR1.out (by exact info_reply) (by rfl) zRe_one ?_) | fail)
        have hset : (w1.setRow (w.heap.size + 1) zRe).heap[w.heap.size + 1]? = some (.cells zRe 74 (0, 0)) := by rw [setRow_heap _ _ _ _ _ _ hR1.out]
        have hEf : Ext w (w1.setRow (w.heap.size + 1) zRe) := hEw.setRow (by omega) _
        generalize w1.setRow (w.heap.size + 1) zRe = Wf at *
        obtain ⟨b0, b1, b2⟩ := re_cells hset
        exact bodyPost_ret (v := .tuple #[.agg zRe, .int .i64 10]) (by simp [results, Tryz.results30, go_sem, b0, b1, b2, zRe]) rfl (hfin'.out Wf hEf)
end Go.Proofs.YthageoibkeebhaaGreatDoor
