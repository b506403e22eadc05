/- What get is answered. No condition. -/
import Derived.Test.YtmjoaiepfipmaaaMod4
import Derived.Deep.RegionWith
import Derived.Deep.RegionHeld3
import Derived.Deep.CutRange
import Derived.BigRegion
namespace Go.Proofs.Ytmjoaiepfipmaaa
open Go.RowKit Go.Maps Go.WideMaps
set_option maxRecDepth 100000
set_option maxHeartbeats 2000000
theorem set_two {w : World} {b : Nat} {t : TypeId} {c0 c1 c2 v1 v2 : Value} (h : w.heap[b]? = some (.cells #[c0, c1, c2] t (0, 0))) : ((w.setCell ⟨b, 1, none⟩ v1).setCell ⟨b, 2, none⟩ v2).heap[b]? = some (.cells #[c0, v1, v2] t (0, 0)) := by
  simp [World.setCell, Array.getElem?_modify, h]
def reL (l : Value) : Array Value := #[.int .i64 0, .bool true, l]
theorem reL_one (a : Option Addr) (n c : Nat) : (reL (.slice a n c)).all (·.oneCell') = true := by kernel_rfl
/-- A reply with these rows. -/
def ReE (yes : Bool) (l : List Rw) (w : World) (e : Ending) (w' : World) : Prop := ∃ a cap, e = .returned (.agg #[.int .i64 0, .bool yes, .slice a l.length cap]) ∧ RowIs w' 2 (.slice a l.length cap) l.length (l.flatMap rwL) ∧ Ext w w'
theorem st_get {w0 w : World} {st : Nat} {rs : List (Rw × Nat)} {sd : List Sv} (hS : StX w0 w st rs sd) (x : Ak) (hx : x.key.size ≤ 140737488351232) (u : Value) : Calls Try.prog 53 #[.pointer (some ⟨st, 0, none⟩), .agg (x.row u)] w (ReE (rs.find? (keyIs x.key)).isSome (((rs.find? (keyIs x.key)).map Prod.fst).toList) w) := by
  obtain ⟨W, hW⟩ : ∃ W, W = (w.alloc (.cells (x.row u) 26)).alloc (.cells zRe 32) := ⟨_, rfl⟩
  have hE : Ext w W := by rw [hW]; exact ((Ext.refl _).alloc _).alloc _
  have hX : W.heap[w.heap.size]? = some (.cells (x.row u) 26 (0, 0)) := by rw [hW]; exact ((Ext.refl _).alloc _).row (heap_alloc_new w _)
  have hR : W.heap[w.heap.size + 1]? = some (.cells zRe 32 (0, 0)) := by
    have h1 := heap_alloc_new (w.alloc (.cells (x.row u) 26)) (.cells zRe 32)
    rw [show (w.alloc (.cells (x.row u) 26)).heap.size = w.heap.size + 1 by simp] at h1
    rw [hW]; exact h1
  have hWs : W.heap.size = w.heap.size + 2 := by rw [hW]; simp
  have hT := hS.ext hE
  have hrc := askc hX
  have hW' := Lib.hid hW
  clear hW hX
  unfold Ak.row zRe at hW'
  unfold Ak.row
  go_enter Try.func53, Try.ntmps53
  obtain ⟨mb, hM, hc0⟩ := hT.map
  have hlk := (hM.ext (Ext.refl W).drew).look x.key hx
  have hrow : ∀ p, rs.find? (keyIs x.key) = some p → W.heap[p.2]? = some (.cells (rowR p.1) 62 (0, 0)) ∧ p.2 < w.heap.size := fun p hp => ⟨(hM.2.2 p (List.mem_of_find?_eq_some hp)).2.2, hS.rlt (List.mem_of_find?_eq_some hp)⟩
  obtain ⟨_, k1, _⟩ := hrc
  generalize (rs.find? (keyIs x.key)) = o at *
  clear hM hT
  cases o with
  | none =>
    clear hrow
    simp only [Option.map_none] at hlk
    go_upto_region 1 with fail
    rw [← hW'.out]
    clear hW'
    go_still (by kernel_rfl)
    rw [show ({ heap := W.heap, tape := W.tape, drawn := W.drawn + 1, os := W.os, output := W.output } : World) = W.drew from rfl]
    clear hlk
    replace hR : W.drew.heap[w.heap.size + 1]? = some (.cells zRe 32 (0, 0)) := hR
    replace hE := hE.drew
    clear k1 hc0
    generalize W.drew = W2 at *
    obtain ⟨r0, r1, r2⟩ := re_cells hR
    go_wp2_with (first | (refine wpList_store_row (by rfl) 32 (.tmp 4) (.tmp 21) (by rfl) (w.heap.size + 1) zRe (by rfl) (by rfl) 32 zRe hR (by exact info_reply) (by rfl) zRe_one ?_) | fail)
    have hset : (W2.setRow (w.heap.size + 1) zRe).heap[w.heap.size + 1]? = some (.cells zRe 32 (0, 0)) := by rw [setRow_heap _ _ _ _ _ _ hR]
    have hEf : Ext w (W2.setRow (w.heap.size + 1) zRe) := hE.setRow (by omega) _
    generalize W2.setRow (w.heap.size + 1) zRe = Wf at *
    obtain ⟨b0, b1, b2⟩ := re_cells hset
    exact bodyPost_ret (v := .agg zRe) (by simp [results, Try.results53, go_sem, b0, b1, b2, zRe]) rfl ⟨none, 0, rfl, RowIs.nil _ _ _ _ (fun _ => rfl), hEf⟩
  | some p =>
    obtain ⟨hp, hpl⟩ := hrow p rfl
    clear hrow
    simp only [Option.map_some] at hlk
    go_upto_region 1 with fail
    rw [← hW'.out]
    clear hW'
    go_still (by kernel_rfl)
    rw [show ({ heap := W.heap, tape := W.tape, drawn := W.drawn + 1, os := W.os, output := W.output } : World) = W.drew from rfl]
    clear hlk
    replace hR : W.drew.heap[w.heap.size + 1]? = some (.cells zRe 32 (0, 0)) := hR
    replace hp : W.drew.heap[p.2]? = some (.cells (rowR p.1) 62 (0, 0)) := hp
    replace hWs : W.drew.heap.size = w.heap.size + 2 := hWs
    replace hE := hE.drew
    clear k1 hc0
    generalize W.drew = W2 at *
    obtain ⟨q0, q1⟩ := row_cells hp
    obtain ⟨r0, r1, r2⟩ := re_cells hR
    have f1 : W2.frozen? ⟨w.heap.size + 1, 1, none⟩ = false := by unfold World.frozen?; rw [hR]; simp
    have f2 : W2.frozen? ⟨w.heap.size + 1, 2, none⟩ = false := by unfold World.frozen?; rw [hR]; simp
    have n1 : w.heap.size + 1 ≠ W2.heap.size := by omega
    have n2 : W2.heap.size ≠ w.heap.size + 1 := by omega
    have n3 : p.2 ≠ W2.heap.size := by omega
    have n4 : p.2 ≠ w.heap.size + 1 := by omega
    clear hp
    go_upto_region 3 with fail
    go_region
    have hset : (((W2.setCell ⟨w.heap.size + 1, 1, none⟩ (.bool true)).setCell ⟨w.heap.size + 1, 2, none⟩ (.slice (some ⟨w.heap.size + 2, 0, none⟩) 1 1)).alloc (.cells #[.string p.1.key, .string p.1.val] 62)).drew.heap[w.heap.size + 1]? = some (.cells (reL (.slice (some ⟨w.heap.size + 2, 0, none⟩) 1 1)) 32 (0, 0)) :=
      ((Ext.refl _).alloc _).drew.row (set_two hR)
    have hnew : (((W2.setCell ⟨w.heap.size + 1, 1, none⟩ (.bool true)).setCell ⟨w.heap.size + 1, 2, none⟩ (.slice (some ⟨w.heap.size + 2, 0, none⟩) 1 1)).alloc (.cells #[.string p.1.key, .string p.1.val] 62)).drew.heap[w.heap.size + 2]? = some (.cells (rowR p.1) 62 (0, 0)) := by
      have h1 := heap_alloc_new ((W2.setCell ⟨w.heap.size + 1, 1, none⟩ (.bool true)).setCell ⟨w.heap.size + 1, 2, none⟩ (.slice (some ⟨w.heap.size + 2, 0, none⟩) 1 1)) (.cells #[.string p.1.key, .string p.1.val] 62)
      simp only [show ∀ (X : World) (a : Addr) (v : Value), (X.setCell a v).heap.size = X.heap.size from fun X a v => by simp [World.setCell], hWs] at h1
      exact h1
    have hEf : Ext w (((W2.setCell ⟨w.heap.size + 1, 1, none⟩ (.bool true)).setCell ⟨w.heap.size + 1, 2, none⟩ (.slice (some ⟨w.heap.size + 2, 0, none⟩) 1 1)).alloc (.cells #[.string p.1.key, .string p.1.val] 62)).drew := (((hE.setCell (show w.heap.size ≤ w.heap.size + 1 by omega) _).setCell (show w.heap.size ≤ w.heap.size + 1 by omega) _).alloc _).drew
    clear hR q0 q1 r0 r1 r2 f1 f2 hE hWs n1 n2 n3 n4
    generalize (((W2.setCell ⟨w.heap.size + 1, 1, none⟩ (.bool true)).setCell ⟨w.heap.size + 1, 2, none⟩ (.slice (some ⟨w.heap.size + 2, 0, none⟩) 1 1)).alloc (.cells #[.string p.1.key, .string p.1.val] 62)).drew = W3 at *
    obtain ⟨b0, b1, b2⟩ := re_cells hset
    go_wp2_with (first | (refine wpList_store_row (by rfl) 32 (.tmp 4) (.tmp 21) (by rfl) (w.heap.size + 1) (reL (.slice (some ⟨w.heap.size + 2, 0, none⟩) 1 1)) (by rfl) (by rfl) 32 (reL (.slice (some ⟨w.heap.size + 2, 0, none⟩) 1 1)) hset (by exact info_reply) (by rfl) (reL_one _ _ _) ?_) | fail)
    have hset2 : (W3.setRow (w.heap.size + 1) (reL (.slice (some ⟨w.heap.size + 2, 0, none⟩) 1 1))).heap[w.heap.size + 1]? = some (.cells (reL (.slice (some ⟨w.heap.size + 2, 0, none⟩) 1 1)) 32 (0, 0)) := by rw [setRow_heap _ _ _ _ _ _ hset]
    have hEg : Ext w (W3.setRow (w.heap.size + 1) (reL (.slice (some ⟨w.heap.size + 2, 0, none⟩) 1 1))) := hEf.setRow (by omega) _
    have hn2 : (W3.setRow (w.heap.size + 1) (reL (.slice (some ⟨w.heap.size + 2, 0, none⟩) 1 1))).heap[w.heap.size + 2]? = some (.cells (rowR p.1) 62 (0, 0)) := by rw [setRow_other _ _ _ _ (by omega)]; exact hnew
    generalize W3.setRow (w.heap.size + 1) (reL (.slice (some ⟨w.heap.size + 2, 0, none⟩) 1 1)) = Wf at *
    obtain ⟨c0, c1, c2⟩ := re_cells hset2
    refine bodyPost_ret (v := .agg (reL (.slice (some ⟨w.heap.size + 2, 0, none⟩) 1 1))) (by simp [results, Try.results53, go_sem, c0, c1, c2, reL]) rfl ⟨some ⟨w.heap.size + 2, 0, none⟩, 1, rfl, ?_, hEg⟩
    obtain ⟨d0, d1⟩ := row_cells hn2
    refine ⟨rfl, by simp, .inr ⟨_, 0, 1, rfl, by simp, fun i hi => ?_⟩⟩
    have hi : i < 2 := by simpa using hi
    obtain rfl | rfl : i = 0 ∨ i = 1 := by omega
    · exact d0
    · exact d1
end Go.Proofs.Ytmjoaiepfipmaaa
