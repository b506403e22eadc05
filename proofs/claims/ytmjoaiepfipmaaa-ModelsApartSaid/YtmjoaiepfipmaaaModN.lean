/- A state that is not there: its methods. No condition. -/
import Derived.Test.YtmjoaiepfipmaaaAsk
import Derived.WalkSpells
namespace Go.Proofs.Ytmjoaiepfipmaaa
open Go.RowKit
set_option maxRecDepth 100000
/-- No state: nil, or one that no call made. -/
def NoSt (w : World) (v : Value) : Prop := v = .pointer none ∨ ∃ tb, v = .pointer (some ⟨tb, 0, none⟩) ∧ w.cell? ⟨tb, 0, none⟩ = some (.map none)
theorem NoSt.ext {w w' : World} {v : Value} (h : NoSt w v) (he : Ext w w') : NoSt w' v := by
  rcases h with h | ⟨tb, h1, h2⟩
  · exact .inl h
  · exact .inr ⟨tb, h1, he.cell h2⟩
theorem nost_there {w : World} {v : Value} (h : NoSt w v) : Calls Try.prog 33 #[v] w fun e w' => e = .returned (.bool false) ∧ w = w' := by
  have hm : ∀ w, _ := fun w => run_neq_map_nil (P := Try.prog) w 28 9 92 none Try.underlying28
  rcases h with rfl | ⟨tb, rfl, h2⟩
  all_goals
    go_enter Try.func33, Try.ntmps33
    go_wp2
    go_ret
    exact ⟨rfl, rfl⟩
theorem nost_rows {w : World} {v : Value} (h : NoSt w v) : Calls Try.prog 13 #[v] w fun e w' => e = .returned (.slice none 0 0) ∧ Ext w w' := by
  go_enter Try.func13, Try.ntmps13
  go_wp2_with fail
  refine (nost_there h).mono ?_
  rintro e w' ⟨rfl, rfl⟩
  go_wp2_with fail
  go_ret
  exact ⟨rfl, Ext.refl _⟩
theorem nost_said {w : World} {v : Value} (h : NoSt w v) : Calls Try.prog 14 #[v] w fun e w' => e = .returned (.slice none 0 0) ∧ Ext w w' := by
  go_enter Try.func14, Try.ntmps14
  go_wp2_with fail
  refine (nost_there h).mono ?_
  rintro e w' ⟨rfl, rfl⟩
  go_wp2_with fail
  go_ret
  exact ⟨rfl, Ext.refl _⟩
theorem nost_chg {w : World} {v : Value} (h : NoSt w v) (x : Ak) (u : Value) : Calls Try.prog 15 #[v, .agg (x.row u)] w fun e w' => e = .returned (.slice none 0 0) ∧ Ext w w' := by
  have hT := h.ext ((Ext.refl w).alloc (.cells (x.row u) 26))
  unfold Ak.row at hT ⊢
  go_enter Try.func15, Try.ntmps15
  go_wp2_with fail
  refine (nost_there hT).mono ?_
  rintro e w' ⟨rfl, rfl⟩
  go_wp2_with fail
  go_ret
  exact ⟨rfl, (Ext.refl w).alloc _⟩
def zRe : Array Value := #[.int .i64 0, .bool false, .slice none 0 0]
theorem zRe_one : zRe.all (·.oneCell') = true := by kernel_rfl
theorem info_reply : (Try.prog.info? 32).map (·.size) = some 3 := by kernel_rfl
theorem nost_do {w : World} {v : Value} (h : NoSt w v) (c n : Int) (x : Ak) (u : Value) : Calls Try.prog 12 #[v, .int .u8 c, .int .u32 n, .agg (x.row u)] w fun e w' => e = .returned (.tuple #[.agg zRe, .int .i64 2]) ∧ Ext w w' := by
  obtain ⟨W, hW⟩ : ∃ W, W = (w.alloc (.cells (x.row u) 26)).alloc (.cells zRe 32) := ⟨_, rfl⟩
  have hE : Ext w W := by rw [hW]; exact ((Ext.refl _).alloc _).alloc _
  have hR : W.heap[w.heap.size + 1]? = some (.cells zRe 32 (0, 0)) := by
    have h1 := heap_alloc_new (w.alloc (.cells (x.row u) 26)) (.cells zRe 32)
    rw [show (w.alloc (.cells (x.row u) 26)).heap.size = w.heap.size + 1 by simp] at h1
    rw [hW]; exact h1
  have hT := h.ext hE
  have hW' := Lib.hid hW
  clear hW
  unfold Ak.row zRe at hW'
  unfold Ak.row
  go_enter Try.func12, Try.ntmps12
  go_wp2_with fail
  rw [← hW'.out]
  clear hW'
  refine (nost_there hT).mono ?_
  rintro e w' ⟨rfl, rfl⟩
  go_wp2_with (first | (refine wpList_store_row (by rfl) 32 (.tmp 8) (.tmp 17) (by rfl) (w.heap.size + 1) zRe (by rfl) (by rfl) 32 zRe hR (by exact info_reply) (by rfl) zRe_one ?_) | fail)
  have hset : (W.setRow (w.heap.size + 1) zRe).heap[w.heap.size + 1]? = some (.cells zRe 32 (0, 0)) := by rw [setRow_heap _ _ _ _ _ _ hR]
  have hEf : Ext w (W.setRow (w.heap.size + 1) zRe) := hE.setRow (by omega) _
  generalize W.setRow (w.heap.size + 1) zRe = Wf at *
  have b0 : Wf.cell? ⟨w.heap.size + 1, 0, none⟩ = some (.int .i64 0) := by rw [cell_of_row _ _ _ _ 32 (0, 0) hset]; rfl
  have b1 : Wf.cell? ⟨w.heap.size + 1, 1, none⟩ = some (.bool false) := by rw [cell_of_row _ _ _ _ 32 (0, 0) hset]; rfl
  have b2 : Wf.cell? ⟨w.heap.size + 1, 2, none⟩ = some (.slice none 0 0) := by rw [cell_of_row _ _ _ _ 32 (0, 0) hset]; rfl
  exact bodyPost_ret (v := .tuple #[.agg zRe, .int .i64 2]) (by simp [results, Try.results12, go_sem, b0, b1, b2, zRe]) rfl ⟨rfl, hEf⟩
end Go.Proofs.Ytmjoaiepfipmaaa
