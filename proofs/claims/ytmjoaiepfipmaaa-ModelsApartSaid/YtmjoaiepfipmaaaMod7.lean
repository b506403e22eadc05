/- A reply without rows and its twin. No condition. -/
import Derived.Test.YtmjoaiepfipmaaaMod6
namespace Go.Proofs.Ytmjoaiepfipmaaa
open Go.RowKit
set_option maxRecDepth 100000
set_option maxHeartbeats 800000
theorem rw_eql_nil (w : World) (a : Option Addr) (n c n' c' : Nat) : (binOp .eql 30 (.slice a n c) (.slice none n' c')).run Try.prog w = .ok (.bool a.isNone) w := Lib.run_eql_slice_nil w _ _ a n c n' c' Try.underlying30
theorem clone_none (w : World) : Calls Try.prog 50 #[.slice none 0 0] w fun e w' => e = .returned (.slice none 0 0) ∧ w = w' := by
  have q30 := rw_eql_nil
  go_enter Try.func50, Try.ntmps50
  go_wp2
  go_ret
  exact ⟨rfl, rfl⟩
def reG (i : Int) (b : Bool) : Array Value := #[.int .i64 i, .bool b, .slice none 0 0]
theorem reG_one (i : Int) (b : Bool) : (reG i b).all (·.oneCell') = true := by kernel_rfl
theorem st_twin (w : World) (i : Int) (b : Bool) : Calls Try.prog 34 #[.agg (reG i b)] w fun e w' => e = .returned (.agg (reG i b)) ∧ Ext w w' := by
  obtain ⟨W, hW⟩ : ∃ W, W = (w.alloc (.cells (reG i b) 32)).alloc (.cells zRe 32) := ⟨_, rfl⟩
  have hE : Ext w W := by rw [hW]; exact ((Ext.refl _).alloc _).alloc _
  have hX : W.heap[w.heap.size]? = some (.cells (reG i b) 32 (0, 0)) := by rw [hW]; exact ((Ext.refl _).alloc _).row (heap_alloc_new w _)
  have hR : W.heap[w.heap.size + 1]? = some (.cells zRe 32 (0, 0)) := by
    have h1 := heap_alloc_new (w.alloc (.cells (reG i b) 32)) (.cells zRe 32)
    rw [show (w.alloc (.cells (reG i b) 32)).heap.size = w.heap.size + 1 by simp] at h1
    rw [hW]; exact h1
  have hW' := Lib.hid hW
  have hX' := Lib.hid hX
  have hR' := Lib.hid hR
  clear hW hX hR
  unfold reG zRe at hW'
  unfold reG
  go_enter Try.func34, Try.ntmps34
  go_upto_region 1 with fail
  rw [← hW'.out]
  clear hW'
  obtain ⟨x0, x1, x2⟩ := re_cells hX'.out
  have f2 : W.frozen? ⟨w.heap.size, 2, none⟩ = false := fz hX'.out
  go_upto_region 2 with (first | (go_at_call 50; refine (clone_none _).mono ?_; rintro e w' ⟨rfl, rfl⟩) | fail)
  have hE2 : Ext w (W.setCell ⟨w.heap.size, 2, none⟩ (.slice none 0 0)) := hE.setCell (Nat.le_refl _) _
  have hX2 : (W.setCell ⟨w.heap.size, 2, none⟩ (.slice none 0 0)).heap[w.heap.size]? = some (.cells (reG i b) 32 (0, 0)) := by simp [World.setCell, Array.getElem?_modify, hX'.out, reG]
  have hR2 : (W.setCell ⟨w.heap.size, 2, none⟩ (.slice none 0 0)).heap[w.heap.size + 1]? = some (.cells zRe 32 (0, 0)) := (Below.heap_setCell _ _ _ _ (by simp)).trans hR'.out
  clear hX' hR' x0 x1 x2 f2 hE
  generalize W.setCell ⟨w.heap.size, 2, none⟩ (.slice none 0 0) = W2 at *
  obtain ⟨x0, x1, x2⟩ := re_cells hX2
  go_wp2_with (first | (refine wpList_store_row (by rfl) 32 (.tmp 2) (.tmp 7) (by rfl) (w.heap.size + 1) (reG i b) (by rfl) (by rfl) 32 zRe hR2 (by exact info_reply) (by rfl) (reG_one _ _) ?_) | fail)
  have hset : (W2.setRow (w.heap.size + 1) (reG i b)).heap[w.heap.size + 1]? = some (.cells (reG i b) 32 (0, 0)) := by rw [setRow_heap _ _ _ _ _ _ hR2]
  have hEf : Ext w (W2.setRow (w.heap.size + 1) (reG i b)) := hE2.setRow (by omega) _
  generalize W2.setRow (w.heap.size + 1) (reG i b) = Wf at *
  obtain ⟨c0, c1, c2⟩ := re_cells hset
  exact bodyPost_ret (v := .agg (reG i b)) (by simp [results, Try.results34, go_sem, c0, c1, c2, reG]) rfl ⟨rfl, hEf⟩
theorem made_row2 (w : World) (e : TypeId) (size : Nat) : (w.alloc (.cells #[] e)).ownsRow w.heap.size e size (.slice (some ⟨w.heap.size, 0, none⟩) 0 0) 0 [] := World.ownsRow_made w #[] 0 (Nat.le_refl _) (Nat.zero_le _) (by simp)
theorem rws_one (l : List Rw) : ∀ u ∈ l.flatMap rwL, u.oneCell' = true := by
  intro u hu
  obtain ⟨r, _, h⟩ := List.mem_flatMap.1 hu
  simp only [rwL, List.mem_cons, List.not_mem_nil, or_false] at h
  rcases h with rfl | rfl <;> rfl
/-- slices.Clone of rows. -/
theorem clone_rw (w : World) (l : List Rw) (a : Option Addr) (cap : Nat) (hr : RowIs w 2 (.slice a l.length cap) l.length (l.flatMap rwL)) (hn : l.length ≤ 1000000) :
    Calls Try.prog 50 #[.slice a l.length cap] w fun e w' => ∃ a' cap', e = .returned (.slice a' l.length cap') ∧ w'.ownsRow w.heap.size 62 2 (.slice a' l.length cap') l.length (l.flatMap rwL) ∧ Ext w w' := by
  have h1 := rws_one l
  generalize l.flatMap rwL = xs at *
  generalize l.length = n at *
  have q30 := rw_eql_nil
  cases a with
  | none =>
    obtain ⟨hl, _, ⟨rfl, a', cap', he, hc⟩ | ⟨b, off, cap', he, _⟩⟩ := hr
    · injection he with e1 _ e3
      subst e1 e3
      obtain rfl := hc rfl
      obtain rfl : xs = [] := List.eq_nil_of_length_eq_zero (by simpa using hl)
      go_enter Try.func50, Try.ntmps50
      go_wp2
      go_ret
      exact ⟨none, 0, rfl, World.ownsRow_nil _ _ _ _, Ext.refl _⟩
    · injection he with e1; cases e1
  | some ad =>
    have hl := hr.2.1
    go_enter Try.func50, Try.ntmps50
    go_wp2_with (at_builtin; refine wpList_append_row rfl (.tmp 5) (.tmp 6) 30 62 rfl Try.underlying30 el_row (w.alloc (.cells #[] 62)) w.heap.size 0 [] _ (by rfl) (made_row2 w 62 2) (.slice (some ad) n cap) n xs rfl (hr.ext ((Ext.refl w).alloc _)) h1 (by omega) (by omega) (by simp) ?_; intro v' w' hown hb)
    go_ret
    rw [Nat.zero_add, List.nil_append] at hown
    obtain ⟨a', cap', rfl, hc⟩ := own_slice hown
    exact ⟨a', cap', rfl, hown, Below.trans ((Ext.refl w).alloc _) hb⟩
def reH (i : Int) (b : Bool) (v : Value) : Array Value := #[.int .i64 i, .bool b, v]
theorem reH_one (i : Int) (b : Bool) (a : Option Addr) (n c : Nat) : (reH i b (.slice a n c)).all (·.oneCell') = true := by kernel_rfl
/-- A reply's twin: its rows in memory of the call's own. -/
theorem st_twin_rows (w : World) (i : Int) (b : Bool) (l : List Rw) (a : Option Addr) (cap : Nat) (hr : RowIs w 2 (.slice a l.length cap) l.length (l.flatMap rwL)) (hn : l.length ≤ 1000000) :
    Calls Try.prog 34 #[.agg (reH i b (.slice a l.length cap))] w fun e w' => ∃ a' cap', e = .returned (.agg (reH i b (.slice a' l.length cap'))) ∧ RowIs w' 2 (.slice a' l.length cap') l.length (l.flatMap rwL) ∧ Out (fun i => i < w.heap.size) (.slice a' l.length cap') ∧ Ext w w' := by
  obtain ⟨V, hV⟩ : ∃ V, V = reH i b (.slice a l.length cap) := ⟨_, rfl⟩
  obtain ⟨W, hW⟩ : ∃ W, W = (w.alloc (.cells (reH i b (.slice a l.length cap)) 32)).alloc (.cells zRe 32) := ⟨_, rfl⟩
  have hE : Ext w W := by rw [hW]; exact ((Ext.refl _).alloc _).alloc _
  have hX : W.heap[w.heap.size]? = some (.cells (reH i b (.slice a l.length cap)) 32 (0, 0)) := by rw [hW]; exact ((Ext.refl _).alloc _).row (heap_alloc_new w _)
  have hR : W.heap[w.heap.size + 1]? = some (.cells zRe 32 (0, 0)) := by
    have h1 := heap_alloc_new (w.alloc (.cells (reH i b (.slice a l.length cap)) 32)) (.cells zRe 32)
    rw [show (w.alloc (.cells (reH i b (.slice a l.length cap)) 32)).heap.size = w.heap.size + 1 by simp] at h1
    rw [hW]; exact h1
  have hWs : W.heap.size = w.heap.size + 2 := by rw [hW]; simp
  have hr' := Lib.hid (hr.ext hE)
  have hW' := Lib.hid hW
  have hX' := Lib.hid hX
  have hR' := Lib.hid hR
  clear hW hX hR hr hV V
  unfold reH zRe at hW'
  unfold reH
  go_enter Try.func34, Try.ntmps34
  go_upto_region 1 with fail
  rw [← hW'.out]
  clear hW'
  obtain ⟨x0, x1, x2⟩ := re_cells hX'.out
  go_wp2_with fail
  refine (clone_rw _ l a cap hr'.out hn).mono ?_
  rintro e w1 ⟨a', cap', rfl, hr1, hE1⟩
  have hX1 := Lib.hid (hE1.row hX'.out)
  have hR1 := Lib.hid (hE1.row hR'.out)
  have f2 : w1.frozen? ⟨w.heap.size, 2, none⟩ = false := fz hX1.out
  have y2 := (re_cells hX1.out).2.2
  have hs1 : W.heap.size ≤ w1.heap.size := hE1.size
  clear hX' hR' x0 x1 x2 hr'
  go_upto_region 2 with fail
  have hE2 : Ext w (w1.setCell ⟨w.heap.size, 2, none⟩ (.slice a' l.length cap')) := (hE.trans hE1).setCell (Nat.le_refl _) _
  have hX2 : (w1.setCell ⟨w.heap.size, 2, none⟩ (.slice a' l.length cap')).heap[w.heap.size]? = some (.cells (reH i b (.slice a' l.length cap')) 32 (0, 0)) := by simp [World.setCell, Array.getElem?_modify, hX1.out, reH]
  have hR2 : (w1.setCell ⟨w.heap.size, 2, none⟩ (.slice a' l.length cap')).heap[w.heap.size + 1]? = some (.cells zRe 32 (0, 0)) := (Below.heap_setCell _ _ _ _ (by simp)).trans hR1.out
  have hOf : OffB (· = w.heap.size) w1 (w1.setCell ⟨w.heap.size, 2, none⟩ (.slice a' l.length cap')) := OffB.setCell (B := (· = w.heap.size)) (a := w1) (w := w1) (OffB.refl _) (p := ⟨w.heap.size, 2, none⟩) rfl _
  have hrow := (RowIs.of_own hr1).off (Out.of_own hr1 (fun k hk => by omega)) hOf
  have hs2 : w1.heap.size ≤ (w1.setCell ⟨w.heap.size, 2, none⟩ (.slice a' l.length cap')).heap.size := hOf.size
  have hO1 := Out.of_own (B := (· = w.heap.size + 1)) hr1 (fun k hk => by omega)
  have hO0 := Out.of_own (B := (· < w.heap.size)) hr1 (fun k hk => by omega)
  clear hX1 hR1 f2 y2 hE hE1 hr1 hOf
  generalize w1.setCell ⟨w.heap.size, 2, none⟩ (.slice a' l.length cap') = W2 at *
  obtain ⟨x0, x1, x2⟩ := re_cells hX2
  go_wp2_with (first | (refine wpList_store_row (by rfl) 32 (.tmp 2) (.tmp 7) (by rfl) (w.heap.size + 1) (reH i b (.slice a' l.length cap')) (by rfl) (by rfl) 32 zRe hR2 (by exact info_reply) (by rfl) (reH_one _ _ _ _ _) ?_) | fail)
  have hset : (W2.setRow (w.heap.size + 1) (reH i b (.slice a' l.length cap'))).heap[w.heap.size + 1]? = some (.cells (reH i b (.slice a' l.length cap')) 32 (0, 0)) := by rw [setRow_heap _ _ _ _ _ _ hR2]
  have hEf : Ext w (W2.setRow (w.heap.size + 1) (reH i b (.slice a' l.length cap'))) := hE2.setRow (by omega) _
  have hOg : OffB (· = w.heap.size + 1) W2 (W2.setRow (w.heap.size + 1) (reH i b (.slice a' l.length cap'))) := ⟨rfl, rfl, rfl, by simp, fun k _ hq => setRow_other _ _ _ _ hq⟩
  have hrow2 := hrow.off hO1 hOg
  generalize W2.setRow (w.heap.size + 1) (reH i b (.slice a' l.length cap')) = Wf at *
  obtain ⟨c0, c1, c2⟩ := re_cells hset
  exact bodyPost_ret (v := .agg (reH i b (.slice a' l.length cap'))) (by simp [results, Try.results34, go_sem, c0, c1, c2, reH]) rfl ⟨a', cap', rfl, hrow2, hO0, hEf⟩
end Go.Proofs.Ytmjoaiepfipmaaa
