/- The law ModelsNone. (Printed by wip/tools/gmodnone.py.) No condition. -/
import Derived.Test.YtmjoaiepfipmaaaModN
import Derived.Deep.RegionHeld3
import Derived.Deep.CutRange
namespace Go.Proofs.Ytmjoaiepfipmaaa
open Go.RowKit
set_option maxRecDepth 100000
def zSt : Array Value := #[.map none, .int .u32 0, .int .i64 0, .bool false, .slice none 0 0, .int .u32 0, .int .i64 0, .bool false, .slice none 0 0, .int .u32 0, .int .i64 0, .bool false, .slice none 0 0, .int .u32 0, .int .i64 0, .bool false, .slice none 0 0, .int .u32 0, .int .i64 0, .bool false, .slice none 0 0, .int .u32 0, .int .i64 0, .bool false, .slice none 0 0, .int .u32 0, .int .i64 0, .bool false, .slice none 0 0, .int .u32 0, .int .i64 0, .bool false, .slice none 0 0, .int .u32 0, .int .i64 0, .bool false, .slice none 0 0]
theorem le_through {wr w w1 : World} (h : Ext wr w) (h1 : Ext w w1) : wr.heap.size ≤ w1.heap.size := (h.trans h1).size
theorem st_zero {wr W : World} {b : Nat} (hb : W.heap[b]? = some (.cells zRe 32 (0, 0))) (hE : Ext wr W) (hle : wr.heap.size ≤ b) :
    ∃ W', (storeCells ⟨b, 0, none⟩ zRe.toList).run Try.prog W = .ok () W' ∧ Ext wr W' ∧ W'.heap[b]? = some (.cells zRe 32 (0, 0)) := by
  refine ⟨W.setRow b zRe, ?_, hE.setRow hle _, by rw [setRow_heap _ _ _ _ _ _ hb]⟩
  rw [run_storeCells_from b 32 zRe.toList 0 zRe W hb (by rfl) (by decide)]
  rfl
theorem ask_cells {w : World} {b : Nat} {x : Ak} {u : Value} (h : w.heap[b]? = some (.cells (x.row u) 26 (0, 0))) : w.rangeAt b 0 (x.row u).toList := fun r v hv => by
  rw [Nat.zero_add, cell_of_row _ _ r _ 26 (0, 0) h, ← hv]; simp
set_option maxHeartbeats 4000000 in
theorem modelsNone_walk (w : World) (c : Int) (_o0 : ∃ n, OKC Try.prog w n 5 [.int .u8 c]) (n : Int) (_o1 : ∃ m, OKC Try.prog w m 22 [.int .u32 n]) (ac : Array Value) (o2 : ∃ n, OKC Try.prog w n 26 ac.toList) :
    Calls Try.prog 3 #[.int .u8 c, .int .u32 n, .agg ac] w fun e w' => e = .returned (.bool true) ∧ Ext w w' := by
  obtain ⟨n0, o2⟩ := o2
  obtain ⟨x, ca, cc, hac, _, _⟩ := okc_ask o2
  obtain rfl : ac = x.row (.slice ca x.chs.length cc) := by rw [← Array.toList_inj]; exact hac
  clear o2 hac
  obtain ⟨W, hW⟩ : ∃ W, W = ((w.alloc (.cells (x.row (.slice ca x.chs.length cc)) 26)).alloc (.cells zSt 37)).alloc (.cells #[.pointer none, .pointer (some ⟨w.heap.size + 1, 0, none⟩)] 27) := ⟨_, rfl⟩
  have hE : Ext w W := by rw [hW]; exact (((Ext.refl _).alloc _).alloc _).alloc _
  have hX : W.heap[w.heap.size]? = some (.cells (x.row (.slice ca x.chs.length cc)) 26 (0, 0)) := by rw [hW]; exact (((Ext.refl _).alloc _).alloc _).row (heap_alloc_new w _)
  have hT : W.heap[w.heap.size + 1]? = some (.cells zSt 37 (0, 0)) := by
    rw [hW]
    have h := heap_alloc_new (w.alloc (.cells (x.row (.slice ca x.chs.length cc)) 26)) (.cells zSt 37)
    rw [show (w.alloc (.cells (x.row (.slice ca x.chs.length cc)) 26)).heap.size = w.heap.size + 1 by simp] at h
    exact ((Ext.refl _).alloc _).row h
  have hL : W.heap[w.heap.size + 1 + 1]? = some (.cells #[.pointer none, .pointer (some ⟨w.heap.size + 1, 0, none⟩)] 27 (0, 0)) := by
    rw [hW]
    have h := heap_alloc_new ((w.alloc (.cells (x.row (.slice ca x.chs.length cc)) 26)).alloc (.cells zSt 37)) (.cells #[.pointer none, .pointer (some ⟨w.heap.size + 1, 0, none⟩)] 27)
    rw [show ((w.alloc (.cells (x.row (.slice ca x.chs.length cc)) 26)).alloc (.cells zSt 37)).heap.size = w.heap.size + 1 + 1 by simp] at h
    exact h
  have hW' := Lib.hid hW
  clear hW
  unfold Ak.row zSt at hW'
  have hX' := Lib.hid hX
  have hT' := Lib.hid hT
  have hL' := Lib.hid hL
  clear hX hT hL
  unfold Ak.row
  go_enter Try.func3, Try.ntmps3
  go_wp2_with fail
  rw [← hW'.out]
  clear hW'
  go_loopw [8] (fun i wr => ∃ k : Nat, k ≤ 2 ∧ i = .int .i64 k ∧ Ext W wr) (fun i _ => 2 - (intOf i).toNat)
  case atStart => exact ⟨0, by omega, rfl, Ext.refl _⟩
  case round =>
    obtain ⟨k, hk, rfl, hO⟩ := hrel
    by_cases hkt : k < 2
    · have hki : (k : Int) < 2 := by omega
      obtain ⟨v, hv, hvt⟩ : ∃ v, wr.cell? ⟨w.heap.size + 1 + 1, k, none⟩ = some v ∧ NoSt wr v := by
        have h1 := hO.row hL'.out
        obtain rfl | rfl : k = 0 ∨ k = 1 := by omega
        · exact ⟨_, by rw [cell_of_row _ _ 0 _ 27 (0, 0) h1]; rfl, .inl rfl⟩
        · exact ⟨_, by rw [cell_of_row _ _ 1 _ 27 (0, 0) h1]; rfl, .inr ⟨_, rfl, by rw [cell_of_row _ _ 0 _ 37 (0, 0) (hO.row hT'.out)]; rfl⟩⟩
      have hxa := ask_cells (hO.row hX'.out)
      have hS' : ∀ w', Ext wr w' → Ext wr w' ∧ w'.cell? ⟨w.heap.size + 1 + 1, k, none⟩ = some v ∧ w'.cell? ⟨w.heap.size, 0, none⟩ = some (.int .u8 x.kind) ∧ w'.cell? ⟨w.heap.size, 1, none⟩ = some (.string x.key) ∧ w'.cell? ⟨w.heap.size, 2, none⟩ = some (.string x.val) ∧ w'.cell? ⟨w.heap.size, 3, none⟩ = some (.string x.old) ∧ w'.cell? ⟨w.heap.size, 4, none⟩ = some (.bool x.new) ∧ w'.cell? ⟨w.heap.size, 5, none⟩ = some (.string x.to) ∧ w'.cell? ⟨w.heap.size, 6, none⟩ = some (.int .i64 x.many) ∧ w'.cell? ⟨w.heap.size, 7, none⟩ = some (.slice ca x.chs.length cc) := fun w' h => ⟨h, h.cell hv, h.cell (hxa 0 _ rfl), h.cell (hxa 1 _ rfl), h.cell (hxa 2 _ rfl), h.cell (hxa 3 _ rfl), h.cell (hxa 4 _ rfl), h.cell (hxa 5 _ rfl), h.cell (hxa 6 _ rfl), h.cell (hxa 7 _ rfl)⟩
      have hS2 := Lib.hid hS'
      have hvt' := Lib.hid hvt
      clear hS' hvt hv hxa
      go_upto_region 5 with fail
      go_cut [9, 10] from 14 to 75 (fun p s wx => ∃ b : Nat, p = .pointer (some ⟨b, 0, none⟩) ∧ s = .int .i64 2 ∧ wx.heap[b]? = some (.cells zRe 32 (0, 0)) ∧ Ext wr wx)
      case first =>
        go_region_held3 (fun w' => Ext wr w' ∧ w'.cell? ⟨w.heap.size + 1 + 1, k, none⟩ = some v ∧ w'.cell? ⟨w.heap.size, 0, none⟩ = some (.int .u8 x.kind) ∧ w'.cell? ⟨w.heap.size, 1, none⟩ = some (.string x.key) ∧ w'.cell? ⟨w.heap.size, 2, none⟩ = some (.string x.val) ∧ w'.cell? ⟨w.heap.size, 3, none⟩ = some (.string x.old) ∧ w'.cell? ⟨w.heap.size, 4, none⟩ = some (.bool x.new) ∧ w'.cell? ⟨w.heap.size, 5, none⟩ = some (.string x.to) ∧ w'.cell? ⟨w.heap.size, 6, none⟩ = some (.int .i64 x.many) ∧ w'.cell? ⟨w.heap.size, 7, none⟩ = some (.slice ca x.chs.length cc)) ((refine hS2.out _ ?_; first | exact (Ext.refl _).drew | exact ((Ext.refl _).alloc _).drew | assumption | (go_split_ands; assumption) | (refine Ext.alloc ?_ _; go_split_ands; assumption) | (refine Ext.trans ?_ (by assumption); go_split_ands; assumption) | (refine Ext.trans (Ext.alloc ?_ _) (by assumption); go_split_ands; assumption))) (first | (go_at_call 12; refine (nost_do (hvt'.out.ext (by go_split_ands; assumption)) c n x (.slice ca x.chs.length cc)).mono ?_; rintro e w1 ⟨rfl, hE1⟩; have hwe := le_through (by go_split_ands; assumption) hE1; first | have hb := hE1.row ((Ext.refl _).drew.row (heap_alloc_new wr (.cells zRe 32))) | skip) | (obtain ⟨W', e1, hE', hb'⟩ := st_zero (wr := wr) (heap_alloc_new w1 (.cells zRe 32)) (by go_split_ands; assumption) hwe; rw [show (#[.int .i64 0, .bool false, .slice none 0 0] : Array Value) = zRe from rfl, e1]; go_simp) | (obtain ⟨W', e1, hE', hb'⟩ := st_zero (wr := wr) hb (by go_split_ands; assumption) (Nat.le_refl _); rw [e1]; go_simp))
        all_goals go_wp2_with fail
        all_goals go_meet
        all_goals exact ⟨_, rfl, rfl, hb', hE'⟩
      case rest =>
      obtain ⟨b, rfl, rfl, hz, hX4⟩ := hcut
      obtain ⟨hXw, hv4, _⟩ := hS2.out _ hX4
      have hvt4 := hvt'.out.ext hX4
      have hxa := ask_cells ((hO.trans hX4).row hX'.out)
      have z0 : wc.cell? ⟨b, 0, none⟩ = some (.int .i64 0) := by rw [cell_of_row _ _ 0 _ 32 (0, 0) hz]; rfl
      have z1 : wc.cell? ⟨b, 1, none⟩ = some (.bool false) := by rw [cell_of_row _ _ 1 _ 32 (0, 0) hz]; rfl
      have z2 : wc.cell? ⟨b, 2, none⟩ = some (.slice none 0 0) := by rw [cell_of_row _ _ 2 _ 32 (0, 0) hz]; rfl
      go_upto_region 6 with fail
      refine wp_region_class (Ext wc) (by kernel_rfl) (by kernel_rfl) (Ext.refl _).drew ?_
      iterate 4 (refine wpQuiet_step (fun K hK => ?_); go_simp; first | (refine hK _ ?_; clear hK K) | (refine ⟨_, fun _ _ => rfl, hK _ ?_⟩; clear hK K))
      refine wpQuiet_load_cell (by rfl) 4 _ (by rfl) b 1 (by rfl) _ (fun w' h => h.cell z1) _ Try.underlying4 rfl ?_
      iterate 3 (refine wpQuiet_step (fun K hK => ?_); go_simp; first | (refine hK _ ?_; clear hK K) | (refine ⟨_, fun _ _ => rfl, hK _ ?_⟩; clear hK K))
      refine wpQuiet_load_cell (by rfl) 29 _ (by rfl) b 0 (by rfl) _ (fun w' h => h.cell z0) _ Try.underlying29 rfl ?_
      iterate 4 (refine wpQuiet_step (fun K hK => ?_); go_simp; first | (refine hK _ ?_; clear hK K) | (refine ⟨_, fun _ _ => rfl, hK _ ?_⟩; clear hK K))
      refine wpQuiet_load_cell (by rfl) 30 _ (by rfl) b 2 (by rfl) _ (fun w' h => h.cell z2) _ Try.underlying30 rfl ?_
      iterate 7 (refine wpQuiet_step (fun K hK => ?_); go_simp; first | (refine hK _ ?_; clear hK K) | (refine ⟨_, fun _ _ => rfl, hK _ ?_⟩; clear hK K))
      refine wpQuiet_load_cell (by rfl) 27 _ (by rfl) (w.heap.size + 1 + 1) k (by rfl) v (fun w' h => h.cell hv4) _ Try.underlying27 rfl ?_
      refine wpQuiet_step (fun K hK => ?_); go_simp
      refine ⟨_, fun w' hw => calls_ext hw (nost_rows (hvt4.ext hw)), hK _ ?_⟩; clear hK K
      iterate 7 (refine wpQuiet_step (fun K hK => ?_); go_simp; first | (refine hK _ ?_; clear hK K) | (refine ⟨_, fun _ _ => rfl, hK _ ?_⟩; clear hK K))
      refine wpQuiet_load_cell (by rfl) 27 _ (by rfl) (w.heap.size + 1 + 1) k (by rfl) v (fun w' h => h.cell hv4) _ Try.underlying27 rfl ?_
      refine wpQuiet_step (fun K hK => ?_); go_simp
      refine ⟨_, fun w' hw => calls_ext hw (nost_said (hvt4.ext hw)), hK _ ?_⟩; clear hK K
      iterate 7 (refine wpQuiet_step (fun K hK => ?_); go_simp; first | (refine hK _ ?_; clear hK K) | (refine ⟨_, fun _ _ => rfl, hK _ ?_⟩; clear hK K))
      refine wpQuiet_load_cell (by rfl) 27 _ (by rfl) (w.heap.size + 1 + 1) k (by rfl) v (fun w' h => h.cell hv4) _ Try.underlying27 rfl ?_
      refine wpQuiet_load_mid (by rfl) 26 _ (by rfl) w.heap.size 0 (by rfl) _ _ (fun w' h r u hu => h.cell (hxa r u hu)) Try.underlying26 rfl (by exact info_ask) ?_
      refine wpQuiet_step (fun K hK => ?_); go_simp
      refine ⟨_, fun w' hw => calls_ext hw (nost_chg (hvt4.ext hw) x (.slice ca x.chs.length cc)), hK _ ?_⟩; clear hK K
      iterate 3 (refine wpQuiet_step (fun K hK => ?_); go_simp; first | (refine hK _ ?_; clear hK K) | (refine ⟨_, fun _ _ => rfl, hK _ ?_⟩; clear hK K))
      refine wpQuiet_nil (fun w5 hE5 => ?_)
      go_wp2_with fail
      go_roundw
      case rel => exact ⟨k + 1, by omega, by go_num, hO.trans (hX4.trans hE5)⟩
      case measure => simp [intOf]; omega
    · have hki : ¬ (k : Int) < 2 := by omega
      go_wp2_with fail
      go_ret
      exact ⟨rfl, hE.trans hO⟩
end Go.Proofs.Ytmjoaiepfipmaaa
