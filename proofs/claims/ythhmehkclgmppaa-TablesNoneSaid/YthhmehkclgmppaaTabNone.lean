/- The law TablesNone. No condition. -/
import Derived.Test.YthhmehkclgmppaaTabN
import Derived.Test.YthhmehkclgmppaaEn
import Derived.Deep.RegionHeld3
import Derived.Deep.CutRange
namespace Go.Proofs.Ythhmehkclgmppaa
open Go.RowKit
theorem le_through {wr w w1 : World} (h : Ext wr w) (h1 : Ext w w1) : wr.heap.size ≤ w1.heap.size := (h.trans h1).size
theorem st_zero {wr W : World} {b : Nat} (hb : W.heap[b]? = some (.cells (enRow zEn) 26 (0, 0))) (hE : Ext wr W) (hle : wr.heap.size ≤ b) :
    ∃ W', (storeCells ⟨b, 0, none⟩ (enRow zEn).toList).run Try.prog W = .ok () W' ∧ Ext wr W' ∧ W'.heap[b]? = some (.cells (enRow zEn) 26 (0, 0)) := by
  refine ⟨W.setRow b (enRow zEn), ?_, hE.setRow hle _, by rw [setRow_heap _ _ _ _ _ _ hb]⟩
  rw [run_storeCells_from b 26 (enRow zEn).toList 0 (enRow zEn) W hb (by rfl) (by decide)]
  rfl
set_option maxRecDepth 100000 in
set_option maxHeartbeats 2000000 in
theorem tablesNone_walk (w : World) (ac : Array Value) (o0 : ∃ n, OKC Try.prog w n 26 ac.toList) (i : Int) (_o1 : ∃ n, OKC Try.prog w n 3 [.int .i64 i]) :
    Calls Try.prog 3 #[.agg ac, .int .i64 i] w fun e w' => e = .returned (.bool true) ∧ Ext w w' := by
  obtain ⟨n0, o0⟩ := o0
  obtain ⟨x, hac, hg⟩ := okc_entry o0
  obtain rfl : ac = enRow x := by rw [← Array.toList_inj]; exact hac
  clear o0 hac
  obtain ⟨W, hW⟩ : ∃ W, W = ((w.alloc (.cells (enRow x) 26)).alloc (.cells #[.pointer none, .int .i64 0, .int .i64 0] 30)).alloc (.cells #[.pointer none, .pointer (some ⟨w.heap.size + 1, 0, none⟩)] 27) := ⟨_, rfl⟩
  have hE : Ext w W := by rw [hW]; exact (((Ext.refl _).alloc _).alloc _).alloc _
  have hX : W.heap[w.heap.size]? = some (.cells (enRow x) 26 (0, 0)) := by rw [hW]; exact (((Ext.refl _).alloc _).alloc _).row (heap_alloc_new w _)
  have hT : W.heap[w.heap.size + 1]? = some (.cells #[.pointer none, .int .i64 0, .int .i64 0] 30 (0, 0)) := by
    rw [hW]
    have h := heap_alloc_new (w.alloc (.cells (enRow x) 26)) (.cells #[.pointer none, .int .i64 0, .int .i64 0] 30)
    rw [show (w.alloc (.cells (enRow x) 26)).heap.size = w.heap.size + 1 by simp] at h
    exact ((Ext.refl _).alloc _).row h
  have hL : W.heap[w.heap.size + 1 + 1]? = some (.cells #[.pointer none, .pointer (some ⟨w.heap.size + 1, 0, none⟩)] 27 (0, 0)) := by
    rw [hW]
    have h := heap_alloc_new ((w.alloc (.cells (enRow x) 26)).alloc (.cells #[.pointer none, .int .i64 0, .int .i64 0] 30)) (.cells #[.pointer none, .pointer (some ⟨w.heap.size + 1, 0, none⟩)] 27)
    rw [show ((w.alloc (.cells (enRow x) 26)).alloc (.cells #[.pointer none, .int .i64 0, .int .i64 0] 30)).heap.size = w.heap.size + 1 + 1 by simp] at h
    exact h
  have hW' := Lib.hid hW
  clear hW
  unfold enRow at hW' ⊢
  go_enter Try.func3, Try.ntmps3
  go_wp2_with fail
  rw [← hW'.out]
  clear hW'
  go_loopw [6] (fun i wr => ∃ k : Nat, k ≤ 2 ∧ i = .int .i64 k ∧ Ext W wr) (fun i _ => 2 - (intOf i).toNat)
  case atStart => exact ⟨0, by omega, rfl, Ext.refl _⟩
  case round =>
    obtain ⟨k, hk, rfl, hO⟩ := hrel
    by_cases hkt : k < 2
    · have hki : (k : Int) < 2 := by omega
      obtain ⟨v, hv, hvt⟩ : ∃ v, wr.cell? ⟨w.heap.size + 1 + 1, k, none⟩ = some v ∧ NoTab wr v := by
        have h1 := hO.row hL
        obtain rfl | rfl : k = 0 ∨ k = 1 := by omega
        · exact ⟨_, by rw [cell_of_row _ _ 0 _ 27 (0, 0) h1]; rfl, .inl rfl⟩
        · exact ⟨_, by rw [cell_of_row _ _ 1 _ 27 (0, 0) h1]; rfl, .inr ⟨_, rfl, hO.row hT⟩⟩
      have hXr := hO.row hX
      obtain ⟨x0, x1, x2, x3⟩ := en_cells hXr
      have hS' : ∀ w', Ext wr w' → Ext wr w' ∧ w'.cell? ⟨w.heap.size + 1 + 1, k, none⟩ = some v ∧ w'.cell? ⟨w.heap.size, 0, none⟩ = some (.string x.mark.key) ∧ w'.cell? ⟨w.heap.size, 1, none⟩ = some (.int .u64 (x.mark.seq : Int)) := fun w' h => ⟨h, h.cell hv, h.cell x0, h.cell x1⟩
      have hS2 := Lib.hid hS'
      have hvt' := Lib.hid hvt
      clear hS' hvt hv x0 x1 x2 x3
      go_upto_region 5 with fail
      go_cut [7, 8] from 12 to 76 (fun p s wx => ∃ b : Nat, p = .pointer (some ⟨b, 0, none⟩) ∧ s = .bool false ∧ wx.heap[b]? = some (.cells (enRow zEn) 26 (0, 0)) ∧ Ext wr wx)
      case first =>
        go_region_held3 (fun w' => Ext wr w' ∧ w'.cell? ⟨w.heap.size + 1 + 1, k, none⟩ = some v ∧ w'.cell? ⟨w.heap.size, 0, none⟩ = some (.string x.mark.key) ∧ w'.cell? ⟨w.heap.size, 1, none⟩ = some (.int .u64 (x.mark.seq : Int))) ((refine hS2.out _ ?_; first | exact (Ext.refl _).drew | exact ((Ext.refl _).alloc _).drew | assumption | (go_split_ands; assumption) | (refine Ext.alloc ?_ _; go_split_ands; assumption) | (refine Ext.trans ?_ (by assumption); go_split_ands; assumption) | (refine Ext.trans (Ext.alloc ?_ _) (by assumption); go_split_ands; assumption))) (first | (go_at_call 10; refine (noget_any (hvt'.out.ext (by go_split_ands; assumption)) _ _).mono ?_; rintro e w1 ⟨rfl, hE1⟩; have hwe := le_through (by go_split_ands; assumption) hE1; first | have hb := hE1.row ((Ext.refl _).drew.row (heap_alloc_new wr (.cells (enRow zEn) 26))) | skip) | (obtain ⟨W', e1, hE', hb'⟩ := st_zero (wr := wr) (heap_alloc_new w1 (.cells (enRow zEn) 26)) (by go_split_ands; assumption) hwe; rw [show (#[.string ⟨#[]⟩, .int .u64 0, .bool false, .string ⟨#[]⟩] : Array Value) = enRow zEn from rfl, e1]; go_simp) | (obtain ⟨W', e1, hE', hb'⟩ := st_zero (wr := wr) hb (by go_split_ands; assumption) (Nat.le_refl _); rw [e1]; go_simp))
        all_goals go_wp2_with fail
        all_goals go_meet
        all_goals exact ⟨_, rfl, rfl, hb', hE'⟩
      case rest =>
      obtain ⟨b, rfl, rfl, hz, hX4⟩ := hcut
      have hv4 := (hS2.out _ hX4).2.1
      have hvt4 := hvt'.out.ext hX4
      have hxe := en_range (hX4.row hXr)
      have hxm := en_mark (hX4.row hXr)
      have z0 : wc.cell? ⟨b, 0, none⟩ = some (.string ⟨#[]⟩) := (en_cells hz).1
      go_upto_region 6 with fail
      refine wp_region_class (Ext wc) (by kernel_rfl) (by kernel_rfl) (Ext.refl _).drew ?_
      iterate 3 (refine wpQuiet_step (fun K hK => ?_); go_simp; first | (refine hK _ ?_; clear hK K) | (refine ⟨_, fun _ _ => rfl, hK _ ?_⟩; clear hK K))
      refine wpQuiet_load_cell (by rfl) 27 _ (by rfl) (w.heap.size + 1 + 1) k (by rfl) v (fun w' h => h.cell hv4) _ Try.underlying27 rfl ?_
      refine wpQuiet_load_mid (by rfl) 26 _ (by rfl) w.heap.size 0 (by rfl) _ _ (fun w' h r u hu => h.cell (hxe r u hu)) Try.underlying26 rfl (by exact info_entry) ?_
      iterate 1 (refine wpQuiet_step (fun K hK => ?_); go_simp; first | (refine hK _ ?_; clear hK K) | (refine ⟨_, fun _ _ => rfl, hK _ ?_⟩; clear hK K))
      refine wpQuiet_step (fun K hK => ?_); go_simp
      refine ⟨_, fun w' hw => calls_ext hw (noput_any (hvt4.ext hw) x i), hK _ ?_⟩; clear hK K
      iterate 7 (refine wpQuiet_step (fun K hK => ?_); go_simp; first | (refine hK _ ?_; clear hK K) | (refine ⟨_, fun _ _ => rfl, hK _ ?_⟩; clear hK K))
      refine wpQuiet_load_cell (by rfl) 9 _ (by rfl) b 0 (by rfl) _ (fun w' h => h.cell z0) _ Try.underlying9 rfl ?_
      iterate 6 (refine wpQuiet_step (fun K hK => ?_); go_simp; first | (refine hK _ ?_; clear hK K) | (refine ⟨_, fun _ _ => rfl, hK _ ?_⟩; clear hK K))
      refine wpQuiet_load_cell (by rfl) 27 _ (by rfl) (w.heap.size + 1 + 1) k (by rfl) v (fun w' h => h.cell hv4) _ Try.underlying27 rfl ?_
      iterate 1 (refine wpQuiet_step (fun K hK => ?_); go_simp; first | (refine hK _ ?_; clear hK K) | (refine ⟨_, fun _ _ => rfl, hK _ ?_⟩; clear hK K))
      refine wpQuiet_load_mid (by rfl) 24 _ (by rfl) w.heap.size 0 (by rfl) _ _ (fun w' h r u hu => h.cell (hxm r u hu)) Try.underlying24 rfl (by exact info_mark) ?_
      iterate 1 (refine wpQuiet_step (fun K hK => ?_); go_simp; first | (refine hK _ ?_; clear hK K) | (refine ⟨_, fun _ _ => rfl, hK _ ?_⟩; clear hK K))
      refine wpQuiet_step (fun K hK => ?_); go_simp
      refine ⟨_, fun w' hw => calls_ext hw (nofrom_any (hvt4.ext hw) x.mark i), hK _ ?_⟩; clear hK K
      iterate 7 (refine wpQuiet_step (fun K hK => ?_); go_simp; first | (refine hK _ ?_; clear hK K) | (refine ⟨_, fun _ _ => rfl, hK _ ?_⟩; clear hK K))
      refine wpQuiet_load_cell (by rfl) 27 _ (by rfl) (w.heap.size + 1 + 1) k (by rfl) v (fun w' h => h.cell hv4) _ Try.underlying27 rfl ?_
      refine wpQuiet_step (fun K hK => ?_); go_simp
      refine ⟨_, fun w' hw => calls_same hw (nobytes_any (hvt4.ext hw)), hK _ ?_⟩; clear hK K
      iterate 6 (refine wpQuiet_step (fun K hK => ?_); go_simp; first | (refine hK _ ?_; clear hK K) | (refine ⟨_, fun _ _ => rfl, hK _ ?_⟩; clear hK K))
      refine wpQuiet_load_cell (by rfl) 27 _ (by rfl) (w.heap.size + 1 + 1) k (by rfl) v (fun w' h => h.cell hv4) _ Try.underlying27 rfl ?_
      refine wpQuiet_step (fun K hK => ?_); go_simp
      refine ⟨_, fun w' hw => calls_same hw (nolen_any (hvt4.ext hw)), hK _ ?_⟩; clear hK K
      iterate 2 (refine wpQuiet_step (fun K hK => ?_); go_simp; first | (refine hK _ ?_; clear hK K) | (refine ⟨_, fun _ _ => rfl, hK _ ?_⟩; clear hK K))
      refine wpQuiet_nil (fun w5 hE5 => ?_)
      go_wp2_with fail
      go_roundw
      case rel => first | exact ⟨k + 1, by omega, by go_num, hO.trans (hX4.trans hE5)⟩ | trace_state
      case measure => simp [intOf]; omega
    · have hki : ¬ (k : Int) < 2 := by omega
      go_wp2_with fail
      go_ret
      exact ⟨rfl, hE.trans hO⟩
end Go.Proofs.Ythhmehkclgmppaa
