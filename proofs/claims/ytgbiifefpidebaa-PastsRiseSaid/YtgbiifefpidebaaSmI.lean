/- SameItem, SameItems of items that are alike. No condition. -/
import Derived.Test.YtgbiifefpidebaaSm
namespace Go.Proofs.Ytgbiifefpidebaa
open Go.RowKit
set_option maxRecDepth 100000
set_option maxHeartbeats 2000000
theorem item_vals {w : World} {g : Nat} {x : Ev} (h : w.heap[g]? = some (.cells x.item 42 (0, 0))) :
    w.cell? ⟨g, 0, none⟩ = some (.int .u64 x.idx) ∧ w.cell? ⟨g, 1, none⟩ = some (.int .u8 x.cl) ∧ w.cell? ⟨g, 2, none⟩ = some (.int .u32 x.num) ∧ w.cell? ⟨g, 3, none⟩ = some (.int .u8 x.ask.kind) ∧ w.cell? ⟨g, 4, none⟩ = some (.string x.ask.key) ∧ w.cell? ⟨g, 5, none⟩ = some (.string x.ask.val) ∧ w.cell? ⟨g, 6, none⟩ = some (.string x.ask.old) ∧ w.cell? ⟨g, 7, none⟩ = some (.bool x.ask.new) ∧ w.cell? ⟨g, 8, none⟩ = some (.string x.ask.to) ∧ w.cell? ⟨g, 9, none⟩ = some (.int .i64 x.ask.many) ∧ w.cell? ⟨g, 10, none⟩ = some (.slice x.ad x.ask.chs.length x.cap) := by
  refine ⟨?_, ?_, ?_, ?_, ?_, ?_, ?_, ?_, ?_, ?_, ?_⟩ <;> (rw [cell_of_row _ _ _ _ 42 (0, 0) h]; rfl)
theorem sitem_true (w : World) (x : Ev) (a' : Option Addr) (c' : Nat) (h1 : RowIs w 3 (.slice x.ad x.ask.chs.length x.cap) x.ask.chs.length (x.ask.chs.flatMap Ch.cells)) (h2 : RowIs w 3 (.slice a' x.ask.chs.length c') x.ask.chs.length (x.ask.chs.flatMap Ch.cells)) :
    Calls Try.prog 23 #[.agg x.item, .agg (x.at a' c').item] w fun e w' => e = .returned (.bool true) ∧ Ext w w' := by
  obtain ⟨W1, hW1⟩ : ∃ W, W = w.alloc (.cells x.item 42) := ⟨_, rfl⟩
  obtain ⟨W, hW⟩ : ∃ W, W = W1.alloc (.cells (x.at a' c').item 42) := ⟨_, rfl⟩
  have hE1 : Ext w W1 := by rw [hW1]; exact (Ext.refl w).alloc _
  have hE : Ext w W := by rw [hW]; exact hE1.alloc _
  have hX : W.heap[w.heap.size]? = some (.cells x.item 42 (0, 0)) := by rw [hW]; exact ((Ext.refl W1).alloc _).row (by rw [hW1]; exact heap_alloc_new w _)
  have hY : W.heap[w.heap.size + 1]? = some (.cells (x.at a' c').item 42 (0, 0)) := by
    have h := heap_alloc_new W1 (.cells (x.at a' c').item 42)
    rw [show W1.heap.size = w.heap.size + 1 by rw [hW1]; simp] at h
    rw [hW]; exact h
  have hch := sask_any W x.ask x.ask x.ad a' x.cap c' (h1.ext hE) (h2.ext hE)
  rw [ak_iff.2 rfl] at hch
  obtain ⟨x0, x1, x2, x3, x4, x5, x6, x7, x8, x9, x10⟩ := item_vals hX
  obtain ⟨y0, y1, y2, y3, y4, y5, y6, y7, y8, y9, y10⟩ := item_vals hY
  unfold Ev.at at y0 y1 y2 y3 y4 y5 y6 y7 y8 y9 y10
  have hW' : Hid (W = (w.alloc (.cells x.item 42)).alloc (.cells (x.at a' c').item 42)) := Lib.hid (by rw [hW, hW1])
  clear hW1 hW hX hY hE1 h1 h2
  unfold Ev.item Ev.at at hW'
  unfold Ev.item Ev.at
  unfold Ak.row at hch
  go_enter Try.func23, Try.ntmps23
  go_upto_region 1 with fail
  have hW := hW'.out
  rw [← hW]
  clear hW hW'
  go_wp2_with fail
  refine hch.mono ?_
  rintro e w2 ⟨rfl, hE2⟩
  go_wp2_with fail
  go_ret
  exact ⟨rfl, hE.trans hE2⟩
theorem strip_at {x y : Ev} (h : x.strip = y.strip) : y = x.at y.ad y.cap := by
  obtain ⟨a1, a2, a3, a4, a5, a6, a7, a8, a9, a10, a11, a12, a13, a14⟩ := x
  obtain ⟨b1, b2, b3, b4, b5, b6, b7, b8, b9, b10, b11, b12, b13, b14⟩ := y
  unfold Ev.strip at h
  simp only [Ev.mk.injEq, true_and] at h
  obtain ⟨rfl, rfl, rfl, rfl, rfl, rfl, rfl, rfl, rfl, rfl, rfl, rfl⟩ := h
  rfl
theorem sitems_true (w : World) (L M : List Ev) (a b : Option Addr) (ca cb : Nat) (hLM : L.map Ev.strip = M.map Ev.strip) (hL : RowIs w 11 (.slice a L.length ca) L.length (L.flatMap Ev.itc)) (hM : RowIs w 11 (.slice b M.length cb) M.length (M.flatMap Ev.itc)) (hLo : ∀ y ∈ L, ItOk w y) (hMo : ∀ y ∈ M, ItOk w y) :
    Calls Try.prog 13 #[.slice a L.length ca, .slice b M.length cb] w fun e w' => e = .returned (.bool true) ∧ Ext w w' := by
  have hlen : M.length = L.length := by have := congrArg List.length hLM; simpa using this.symm
  have hn9 := hL.2.1
  have hML := Lib.hid (And.intro hLM (And.intro hL hM))
  have hO := Lib.hid (And.intro hLo hMo)
  clear hLM hL hM hLo hMo
  rw [hlen]
  obtain ⟨N, hN⟩ : ∃ N, N = L.length := ⟨_, rfl⟩
  rw [← hN] at hn9 ⊢
  have hN' := Lib.hid (And.intro hN hlen)
  clear hN hlen
  go_enter Try.func13, Try.ntmps13
  go_wp2_with fail
  go_loopw [5] (fun f wr => ∃ i : Nat, i ≤ N ∧ f = .int .i64 i ∧ Ext w wr) (fun f _ => N - (intOf f).toNat)
  case atStart => exact ⟨0, by omega, rfl, Ext.refl _⟩
  case round =>
    obtain ⟨i, hi, rfl, hE⟩ := hrel
    by_cases hlt : i < N
    · have hii : (i : Int) < (N : Int) := by omega
      obtain ⟨hLM, hL1, hM1⟩ := hML.out
      obtain ⟨hN, hlen⟩ := hN'.out
      obtain ⟨u, hu⟩ : ∃ u, L[i]? = some u := ⟨_, List.getElem?_eq_getElem (by omega)⟩
      obtain ⟨v, hv⟩ : ∃ v, M[i]? = some v := ⟨_, List.getElem?_eq_getElem (by omega)⟩
      have huv : u.strip = v.strip := by
        have h1 := congrArg (·[i]?) hLM
        simp only [List.getElem?_map, hu, hv, Option.map_some, Option.some.injEq] at h1
        exact h1
      have hu3 := (hO.out.1 u (List.mem_of_getElem? hu)).chs.1.ext hE
      have hv3 := (hO.out.2 v (List.mem_of_getElem? hv)).chs.1.ext hE
      have hL1' := hL1.ext hE
      have hM1' := hM1.ext hE
      rw [hlen] at hM1'
      rw [← hN] at hL1' hM1'
      obtain ⟨lb, loff, hat⟩ := hL1'.at
      obtain ⟨mb, moff, hat2⟩ := hM1'.at
      obtain ⟨rfl, _, hcl⟩ := hat (by omega)
      obtain ⟨rfl, _, hcm⟩ := hat2 (by omega)
      have hrl : wr.rangeAt lb (loff + i * 11) u.itc := itc_range (by rw [← hN]; exact hcl) hu
      have hrm : wr.rangeAt mb (moff + i * 11) v.itc := itc_range (by rw [hlen, ← hN]; exact hcm) hv
      have hvv := strip_at huv
      obtain ⟨va, hva⟩ : ∃ z, z = v.ad := ⟨_, rfl⟩
      obtain ⟨vc, hvc⟩ : ∃ z, z = v.cap := ⟨_, rfl⟩
      rw [← hva, ← hvc] at hvv hv3
      subst hvv
      have hv3' : RowIs wr 3 (.slice va u.ask.chs.length vc) u.ask.chs.length (u.ask.chs.flatMap Ch.cells) := hv3
      clear hu hv hat hat2 hcl hcm hL1 hM1 hLM hN hlen hL1' hM1' huv hva hvc hv3
      go_upto_region 6 with fail
      refine wp_region_class (Ext wr) (by kernel_rfl) (by kernel_rfl) (Ext.refl _).drew ?_
      iterate 3 (refine wpQuiet_step (fun K hK => ?_); go_simp; first | (refine hK _ ?_; clear hK K) | (refine ⟨_, fun _ _ => rfl, hK _ ?_⟩; clear hK K))
      refine wpQuiet_load_mid (by rfl) 42 _ (by rfl) lb (loff + i * 11) (by rfl) _ _ (fun w' h r v hv => h.cell (hrl r v hv)) Try.underlying42 rfl (by exact item_inf) ?_
      iterate 3 (refine wpQuiet_step (fun K hK => ?_); go_simp; first | (refine hK _ ?_; clear hK K) | (refine ⟨_, fun _ _ => rfl, hK _ ?_⟩; clear hK K))
      refine wpQuiet_load_mid (by rfl) 42 _ (by rfl) mb (moff + i * 11) (by rfl) _ _ (fun w' h r v hv => h.cell (hrm r v hv)) Try.underlying42 rfl (by exact item_inf) ?_
      refine wpQuiet_step (fun K hK => ?_)
      go_simp
      refine ⟨_, fun w' hw => calls_ext hw (sitem_true w' u va vc (hu3.ext hw) (hv3'.ext hw)), hK _ ?_⟩; clear hK K
      iterate 1 (refine wpQuiet_step (fun K hK => ?_); go_simp; first | (refine hK _ ?_; clear hK K) | (refine ⟨_, fun _ _ => rfl, hK _ ?_⟩; clear hK K))
      refine wpQuiet_nil (fun W4 hW4 => ?_)
      go_wp2_with fail
      go_roundw
      case rel => exact ⟨i + 1, by omega, by go_num, hE.trans hW4⟩
      case measure => simp [intOf]; omega
    · have hii : ¬ (i : Int) < (N : Int) := by omega
      go_wp2_with fail
      go_ret
      exact ⟨rfl, hE⟩
end Go.Proofs.Ytgbiifefpidebaa
