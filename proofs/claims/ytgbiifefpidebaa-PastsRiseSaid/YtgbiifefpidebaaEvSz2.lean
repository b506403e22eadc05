/- Sizes of events: some number; great: where it says no, there are 120 events at most. No condition. -/
import Derived.Test.YtgbiifefpidebaaEvSz
namespace Go.Proofs.Ytgbiifefpidebaa
open Go.RowKit
set_option maxRecDepth 100000
set_option maxHeartbeats 1000000
def SizeE (w : World) (e : Ending) (w' : World) : Prop := ∃ z : Int, e = .returned (.int .i64 z) ∧ Ext w w'
theorem rp_range {w : World} {l : List Rp} {b off : Nat} (hd : ∀ i, i < l.length * 2 → w.cell? ⟨b, off + i, none⟩ = (l.flatMap Rp.cells)[i]?) {k : Nat} {c : Rp} (h : l[k]? = some c) : w.rangeAt b (off + k * 2) c.cells := fun r v hv => by
  have hr : r < 2 := (List.getElem?_eq_some_iff.1 hv).1
  have hk : k < l.length := (List.getElem?_eq_some_iff.1 h).1
  rw [Nat.add_assoc, hd (k * 2 + r) (by omega), flatMap_at Rp.cells 2 (by decide) (fun _ => rfl) l k c h r hr _ rfl]; exact hv
theorem rsize_any (w : World) (l : List Rp) (a : Option Addr) (cap : Nat) (h : RpsAt w l a cap) : Calls Try.prog 35 #[.slice a l.length cap] w (SizeE w) := by
  have hl : l.length ≤ 140737488351232 := by have := h.2.1; omega
  have h1 := h.1
  have hs := h.2.2
  clear h
  go_enter Try.func35, Try.ntmps35
  go_wp2_with fail
  go_loopw [3, 4] (fun n i wr => ∃ (k : Nat) (z : Int), k ≤ l.length ∧ n = .int .i64 z ∧ i = .int .i64 k ∧ Ext w wr) (fun _ i _ => l.length - (intOf i).toNat)
  case atStart => exact ⟨0, _, by omega, rfl, rfl, Ext.refl _⟩
  case round =>
    obtain ⟨k, N, hk, rfl, rfl, hE⟩ := hrel
    by_cases hlt : k < l.length
    · have hli : (k : Int) < (l.length : Int) := by omega
      obtain ⟨c, hc⟩ : ∃ c, l[k]? = some c := ⟨_, List.getElem?_eq_getElem hlt⟩
      by_cases hsm : N ≤ 1048576
      · obtain ⟨b, off, hat⟩ := (h1.ext hE).at
        obtain ⟨rfl, _, hd⟩ := hat (by omega)
        have p := rp_range hd hc
        have p0 := p 0 _ rfl
        have p3 := p 1 _ rfl
        rw [Nat.add_zero] at p0
        clear hd hat p hc
        go_wp2_with fail
        go_still (by kernel_rfl)
        change Exit.inBlock _ _ _ _ wr.drew
        go_wp2_with fail
        go_roundw
        case rel => exact ⟨k + 1, _, by omega, rfl, by go_num, hE.drew⟩
        case measure => simp [intOf]; omega
      · go_wp2_with fail
        go_ret
        exact ⟨_, rfl, hE⟩
    · have hli : ¬ (k : Int) < (l.length : Int) := by omega
      go_wp2_with fail
      go_ret
      exact ⟨_, rfl, hE⟩
theorem psize_any (w : World) (e : Int) (y : Bool) (l : List Rp) (a : Option Addr) (cap : Nat) (h : RpsAt w l a cap) : Calls Try.prog 28 #[.agg #[.int .i64 e, .bool y, .slice a l.length cap]] w (SizeE w) := by
  obtain ⟨W, hW⟩ : ∃ W, W = w.alloc (.cells #[.int .i64 e, .bool y, .slice a l.length cap] 37) := ⟨_, rfl⟩
  have hE : Ext w W := by rw [hW]; exact (Ext.refl _).alloc _
  have hX : W.heap[w.heap.size]? = some (.cells #[.int .i64 e, .bool y, .slice a l.length cap] 37 (0, 0)) := by rw [hW]; exact heap_alloc_new w _
  have c2 : W.cell? ⟨w.heap.size, 2, none⟩ = some (.slice a l.length cap) := by rw [cell_of_row _ _ _ _ 37 (0, 0) hX]; rfl
  have hr := Lib.hid (rsize_any W l a cap (h.ext hE))
  have hW' := Lib.hid hW
  clear hW hX h
  go_enter Try.func28, Try.ntmps28
  go_upto_region 1 with fail
  rw [← hW'.out]
  clear hW'
  go_wp2_with fail
  refine hr.out.mono ?_
  rintro e w2 ⟨z, rfl, hE2⟩
  go_wp2_with fail
  go_ret
  exact ⟨_, rfl, hE.trans hE2⟩
end Go.Proofs.Ytgbiifefpidebaa
