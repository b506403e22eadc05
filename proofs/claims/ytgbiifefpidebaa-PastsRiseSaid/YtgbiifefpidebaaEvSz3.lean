/- great: where it says no, there are 120 events at most. No condition. -/
import Derived.Test.YtgbiifefpidebaaEvSz2
namespace Go.Proofs.Ytgbiifefpidebaa
open Go.RowKit
set_option maxRecDepth 100000
set_option maxHeartbeats 1000000
theorem ev_inf : (Try.prog.info? 40).map (·.size) = some 17 := by kernel_rfl
theorem esize_any (w : World) (x : Ev) (h : x.good w) : Calls Try.prog 24 #[.agg x.row] w (SizeE w) := by
  obtain ⟨W, hW⟩ : ∃ W, W = w.alloc (.cells x.row 40) := ⟨_, rfl⟩
  have hE : Ext w W := by rw [hW]; exact (Ext.refl _).alloc _
  have hX : W.heap[w.heap.size]? = some (.cells x.row 40 (0, 0)) := by rw [hW]; exact heap_alloc_new w _
  obtain ⟨c0, c1, c2, c3, c4, c5, c6, c7, c8, c9, c10, c11, c12, c13, c14, c15, c16⟩ := ev_cells hX
  have hak := asize_any W x.ask x.ad x.cap (h.chs.ext hE) h.ask
  have hX' := Lib.hid hX
  obtain ⟨S, hS⟩ : ∃ S, S = x.ask.sz := ⟨_, rfl⟩
  rw [← hS] at hak
  unfold Ak.row at hak
  have hak' := Lib.hid hak
  have hW' := Lib.hid hW
  have hg' := Lib.hid h
  clear hW hX hak h hS c0 c1 c2 c3 c12 c16
  unfold Ev.row at hW'
  unfold Ev.row
  go_enter Try.func24, Try.ntmps24
  go_upto_region 1 with fail
  rw [← hW'.out]
  clear hW'
  go_wp2_with fail
  refine hak'.out.mono ?_
  clear hak'
  rintro e w2 ⟨rfl, hE2⟩
  obtain ⟨c0, c1, c2, c3, c4, c5, c6, c7, c8, c9, c10, c11, c12, c13, c14, c15, c16⟩ := ev_cells (hE2.row hX'.out)
  have hE3 := hE.trans hE2
  have hp := Lib.hid (psize_any w2 x.re x.ry x.rows x.ra x.rc (hg'.out.rows.ext hE3))
  clear c0 c1 c2 c3 c4 c5 c6 c7 c8 c9 c10 c11 c12 c16 hE2 hX' hg' hE
  generalize hz : IntKind.i64.wrap (1 + (S : Int)) = Z
  by_cases hle : Z ≤ 1048576
  · go_wp2_with fail
    refine hp.out.mono ?_
    rintro e w3 ⟨z, rfl, hE4⟩
    go_wp2_with fail
    go_ret
    exact ⟨_, rfl, hE3.trans hE4⟩
  · go_wp2_with fail
    go_ret
    exact ⟨_, rfl, hE3⟩
theorem evsize_any (w : World) (l : List Ev) (a : Option Addr) (cap : Nat) (h : EvsAt w l a cap) : Calls Try.prog 14 #[.slice a l.length cap] w (SizeE w) := by
  have hl := h.2.1
  obtain ⟨ln, hln⟩ : ∃ n, n = l.length := ⟨_, rfl⟩
  have h' := Lib.hid h
  have h1 := h.1
  rw [← hln] at h1 hl ⊢
  have h1' := Lib.hid h1
  have hln' := Lib.hid hln
  clear h h1 hln
  go_enter Try.func14, Try.ntmps14
  go_wp2_with fail
  go_loopw [3, 4] (fun n i wr => ∃ (k : Nat) (z : Int), k ≤ ln ∧ n = .int .i64 z ∧ i = .int .i64 k ∧ Ext w wr) (fun _ i _ => ln - (intOf i).toNat)
  case atStart => exact ⟨0, _, by omega, rfl, rfl, Ext.refl _⟩
  case round =>
    obtain ⟨k, N, hk, rfl, rfl, hE⟩ := hrel
    by_cases hlt : k < ln
    · have hli : (k : Int) < (ln : Int) := by omega
      obtain ⟨c, hc⟩ : ∃ c, l[k]? = some c := ⟨_, List.getElem?_eq_getElem (by rw [← hln'.out]; exact hlt)⟩
      by_cases hsm : N ≤ 1048576
      · obtain ⟨b, off, hat⟩ := (h1'.out.ext hE).at
        obtain ⟨rfl, _, hd⟩ := hat (by omega)
        have p := ev_range (by rw [← hln'.out]; exact hd) hc
        have hcg := Lib.hid ((h'.out.2.2 c (List.mem_of_getElem? hc)).ext hE)
        clear hd hat hc
        go_wp2_with (first | (refine wpList_load_mid (by rfl) 40 (.tmp 20) (by rfl) b (off + k * 17) (by rfl) c.cells _ p Try.underlying40 rfl (by exact ev_inf) ?_) | fail)
        refine (esize_any wr c hcg.out).mono ?_
        rintro e w3 ⟨z, rfl, hE3⟩
        go_wp2_with fail
        go_roundw
        case rel => exact ⟨k + 1, _, by omega, rfl, by go_num, hE.trans hE3⟩
        case measure => simp [intOf]; omega
      · go_wp2_with fail
        go_ret
        exact ⟨_, rfl, hE⟩
    · have hli : ¬ (k : Int) < (ln : Int) := by omega
      go_wp2_with fail
      go_ret
      exact ⟨_, rfl, hE⟩
def GreatE (n : Nat) (w : World) (e : Ending) (w' : World) : Prop := ∃ b : Bool, e = .returned (.bool b) ∧ (b = false → n ≤ 120) ∧ Ext w w'
theorem great_ev (w : World) (l : List Ev) (a : Option Addr) (cap : Nat) (h : EvsAt w l a cap) : Calls Try.prog 7 #[.slice a l.length cap] w (GreatE l.length w) := by
  have hs := evsize_any w l a cap h
  obtain ⟨ln, hln⟩ : ∃ n, n = l.length := ⟨_, rfl⟩
  rw [← hln] at hs ⊢
  have hs' := Lib.hid hs
  clear hs hln h
  go_enter Try.func7, Try.ntmps7
  go_wp2_with fail
  refine hs'.out.mono ?_
  rintro e w1 ⟨z, rfl, hE⟩
  by_cases hz : 2000 < z
  · go_wp2_with fail
    go_ret
    exact ⟨true, rfl, fun h => Bool.noConfusion h, hE⟩
  · have dz : decide (2000 < z) = false := decide_eq_false hz
    by_cases hn : 120 < ln
    · have hni : (120 : Int) < (ln : Int) := by omega
      go_wp2_with fail
      go_ret
      exact ⟨true, rfl, fun h => Bool.noConfusion h, hE⟩
    · have hni : ¬ (120 : Int) < (ln : Int) := by omega
      have dn : decide ((120 : Int) < (ln : Int)) = false := decide_eq_false hni
      go_wp2_with fail
      go_ret
      exact ⟨false, rfl, fun _ => by omega, hE⟩
end Go.Proofs.Ytgbiifefpidebaa
