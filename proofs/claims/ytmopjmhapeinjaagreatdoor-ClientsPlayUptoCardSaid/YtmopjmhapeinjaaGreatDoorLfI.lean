/- Are twins of items still what they were made of? (Printed by mkit.py.) No condition. -/
import Derived.Test.YtmopjmhapeinjaaGreatDoorGrB0
import Derived.Test.YtmopjmhapeinjaaGreatDoorGrC7
namespace Go.Proofs.YtmopjmhapeinjaaGreatDoor
open Go.RowKit
set_option maxRecDepth 100000
set_option maxHeartbeats 8000000
theorem leftIt_any (w : World) (x : It) (base b cap' : Nat) (a : Option Addr) (cap n : Nat) (hn : n = x.ask.chs.length) (hr : RowIs w 3 (.slice a n cap) n (x.ask.chs.flatMap Ch.cells)) (hl : n ≤ 50000) (hT : TwC w base b n cap' x.ask.chs) :
    Calls Tryz.prog 117 #[.agg (itRow x (some ⟨b, 0, none⟩) n cap'), .agg (itRow x a n cap)] w fun e w' => e = .returned (.bool true) ∧ Ext w w' := by
  obtain ⟨X, hX⟩ : ∃ X, X = w.heap.size := ⟨_, rfl⟩
  obtain ⟨V, hV⟩ : ∃ W, W = (w.alloc (.cells (itRow x (some ⟨b, 0, none⟩) n cap') 100)).alloc (.cells (itRow x a n cap) 100) := ⟨_, rfl⟩
  have hE0 : Ext w V := by rw [hV]; exact ((Ext.refl _).alloc _).alloc _
  have h1 : V.heap[X]? = some (.cells (itRow x (some ⟨b, 0, none⟩) n cap') 100 (0, 0)) := by rw [hV, hX]; exact ((Ext.refl _).alloc _).row (heap_alloc_new w _)
  have h2 : V.heap[X + 1]? = some (.cells (itRow x a n cap) 100 (0, 0)) := by
    have h1 := heap_alloc_new (w.alloc (.cells (itRow x (some ⟨b, 0, none⟩) n cap') 100)) (.cells (itRow x a n cap) 100)
    rw [show (w.alloc (.cells (itRow x (some ⟨b, 0, none⟩) n cap') 100)).heap.size = X + 1 by rw [hX]; simp] at h1
    rw [hV]; exact h1
  obtain ⟨x0, x1, x2, x3, x4, x5, x6, x7, x8, x9, x10⟩ := it_cs h1
  obtain ⟨y0, y1, y2, y3, y4, y5, y6, y7, y8, y9, y10⟩ := it_cs h2
  have hcall := Lib.hid (leftA_any V x.ask a cap n base b cap' hn (hr.ext hE0) hl (hT.ext hE0))
  have hV' := Lib.hid hV
  have hX' := Lib.hid hX
  clear hr hn hV hX h1 h2 hT
  unfold itRow at hV' ⊢
  go_enter Tryz.func117, Tryz.ntmps117
  go_upto_region 1 with fail
  rw [← hV'.out, ← hX'.out]
  go_wp2_with fail
  refine hcall.out.mono ?_
  rintro e w2 ⟨rfl, hE2⟩
  go_wp2_with fail
  go_ret
  exact ⟨rfl, hE0.trans hE2⟩
theorem bareI_eq {x y : It} (h : x.bare = y.bare) (a : Option Addr) (n c : Nat) : itRow x a n c = itRow y a n c ∧ x.ask.chs = y.ask.chs := by
  obtain ⟨a1, a2, a3, a4, a5⟩ := x
  obtain ⟨b1, b2, b3, b4, b5⟩ := y
  unfold It.bare at h
  simp only [It.mk.injEq] at h
  obtain ⟨rfl, rfl, rfl, rfl, _⟩ := h
  exact ⟨rfl, rfl⟩
theorem mapI_at {l l' : List It} (h : l.map It.bare = l'.map It.bare) {k : Nat} {y : It} (hy : l[k]? = some y) : ∃ z, l'[k]? = some z ∧ z.bare = y.bare := by
  have h1 : (l'.map It.bare)[k]? = some y.bare := by rw [← h, List.getElem?_map, hy]; rfl
  rw [List.getElem?_map] at h1
  obtain ⟨z, hz, he⟩ := Option.map_eq_some_iff.1 h1
  exact ⟨z, hz, he⟩
theorem leftIts_any (w : World) (q q' : List It) (base b cap' : Nat) (qa : Option Addr) (qc n : Nat) (hnq : n = q.length) (hqr : RowIs w 11 (.slice qa n qc) n (q.flatMap It.cells)) (hn : n ≤ 50000) (hqv : ItAt w q) (hqn : ∀ p ∈ q, p.ask.chs.length ≤ 50000) (hbr : q'.map It.bare = q.map It.bare) (hT : TwI w base b n cap' q') :
    Calls Tryz.prog 46 #[.slice (some ⟨b, 0, none⟩) n cap', .slice qa n qc] w fun e w' => e = .returned (.bool true) ∧ Ext w w' := by
  have hm := Lib.hid hnq
  have hqr' := Lib.hid hqr
  have hqv' := Lib.hid hqv
  have hqn' := Lib.hid hqn
  have hbr' := Lib.hid hbr
  have hT' := Lib.hid hT
  have hcap := hT.cap
  have hm' : Hid (n = q'.length) := Lib.hid (by rw [hnq]; have := congrArg List.length hbr; rw [List.length_map, List.length_map] at this; exact this.symm)
  clear hnq hqr hqv hqn hbr hT
  have hci : ¬ (cap' : Int) ≤ (n : Int) := by omega
  go_enter Tryz.func46, Tryz.ntmps46
  go_wp2_with fail
  go_loopw [5] (fun i wr => ∃ k : Nat, k ≤ n ∧ i = .int .i64 k ∧ Ext w wr) (fun i _ => n - (intOf i).toNat)
  case atStart => exact ⟨0, by omega, rfl, Ext.refl _⟩
  case round =>
    obtain ⟨k, hk, rfl, hE⟩ := hrel
    have htw := (OwnC.row (hT'.out.1.ext hE))
    obtain ⟨tb, tof, hat2⟩ := htw.at
    obtain ⟨e1, _, hd2⟩ := hat2 (by omega)
    injection e1 with e1
    injection e1 with e1 e2
    subst e1 e2
    by_cases hlt : k < n
    · have hli : (k : Int) < (n : Int) := by omega
      obtain ⟨y, hy⟩ : ∃ y, q[k]? = some y := ⟨_, List.getElem?_eq_getElem (by rw [← hm.out]; exact hlt)⟩
      obtain ⟨z, hz, hzb⟩ := mapI_at hbr'.out.symm hy
      obtain ⟨ob, oo, hat⟩ := (hqr'.out.ext hE).at
      obtain ⟨rfl, _, hdy⟩ := hat (by omega)
      have p := its_range (by rw [← hm.out]; exact hdy) hy
      obtain ⟨va, vc, hv, hyr0⟩ := hqv'.out y (List.mem_of_getElem? hy)
      rw [it_cells hv] at p
      have q1 := its_range (l := q' ++ [spareI]) (by rw [List.length_append, ← hm'.out]; exact hd2) (k := k) (x := z) (by rw [List.getElem?_append_left (by rw [← hm'.out]; exact hlt)]; exact hz)
      obtain ⟨tb, tc, hzv, hzt⟩ := hT'.out.2.1 z (List.mem_of_getElem? hz)
      have hzr : z.ask.chs = y.ask.chs := (bareI_eq hzb none 0 0).2
      rw [it_cells hzv, hzr, (bareI_eq hzb _ _ _).1, Nat.zero_add] at q1
      rw [hzr] at hzt
      have hcall := Lib.hid (fun W (hW : Ext wr W) => leftIt_any W y base tb tc va vc y.ask.chs.length rfl (hyr0.ext (hE.trans hW)) (hqn'.out y (List.mem_of_getElem? hy)) (hzt.ext (hE.trans hW)))
      clear hat hdy hat2 hd2 htw hy hz hzb hv hyr0 hzv hzt hzr
      go_upto_region 6 with fail
      refine bqRegion (Ext wr) (by kernel_rfl) (by kernel_rfl) (Ext.refl _).drew ?_
      iterate 3 (refine bqStep (fun K hK => ?_); go_simp; first | (refine hK _ ?_; clear hK K) | (refine ⟨_, fun _ _ => rfl, hK _ ?_⟩; clear hK K))
      refine bqMid (by rfl) 100 _ (by rfl) b (k * 11) (by rfl) _ _ (fun w' h r u hu => h.cell (q1 r u hu)) Tryz.underlying100 rfl (by exact info_item) ?_
      simp only [Act.put, List.setIfInBounds_toArray, List.set_cons_zero, List.set_cons_succ]
      iterate 3 (refine bqStep (fun K hK => ?_); go_simp; first | (refine hK _ ?_; clear hK K) | (refine ⟨_, fun _ _ => rfl, hK _ ?_⟩; clear hK K))
      refine bqMid (by rfl) 100 _ (by rfl) ob (oo + k * 11) (by rfl) _ _ (fun w' h r u hu => h.cell (p r u hu)) Tryz.underlying100 rfl (by exact info_item) ?_
      simp only [Act.put, List.setIfInBounds_toArray, List.set_cons_zero, List.set_cons_succ]
      refine bqStep (fun K hK => ?_); go_simp
      refine ⟨_, fun w' hw => calls_ext hw (hcall.out w' hw), hK _ ?_⟩; clear hK K
      iterate 1 (refine bqStep (fun K hK => ?_); go_simp; first | (refine hK _ ?_; clear hK K) | (refine ⟨_, fun _ _ => rfl, hK _ ?_⟩; clear hK K))
      refine bqNil (fun w5 hE5 => ?_)
      clear p q1 hcall
      go_wp2_with fail
      go_roundw
      case rel => exact ⟨k + 1, by omega, by go_num, hE.trans hE5⟩
      case measure => simp [intOf]; omega
    · have hli : ¬ (k : Int) < (n : Int) := by omega
      have q1 := its_range (l := q' ++ [spareI]) (by rw [List.length_append, ← hm'.out]; exact hd2) (k := n) (x := spareI) (by rw [List.getElem?_append_right (by rw [← hm'.out]; exact Nat.le_refl _), ← hm'.out, Nat.sub_self]; rfl)
      rw [Nat.zero_add, show It.cells spareI = (itRow spareI none 0 0).toList from rfl] at q1
      have hi1 : (n : Int) + 1 ≤ (cap' : Int) := by omega
      have hi2 : 0 ≤ (n : Int) + 1 := by omega
      have hi3 : ((n : Int) + 1).toNat = n + 1 := by omega
      have hi4 : (n : Int) < ((n : Int) + 1) := by omega
      clear hat2 hd2 htw
      obtain ⟨W2, hW2⟩ : ∃ W, W = wr.alloc (.cells (itRow spareI none 0 0) 100) := ⟨_, rfl⟩
      have hE2 : Ext w W2 := by rw [hW2]; exact hE.alloc _
      have hc0 : W2.cell? ⟨wr.heap.size, 0, none⟩ = some (.int .u64 77) := by rw [hW2, cell_of_row _ _ _ _ _ _ (heap_alloc_new wr _)]; rfl
      have hW2' := Lib.hid hW2
      clear hW2
      go_upto_region 9 with (first | (refine wpList_load_mid (by rfl) 100 (.tmp 42) (by rfl) b (n * 11) (by rfl) (itRow spareI none 0 0).toList _ q1 Tryz.underlying100 rfl (by exact info_item) ?_) | (refine wpList_store_whole (by rfl) 100 (.tmp 6) (.tmp 43) (by rfl) wr _ (itRow spareI none 0 0) wr.heap.size (by rfl) rfl (by rfl) (by exact info_item) (by rfl) (itRow_one _ _ _ _) ?_; rw [← hW2'.out]) | fail)
      clear hi1 hi2 hi3 hi4 q1
      go_wp2_with fail
      go_ret
      exact ⟨rfl, hE2⟩
end Go.Proofs.YtmopjmhapeinjaaGreatDoor
