/- Is a twin of what was said still what it was made of? No condition. -/
import Derived.Test.YtmopjmhapeinjaaGreatDoorGrA5
import Derived.Test.YtmopjmhapeinjaaGreatDoorGrB1
import Derived.Test.YtmopjmhapeinjaaGreatDoorGrB0
namespace Go.Proofs.YtmopjmhapeinjaaGreatDoor
open Go.RowKit
set_option maxRecDepth 100000
set_option maxHeartbeats 4000000
theorem leftRp_any (w : World) (i : Int) (y : Bool) (l : List Rw) (base b cap' : Nat) (a : Option Addr) (cap n : Nat) (hn : n = l.length) (hr : RowIs w 2 (.slice a n cap) n (l.flatMap rwL)) (hl : n ≤ 50000) (hT : TwR w base b n cap' l) :
    Calls Tryz.prog 49 #[.agg #[.int .i64 i, .bool y, .slice (some ⟨b, 0, none⟩) n cap'], .agg #[.int .i64 i, .bool y, .slice a n cap]] w fun e w' => e = .returned (.bool true) ∧ Ext w w' := by
  obtain ⟨X, hX⟩ : ∃ X, X = w.heap.size := ⟨_, rfl⟩
  obtain ⟨V, hV⟩ : ∃ W, W = (w.alloc (.cells (reH i y (.slice (some ⟨b, 0, none⟩) n cap')) 61)).alloc (.cells (reH i y (.slice a n cap)) 61) := ⟨_, rfl⟩
  have hE0 : Ext w V := by rw [hV]; exact ((Ext.refl _).alloc _).alloc _
  have h1 : V.heap[X]? = some (.cells (reH i y (.slice (some ⟨b, 0, none⟩) n cap')) 61 (0, 0)) := by rw [hV, hX]; exact ((Ext.refl _).alloc _).row (heap_alloc_new w _)
  have h2 : V.heap[X + 1]? = some (.cells (reH i y (.slice a n cap)) 61 (0, 0)) := by
    have h1 := heap_alloc_new (w.alloc (.cells (reH i y (.slice (some ⟨b, 0, none⟩) n cap')) 61)) (.cells (reH i y (.slice a n cap)) 61)
    rw [show (w.alloc (.cells (reH i y (.slice (some ⟨b, 0, none⟩) n cap')) 61)).heap.size = X + 1 by rw [hX]; simp] at h1
    rw [hV]; exact h1
  obtain ⟨x0, x1, x2⟩ := re_cells h1
  obtain ⟨y0, y1, y2⟩ := re_cells h2
  have hcall := Lib.hid (lRows_any V l base b cap' a cap n hn (hr.ext hE0) hl (hT.ext hE0))
  have hV' := Lib.hid hV
  have hX' := Lib.hid hX
  clear hr hn hV hX h1 h2 hT
  unfold reH at hV'
  cases y
  all_goals
    go_enter Tryz.func49, Tryz.ntmps49
    go_upto_region 1 with fail
    rw [← hV'.out, ← hX'.out]
    go_wp2_with fail
    refine hcall.out.mono ?_
    rintro e w2 ⟨rfl, hE2⟩
    go_wp2_with fail
    go_ret
    exact ⟨rfl, hE0.trans hE2⟩
theorem leftSd_any (w : World) (x : Sa) (base b cap' : Nat) (a : Option Addr) (cap n : Nat) (hn : n = x.rows.length) (hr : RowIs w 2 (.slice a n cap) n (x.rows.flatMap rwL)) (hl : n ≤ 50000) (hT : TwR w base b n cap' x.rows) :
    Calls Tryz.prog 118 #[.agg (saRow x (some ⟨b, 0, none⟩) n cap'), .agg (saRow x a n cap)] w fun e w' => e = .returned (.bool true) ∧ Ext w w' := by
  obtain ⟨X, hX⟩ : ∃ X, X = w.heap.size := ⟨_, rfl⟩
  obtain ⟨V, hV⟩ : ∃ W, W = (w.alloc (.cells (saRow x (some ⟨b, 0, none⟩) n cap') 136)).alloc (.cells (saRow x a n cap) 136) := ⟨_, rfl⟩
  have hE0 : Ext w V := by rw [hV]; exact ((Ext.refl _).alloc _).alloc _
  have h1 : V.heap[X]? = some (.cells (saRow x (some ⟨b, 0, none⟩) n cap') 136 (0, 0)) := by rw [hV, hX]; exact ((Ext.refl _).alloc _).row (heap_alloc_new w _)
  have h2 : V.heap[X + 1]? = some (.cells (saRow x a n cap) 136 (0, 0)) := by
    have h1 := heap_alloc_new (w.alloc (.cells (saRow x (some ⟨b, 0, none⟩) n cap') 136)) (.cells (saRow x a n cap) 136)
    rw [show (w.alloc (.cells (saRow x (some ⟨b, 0, none⟩) n cap') 136)).heap.size = X + 1 by rw [hX]; simp] at h1
    rw [hV]; exact h1
  obtain ⟨x0, x1, x2, x3, x4⟩ := sa_cs h1
  obtain ⟨y0, y1, y2, y3, y4⟩ := sa_cs h2
  have hcall := Lib.hid (leftRp_any V x.e x.yes x.rows base b cap' a cap n hn (hr.ext hE0) hl (hT.ext hE0))
  have hV' := Lib.hid hV
  have hX' := Lib.hid hX
  clear hr hn hV hX h1 h2 hT
  unfold saRow at hV' ⊢
  go_enter Tryz.func118, Tryz.ntmps118
  go_upto_region 1 with fail
  rw [← hV'.out, ← hX'.out]
  go_wp2_with fail
  refine hcall.out.mono ?_
  rintro e w2 ⟨rfl, hE2⟩
  go_wp2_with fail
  go_ret
  exact ⟨rfl, hE0.trans hE2⟩
theorem bare_eq {x y : Sa} (h : x.bare = y.bare) (a : Option Addr) (n c : Nat) : saRow x a n c = saRow y a n c ∧ x.rows = y.rows := by
  obtain ⟨a1, a2, a3, a4, a5, a6⟩ := x
  obtain ⟨b1, b2, b3, b4, b5, b6⟩ := y
  unfold Sa.bare at h
  simp only [Sa.mk.injEq] at h
  obtain ⟨rfl, rfl, rfl, rfl, rfl, _⟩ := h
  exact ⟨rfl, rfl⟩
theorem map_at {l l' : List Sa} (h : l.map Sa.bare = l'.map Sa.bare) {k : Nat} {y : Sa} (hy : l[k]? = some y) : ∃ z, l'[k]? = some z ∧ z.bare = y.bare := by
  have h1 : (l'.map Sa.bare)[k]? = some y.bare := by rw [← h, List.getElem?_map, hy]; rfl
  rw [List.getElem?_map] at h1
  obtain ⟨z, hz, he⟩ := Option.map_eq_some_iff.1 h1
  exact ⟨z, hz, he⟩
theorem leftSds_any (w : World) (q q' : List Sa) (base b cap' : Nat) (qa : Option Addr) (qc n : Nat) (hnq : n = q.length) (hqr : RowIs w 5 (.slice qa n qc) n (q.flatMap Sa.cells)) (hn : n ≤ 50000) (hqv : SaAt w q) (hqn : ∀ p ∈ q, p.rows.length ≤ 50000) (hbr : q'.map Sa.bare = q.map Sa.bare) (hT : TwS w base b n cap' q') :
    Calls Tryz.prog 48 #[.slice (some ⟨b, 0, none⟩) n cap', .slice qa n qc] w fun e w' => e = .returned (.bool true) ∧ Ext w w' := by
  have hm := Lib.hid hnq
  have hqr' := Lib.hid hqr
  have hqv' := Lib.hid hqv
  have hqn' := Lib.hid hqn
  have hbr' := Lib.hid hbr
  have hT' := Lib.hid hT
  have hcap := hT.cap
  have hm' : Hid (n = q'.length) := Lib.hid (by rw [hnq]; have := congrArg List.length hbr; rw [List.length_map, List.length_map] at this; exact this.symm)
  clear hnq hqr hqv hqn hbr hT
  have hci : ¬ (cap' : Int) ≤ (n : Int) := by omega
  go_enter Tryz.func48, Tryz.ntmps48
  go_wp2_with fail
  go_loopw [5] (fun i wr => ∃ k : Nat, k ≤ n ∧ i = .int .i64 k ∧ Ext w wr) (fun i _ => n - (intOf i).toNat)
  case atStart => exact ⟨0, by omega, rfl, Ext.refl _⟩
  case round =>
    obtain ⟨k, hk, rfl, hE⟩ := hrel
    have htw := (OwnC.row (hT'.out.1.ext hE))
    obtain ⟨tb, tof, hat2⟩ := htw.at
    obtain ⟨e1, _, hd2⟩ := hat2 (by omega)
    injection e1 with e1
    injection e1 with e1 e2
    subst e1 e2
    by_cases hlt : k < n
    · have hli : (k : Int) < (n : Int) := by omega
      obtain ⟨y, hy⟩ : ∃ y, q[k]? = some y := ⟨_, List.getElem?_eq_getElem (by rw [← hm.out]; exact hlt)⟩
      obtain ⟨z, hz, hzb⟩ := map_at hbr'.out.symm hy
      obtain ⟨ob, oo, hat⟩ := (hqr'.out.ext hE).at
      obtain ⟨rfl, _, hdy⟩ := hat (by omega)
      have p := sas_range (by rw [← hm.out]; exact hdy) hy
      obtain ⟨va, vc, hv, hyr0⟩ := hqv'.out y (List.mem_of_getElem? hy)
      rw [sa_cells hv] at p
      have q1 := sas_range (l := q' ++ [spareS]) (by rw [List.length_append, ← hm'.out]; exact hd2) (k := k) (x := z) (by rw [List.getElem?_append_left (by rw [← hm'.out]; exact hlt)]; exact hz)
      obtain ⟨tb, tc, hzv, hzt⟩ := hT'.out.2.1 z (List.mem_of_getElem? hz)
      have hzr : z.rows = y.rows := (bare_eq hzb none 0 0).2
      rw [sa_cells hzv, hzr, (bare_eq hzb _ _ _).1, Nat.zero_add] at q1
      rw [hzr] at hzt
      have hcall := Lib.hid (fun W (hW : Ext wr W) => leftSd_any W y base tb tc va vc y.rows.length rfl (hyr0.ext (hE.trans hW)) (hqn'.out y (List.mem_of_getElem? hy)) (hzt.ext (hE.trans hW)))
      clear hat hdy hat2 hd2 htw hy hz hzb hv hyr0 hzv hzt hzr
      go_upto_region 6 with fail
      refine bqRegion (Ext wr) (by kernel_rfl) (by kernel_rfl) (Ext.refl _).drew ?_
      iterate 3 (refine bqStep (fun K hK => ?_); go_simp; first | (refine hK _ ?_; clear hK K) | (refine ⟨_, fun _ _ => rfl, hK _ ?_⟩; clear hK K))
      refine bqMid (by rfl) 136 _ (by rfl) b (k * 5) (by rfl) _ _ (fun w' h r u hu => h.cell (q1 r u hu)) Tryz.underlying136 rfl (by exact info_said) ?_
      simp only [Act.put, List.setIfInBounds_toArray, List.set_cons_zero, List.set_cons_succ]
      iterate 3 (refine bqStep (fun K hK => ?_); go_simp; first | (refine hK _ ?_; clear hK K) | (refine ⟨_, fun _ _ => rfl, hK _ ?_⟩; clear hK K))
      refine bqMid (by rfl) 136 _ (by rfl) ob (oo + k * 5) (by rfl) _ _ (fun w' h r u hu => h.cell (p r u hu)) Tryz.underlying136 rfl (by exact info_said) ?_
      simp only [Act.put, List.setIfInBounds_toArray, List.set_cons_zero, List.set_cons_succ]
      refine bqStep (fun K hK => ?_); go_simp
      refine ⟨_, fun w' hw => calls_ext hw (hcall.out w' hw), hK _ ?_⟩; clear hK K
      iterate 1 (refine bqStep (fun K hK => ?_); go_simp; first | (refine hK _ ?_; clear hK K) | (refine ⟨_, fun _ _ => rfl, hK _ ?_⟩; clear hK K))
      refine bqNil (fun w5 hE5 => ?_)
      clear p q1 hcall
      go_wp2_with fail
      go_roundw
      case rel => exact ⟨k + 1, by omega, by go_num, hE.trans hE5⟩
      case measure => simp [intOf]; omega
    · have hli : ¬ (k : Int) < (n : Int) := by omega
      have q1 := sas_range (l := q' ++ [spareS]) (by rw [List.length_append, ← hm'.out]; exact hd2) (k := n) (x := spareS) (by rw [List.getElem?_append_right (by rw [← hm'.out]; exact Nat.le_refl _), ← hm'.out, Nat.sub_self]; rfl)
      rw [Nat.zero_add, show Sa.cells spareS = (saRow spareS none 0 0).toList from rfl] at q1
      have hi1 : (n : Int) + 1 ≤ (cap' : Int) := by omega
      have hi2 : 0 ≤ (n : Int) + 1 := by omega
      have hi3 : ((n : Int) + 1).toNat = n + 1 := by omega
      have hi4 : (n : Int) < ((n : Int) + 1) := by omega
      clear hat2 hd2 htw
      obtain ⟨W2, hW2⟩ : ∃ W, W = wr.alloc (.cells (saRow spareS none 0 0) 136) := ⟨_, rfl⟩
      have hE2 : Ext w W2 := by rw [hW2]; exact hE.alloc _
      have hc0 : W2.cell? ⟨wr.heap.size, 1, none⟩ = some (.int .u32 77) := by rw [hW2, cell_of_row _ _ _ _ _ _ (heap_alloc_new wr _)]; rfl
      have hW2' := Lib.hid hW2
      clear hW2
      go_upto_region 9 with (first | (refine wpList_load_mid (by rfl) 136 (.tmp 42) (by rfl) b (n * 5) (by rfl) (saRow spareS none 0 0).toList _ q1 Tryz.underlying136 rfl (by exact info_said) ?_) | (refine wpList_store_whole (by rfl) 136 (.tmp 6) (.tmp 43) (by rfl) wr _ (saRow spareS none 0 0) wr.heap.size (by rfl) rfl (by rfl) (by exact info_said) (by rfl) (saRow_one _ _ _ _) ?_; rw [← hW2'.out]) | fail)
      clear hi1 hi2 hi3 hi4 q1
      go_wp2_with fail
      go_ret
      exact ⟨rfl, hE2⟩
end Go.Proofs.YtmopjmhapeinjaaGreatDoor
