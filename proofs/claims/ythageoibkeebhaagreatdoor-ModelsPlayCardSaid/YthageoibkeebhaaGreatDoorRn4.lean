/- The document's state: Said. No condition. -/
import Derived.Test.YthageoibkeebhaaGreatDoorGrP
namespace Go.Proofs.YthageoibkeebhaaGreatDoor
open Go.RowKit
set_option maxRecDepth 100000
set_option maxHeartbeats 4000000
section
variable {base st : Nat} {w : World} {rows : List Rw} {sd : List Sa}
theorem saidsR_any (h : RefM base w st rows sd) (hl : sd.length ≤ 1000000) (hln : ∀ p ∈ sd, p.rows.length ≤ 1000000) : Calls Tryz.prog 20 #[.pointer (some ⟨st, 0, none⟩)] w (SaidsX (sd.map Sa.bare) w) := by
  obtain ⟨ra, rc, sa, sc, hcell, _, hR, _, ⟨hmc, hcx⟩⟩ := h.sees
  obtain ⟨m, hm0⟩ : ∃ n, n = sd.length := ⟨_, rfl⟩
  rw [← hm0] at hcell hR hmc hl
  have hm := Lib.hid hm0
  have hc' : Hid (∀ W, Ext w W → W.cell? ⟨st, 1, none⟩ = some (.slice sa m sc)) := Lib.hid (fun W hE => (hcell W hE).2.1)
  have hR' := Lib.hid hR
  have hvs' : Hid (SaOwn w base sd) := Lib.hid h.vals
  have hln' := Lib.hid hln
  clear hcell hR h hm0 hln
  go_enter Tryz.func20, Tryz.ntmps20
  go_wp2_with fail
  go_loopw [3, 4] (fun out i wr => ∃ (k : Nat) (oa : Option Addr) (oc : Nat) (sd' : List Sa), k ≤ m ∧ i = .int .i64 k ∧ out = .slice oa k oc ∧ Hid (sd'.map Sa.bare = (sd.take k).map Sa.bare) ∧ OwnC wr w.heap.size 87 5 (.slice oa k oc) k (sd'.flatMap Sa.cells) ∧ Hid (SaOwn wr w.heap.size sd') ∧ Ext w wr) (fun _ i _ => m - (intOf i).toNat)
  case atStart => exact ⟨0, none, 0, [], by omega, rfl, rfl, Lib.hid rfl, OwnC.nil _ _ _ _, Lib.hid (SaOwn.nil _ _), Ext.refl _⟩
  case round =>
    obtain ⟨k, oa, oc, sd', hk, rfl, rfl, hbr, hown, hvs, hE⟩ := hrel
    have c1 := hc'.out wr hE
    by_cases hlt : k < m
    · have hli : (k : Int) < (m : Int) := by omega
      obtain ⟨y, hy⟩ : ∃ y, sd[k]? = some y := ⟨_, List.getElem?_eq_getElem (by rw [← hm.out]; exact hlt)⟩
      obtain ⟨ob, oo, hat⟩ := (hR'.out wr hE).at
      obtain ⟨rfl, _, hdy⟩ := hat (by omega)
      have hrg := sas_range (by rw [← hm.out]; exact hdy) hy
      have hyo := hvs'.out y (List.mem_of_getElem? hy)
      obtain ⟨va, vc, hv, _⟩ := hyo.form
      rw [sa_cells hv] at hrg
      have hyr : Hid (∀ W, Ext w W → RowIs W 2 (.slice va y.rows.length vc) y.rows.length (y.rows.flatMap rwL)) := Lib.hid (fun W hE => by rw [← hv]; exact (hyo.ext hE).row)
      have hyn := hln'.out y (List.mem_of_getElem? hy)
      have htk : Hid ((sd.take (k + 1)).map Sa.bare = (sd.take k).map Sa.bare ++ [y.bare]) := Lib.hid (by rw [List.take_add_one, hy, List.map_append]; rfl)
      obtain ⟨g, hg⟩ : ∃ g, g = wr.heap.size := ⟨_, rfl⟩
      obtain ⟨W5, hW5⟩ : ∃ W, W = wr.alloc (.cells (saRow y va y.rows.length vc) 87) := ⟨_, rfl⟩
      have hr5 : W5.heap[g]? = some (.cells (saRow y va y.rows.length vc) 87 (0, 0)) := by rw [hW5, hg]; exact heap_alloc_new wr _
      have hE5 : Ext wr W5 := by rw [hW5]; exact (Ext.refl _).alloc _
      have hsz := hE.size
      have hs5 := hE5.size
      have hgW : g < W5.heap.size := (Array.getElem?_eq_some_iff.1 hr5).1
      have hW5' := Lib.hid hW5
      have hr5' := Lib.hid hr5
      have hg' := Lib.hid hg
      clear hat hdy hy hv hyo hW5 hr5 hg
      go_upto_region 6 with (first | (refine wpList_load_mid (by rfl) 87 (.tmp 20) (by rfl) ob (oo + k * 5) (by rfl) (saRow y va y.rows.length vc).toList _ hrg Tryz.underlying87 rfl (by exact info_said) ?_) | (refine wpList_store_whole (by rfl) 87 (.tmp 5) (.tmp 21) (by rfl) wr _ (saRow y va y.rows.length vc) wr.heap.size (by rfl) rfl (by rfl) (by exact info_said) (by rfl) (saRow_one _ _ _ _) ?_; rw [← hW5'.out, ← hg'.out]) | fail)
      have hrr := sa_reply_range hr5'.out
      clear c1 hrg
      go_wp2_with (first | (refine wpList_load_mid (by rfl) 74 (.tmp 22) (by rfl) g 2 (by rfl) (reH y.e y.yes (.slice va y.rows.length vc)).toList _ hrr Tryz.underlying74 rfl (by exact info_reply) ?_) | fail)
      refine (twinR_any W5 y.e y.yes y.rows va vc (hyr.out W5 (hE.trans hE5)) hyn).mono ?_
      rintro e w6 ⟨a2, c2, rfl, ho2, hE6⟩
      have hr6 := hE6.row hr5'.out
      have hth := sa_there hr6
      have hO7 : OffB (fun k => k = g) w6 (w6.setCells g 2 (reH y.e y.yes (.slice a2 y.rows.length c2)).toList) := OffB.setCells (B := fun k => k = g) (OffB.refl _) rfl _ _
      have hr7 := sa_put hr6 a2 y.rows.length c2
      have hE56 := hE5.trans hE6
      have hE7 : Ext wr (w6.setCells g 2 (reH y.e y.yes (.slice a2 y.rows.length c2)).toList) := ext_setCells hE56 (by rw [hg'.out]; exact Nat.le_refl _) _ _
      have ho7 := Lib.hid ((ho2.offB hO7 (fun q hq hB => by have h5 := (ho2.lt q hq).1; have hB : q = g := hB; omega)).weak (show w.heap.size ≤ W5.heap.size by omega))
      clear hrr hr6 ho2
      go_upto_region 7 with (first | (refine wpList_store_mid (by rfl) 74 (.tmp 25) (.tmp 24) (by rfl) g 2 (reH y.e y.yes (.slice a2 y.rows.length c2)) (by rfl) (by rfl) hth (by exact info_reply) (reH_one _ _ _ _ _) ?_) | fail)
      generalize w6.setCells g 2 (reH y.e y.yes (.slice a2 y.rows.length c2)).toList = W7 at *
      have hrw := sa_whole hr7
      have hown7 := hown.ext hE7
      have hvs7 := Lib.hid (hvs.out.ext hE7)
      have hs7 : w.heap.size ≤ W7.heap.size := (hE.trans hE7).size
      clear hth hO7 hown hvs hE56 hE6 hE5
      go_wp2_with (first | (refine wpList_load_mid (by rfl) 87 (.tmp 5) (by rfl) g 0 (by rfl) (saRow y a2 y.rows.length c2).toList _ hrw Tryz.underlying87 rfl (by exact info_said) ?_) | (refine wpList_bs_sa (by rfl) (.tmp 27) (by rfl) y a2 y.rows.length c2 (by rfl) ?_) | (at_builtin; go_loud (refine wpList_append_c (by rfl) (.tmp 26) (.tmp 28) 23 87 (by rfl) Tryz.underlying23 el_said W7 w.heap.size k _ (.slice oa k oc) (by rfl) hown7 (saRow y a2 y.rows.length c2) (by rfl) (by rfl) (sar_all _ _ _ _) (by omega) (by omega) hs7 ?_); go_loud (intro v' w8 hA; obtain ⟨oa', oc', rfl, _⟩ := hA.own.form; have ho8 := Lib.hid hA.own; have hX8 : Ext w w8 := Below.trans (hE.trans hE7) hA.below; have hgr := Lib.hid hA.grown; clear hA)) | fail)
      go_roundw
      case rel =>
        refine ⟨k + 1, oa', oc', sd' ++ [⟨y.cl, y.num, y.e, y.yes, y.rows, .slice a2 y.rows.length c2⟩], by omega, by go_num, rfl, Lib.hid ?_, ?_, Lib.hid (SaOwn.snoc (x := ⟨y.cl, y.num, y.e, y.yes, y.rows, .slice a2 y.rows.length c2⟩) ?_ ?_), hX8⟩
        · rw [htk.out, List.map_append, hbr.out]; rfl
        · rw [List.flatMap_append]; exact ho8.out
        · exact fun p hp => own_kept_ty (by decide) (hvs7.out p hp) hown7 hgr.out
        · exact own_kept_ty (by decide) ho7.out hown7 hgr.out
      case measure => simp [intOf]; omega
    · have hli : ¬ (k : Int) < (m : Int) := by omega
      have hkl : sd.take k = sd := List.take_of_length_le (by rw [← hm.out]; omega)
      rw [hkl] at hbr
      have hkm : Hid (k = (sd.map Sa.bare).length) := Lib.hid (by rw [List.length_map, ← hm.out]; omega)
      go_wp2_with fail
      go_ret
      unfold SaidsX
      rw [← hkm.out]
      exact ⟨sd', oa, oc, rfl, hbr.out, hown, hvs.out, hE⟩
end
end Go.Proofs.YthageoibkeebhaaGreatDoor
