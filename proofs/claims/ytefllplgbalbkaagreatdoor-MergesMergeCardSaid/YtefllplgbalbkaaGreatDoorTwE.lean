/- A twin of entries, with a mark in the room behind; is it still what it was made of? No condition. -/
import Derived.Test.YtefllplgbalbkaaGreatDoorMgA
import Derived.Deep.CutRange
namespace Go.Proofs.YtefllplgbalbkaaGreatDoor
open Go.RowKit
set_option maxRecDepth 100000
set_option maxHeartbeats 2000000
def spareE : En := ⟨⟨⟨#[115, 112, 97, 114, 101]⟩, 0, false⟩, ⟨#[]⟩⟩
/-- A twin: the entries, and behind them the mark, in a block of the call's own. -/
def TwE (w : World) (base : Nat) (b n cap : Nat) (l : List En) : Prop := OwnC w base 69 4 (.slice (some ⟨b, 0, none⟩) (n + 1) cap) (n + 1) ((l ++ [spareE]).flatMap enL)
theorem TwE.ext {w w' : World} {base b n cap : Nat} {l : List En} (h : TwE w base b n cap l) (he : Ext w w') : TwE w' base b n cap l := OwnC.ext h he
theorem flat_len (l : List En) : (l.flatMap enL).length = l.length * 4 := by
  induction l with
  | nil => rfl
  | cons x l ih => rw [List.flatMap_cons, List.length_append, ih, List.length_cons, Nat.add_mul]; show 4 + _ = _; omega
theorem TwE.own {w : World} {base b n cap : Nat} {l : List En} (h : TwE w base b n cap l) (hn : n = l.length) : OwnC w base 69 4 (.slice (some ⟨b, 0, none⟩) n cap) n (l.flatMap enL) := by
  have := OwnC.cut (m := n) h (by omega)
  rw [List.flatMap_append, ← show (l.flatMap enL).length = n * 4 by rw [hn]; exact flat_len l, List.take_left] at this
  exact this
theorem TwE.cap {w : World} {base b n cap : Nat} {l : List En} (h : TwE w base b n cap l) : n + 1 ≤ cap := by
  obtain ⟨a, c, e, h1, _⟩ := OwnC.form h
  injection e with _ _ e
  omega
theorem twinE_any (w : World) (l : List En) (a : Option Addr) (cap n : Nat) (hnl : n = l.length) (hr : RowIs w 4 (.slice a n cap) n (l.flatMap enL)) (hn : n ≤ 50000) :
    Calls Tryz.prog 7 #[.slice a n cap] w fun e w' => ∃ b cap', e = .returned (.slice (some ⟨b, 0, none⟩) n cap') ∧ TwE w' w.heap.size b n cap' l ∧ Ext w w' := by
  have hrn' := Lib.hid hnl
  have hr' := Lib.hid hr
  clear hnl hr
  obtain ⟨ir, hir, hiz, his, hib⟩ : ∃ i, Tryz.prog.info? 69 = some i ∧ i.zero = some (.agg #[.string ⟨#[]⟩, .int .u64 0, .bool false, .string ⟨#[]⟩]) ∧ i.size = 4 ∧ i.bytes = 48 := by
    have h : (Tryz.prog.info? 69).map (fun i => (i.zero, i.size, i.bytes)) = some (some (.agg #[.string ⟨#[]⟩, .int .u64 0, .bool false, .string ⟨#[]⟩]), 4, 48) := by kernel_rfl
    obtain ⟨i, hi, he⟩ := Option.map_eq_some_iff.1 h
    simp only [Prod.mk.injEq] at he
    exact ⟨i, hi, he.1, he.2.1, he.2.2⟩
  go_enter Tryz.func7, Tryz.ntmps7
  go_wp2_with (first | (refine wpList_make_own w (by rfl) (.const (.int .i64 0)) (.tmp 7) 22 (by rfl) w.heap.size 69 ir _ 4 Tryz.underlying22 hir hiz his .i64 .i64 ((n : Int) + 1) (n + 1) (by rfl) (by rfl) (by omega) (by rw [hib]; omega) (by unfold maxLen; omega) (Nat.le_refl _) ?_; go_loud (intro w1 hown1 hgr1; have hE1 : Ext w w1 := Below.grown (Below.refl _ _) hgr1 (Nat.le_refl _) (fun _ h => by cases h))) | fail)
  go_wp2_with fail
  go_loopw [3, 4] (fun out i wr => ∃ (k : Nat) (oa : Option Addr) (oc : Nat), k ≤ n ∧ i = .int .i64 k ∧ out = .slice oa k oc ∧ OwnC wr w.heap.size 69 4 (.slice oa k oc) k ((l.take k).flatMap enL) ∧ Ext w wr) (fun _ i _ => n - (intOf i).toNat)
  case atStart => exact ⟨0, _, _, by omega, rfl, rfl, OwnC.of_own hown1, hE1⟩
  case round =>
    obtain ⟨k, oa, oc, hk, rfl, rfl, hown, hEr⟩ := hrel
    by_cases hlt : k < n
    · have hli : (k : Int) < (n : Int) := by omega
      obtain ⟨r, hr⟩ : ∃ r, l[k]? = some r := ⟨_, List.getElem?_eq_getElem (by rw [← hrn'.out]; exact hlt)⟩
      obtain ⟨b, off, hat⟩ := (hr'.out.ext hEr).at
      obtain ⟨rfl, _, hd⟩ := hat (by omega)
      have hrg := ens_range (by rw [← hrn'.out]; exact hd) hr
      have htk : l.take (k + 1) = l.take k ++ [r] := by rw [List.take_add_one, hr]; rfl
      have htk' := Lib.hid htk
      have hsz := hEr.size
      clear hat hd hr htk
      go_wp2_with (first | (refine wpList_load_mid (by rfl) 69 (.tmp 18) (by rfl) b (off + k * 4) (by rfl) (enRow r).toList _ hrg Tryz.underlying69 rfl (by exact info_entry) ?_) | (refine wpList_bs_entry (by rfl) (.tmp 19) (by rfl) r (by rfl) ?_) | (at_builtin; go_loud (refine wpList_append_c (by rfl) (.tmp 15) (.tmp 20) 22 69 (by rfl) Tryz.underlying22 el_entry wr w.heap.size k _ (.slice oa k oc) (by rfl) hown (enRow r) (by rfl) (by rfl) (en_all r) (by omega) (by omega) hsz ?_); go_loud (intro v' w3 hA3; obtain ⟨oa', oc', rfl, _⟩ := hA3.own.form; have hown2 := hA3.own; have hX3 : Ext w w3 := Below.trans hEr hA3.below)) | fail)
      go_roundw
      case rel =>
        refine ⟨k + 1, oa', oc', by omega, by go_num, rfl, ?_, hX3⟩
        rw [htk'.out, List.flatMap_append, show List.flatMap enL [r] = (enRow r).toList from rfl]
        exact hown2
      case measure => simp [intOf]; omega
    · have hli : ¬ (k : Int) < (n : Int) := by omega
      obtain rfl : k = n := by omega
      rw [List.take_of_length_le (by rw [← hrn'.out]; exact Nat.le_refl _)] at hown
      have hxl : (l.flatMap enL).length = k * 4 := hown.1
      clear hr' hown1
      have hsz := hEr.size
      go_wp2_with (first | (at_builtin; go_loud (refine wpList_append_c (by rfl) (.tmp 22) (.tmp 25) 22 69 (by rfl) Tryz.underlying22 el_entry wr w.heap.size k _ (.slice oa k oc) (by rfl) hown (enRow spareE) (by rfl) (by rfl) (en_all spareE) (by omega) (by omega) hsz ?_); go_loud (intro v' w3 hA3; obtain ⟨oa', oc', rfl, hoc, hoa⟩ := hA3.own.form); go_loud (have hX3 : Ext w w3 := Below.trans hEr hA3.below); go_loud (have hkc : (k : Int) ≤ (oc' : Int) := by omega)) | fail)
      go_ret
      obtain ⟨b, rfl⟩ : ∃ b, oa' = some ⟨b, 0, none⟩ := by
        rcases hoa with e | e
        · injection e with _ e
          omega
        · exact e
      refine ⟨b, oc', rfl, ?_, hX3⟩
      unfold TwE
      rw [List.flatMap_append]
      exact hA3.own
theorem leftE_any (w : World) (l : List En) (base b cap' : Nat) (a : Option Addr) (cap n : Nat) (hnl : n = l.length) (hr : RowIs w 4 (.slice a n cap) n (l.flatMap enL)) (hn : n ≤ 50000) (hT : TwE w base b n cap' l) :
    Calls Tryz.prog 11 #[.slice (some ⟨b, 0, none⟩) n cap', .slice a n cap] w fun e w' => e = .returned (.bool true) ∧ Ext w w' := by
  have hn' := Lib.hid hnl
  have hr' := Lib.hid hr
  have hT' := Lib.hid hT
  have hcap := hT.cap
  clear hnl hr hT
  have hci : ¬ (cap' : Int) ≤ (n : Int) := by omega
  go_enter Tryz.func11, Tryz.ntmps11
  go_wp2_with fail
  go_loopw [5] (fun i wr => ∃ k : Nat, k ≤ n ∧ i = .int .i64 k ∧ Ext w wr) (fun i _ => n - (intOf i).toNat)
  case atStart => exact ⟨0, by omega, rfl, Ext.refl _⟩
  case round =>
    obtain ⟨k, hk, rfl, hE⟩ := hrel
    have htw := (OwnC.row (hT'.out.ext hE))
    obtain ⟨tb, tof, hat2⟩ := htw.at
    obtain ⟨e1, _, hd2⟩ := hat2 (by omega)
    injection e1 with e1
    injection e1 with e1 e2
    subst e1 e2
    by_cases hlt : k < n
    · have hli : (k : Int) < (n : Int) := by omega
      obtain ⟨r, hrr⟩ : ∃ r, l[k]? = some r := ⟨_, List.getElem?_eq_getElem (by rw [← hn'.out]; exact hlt)⟩
      obtain ⟨lb, off, hat⟩ := (hr'.out.ext hE).at
      obtain ⟨rfl, _, hd⟩ := hat (by omega)
      have p := ens_range (by rw [← hn'.out]; exact hd) hrr
      have q := ens_range (l := l ++ [spareE]) (by rw [List.length_append, ← hn'.out]; exact hd2) (k := k) (x := r) (by rw [List.getElem?_append_left (by rw [← hn'.out]; exact hlt)]; exact hrr)
      rw [Nat.zero_add] at q
      clear hat hd hat2 hd2 hrr htw
      go_upto_region 6 with fail
      refine bqRegion (Ext wr) (by kernel_rfl) (by kernel_rfl) (Ext.refl _).drew ?_
      iterate 3 (refine bqStep (fun K hK => ?_); go_simp; first | (refine hK _ ?_; clear hK K) | (refine ⟨_, fun _ _ => rfl, hK _ ?_⟩; clear hK K))
      refine bqMid (by rfl) 69 _ (by rfl) b (k * 4) (by rfl) _ _ (fun w' h r u hu => h.cell (q r u hu)) Tryz.underlying69 rfl (by exact info_entry) ?_
      iterate 3 (refine bqStep (fun K hK => ?_); go_simp; first | (refine hK _ ?_; clear hK K) | (refine ⟨_, fun _ _ => rfl, hK _ ?_⟩; clear hK K))
      refine bqMid (by rfl) 69 _ (by rfl) lb (off + k * 4) (by rfl) _ _ (fun w' h r u hu => h.cell (p r u hu)) Tryz.underlying69 rfl (by exact info_entry) ?_
      refine ⟨wpQuiet_neq_en (by rfl) (.tmp 28) (.tmp 32) (by rfl) r r (by rfl) (by rfl) ?_⟩
      rw [sameE_iff.2 rfl]
      refine wpQuiet_nil (fun w5 hE5 => ?_)
      simp only [Act.put, List.setIfInBounds_toArray, List.set_cons_zero, List.set_cons_succ, Bool.not_true]
      go_wp2_with fail
      go_roundw
      case rel => exact ⟨k + 1, by omega, by go_num, hE.trans hE5⟩
      case measure => simp [intOf]; omega
    · have hli : ¬ (k : Int) < (n : Int) := by omega
      have q := ens_range (l := l ++ [spareE]) (by rw [List.length_append, ← hn'.out]; exact hd2) (k := n) (x := spareE) (by rw [List.getElem?_append_right (by rw [← hn'.out]; exact Nat.le_refl _), ← hn'.out, Nat.sub_self]; rfl)
      rw [Nat.zero_add] at q
      have hi1 : (n : Int) + 1 ≤ (cap' : Int) := by omega
      have hi2 : 0 ≤ (n : Int) + 1 := by omega
      have hi3 : ((n : Int) + 1).toNat = n + 1 := by omega
      have hi4 : (n : Int) < ((n : Int) + 1) := by omega
      clear hat2 hd2 htw
      obtain ⟨W2, hW2⟩ : ∃ W, W = wr.alloc (.cells (enRow spareE) 69) := ⟨_, rfl⟩
      have hE2 : Ext w W2 := by rw [hW2]; exact hE.alloc _
      have hc0 : W2.cell? ⟨wr.heap.size, 0, none⟩ = some (.string ⟨#[115, 112, 97, 114, 101]⟩) := by rw [hW2, cell_of_row _ _ _ _ _ _ (heap_alloc_new wr _)]; rfl
      have hW2' := Lib.hid hW2
      clear hW2
      go_upto_region 9 with (first | (refine wpList_load_mid (by rfl) 69 (.tmp 41) (by rfl) b (n * 4) (by rfl) (enRow spareE).toList _ q Tryz.underlying69 rfl (by exact info_entry) ?_) | (refine wpList_store_whole (by rfl) 69 (.tmp 6) (.tmp 42) (by rfl) wr _ (enRow spareE) wr.heap.size (by rfl) rfl (by rfl) (by exact info_entry) (by rfl) (en_one spareE) ?_; rw [← hW2'.out]) | fail)
      clear hi1 hi2 hi3 hi4 q
      go_wp2_with fail
      go_ret
      exact ⟨rfl, hE2⟩
end Go.Proofs.YtefllplgbalbkaaGreatDoor
