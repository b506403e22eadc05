/- A twin of numbers, with a mark in the room behind; is it still what it was made of? No condition. -/
import Derived.Test.YtefllplgbalbkaaGreatDoorMgC
namespace Go.Proofs.YtefllplgbalbkaaGreatDoor
open Go.RowKit
set_option maxRecDepth 100000
set_option maxHeartbeats 2000000
/-- A twin: the numbers, and behind them the mark, in a block of the call's own. -/
def TwN (w : World) (base : Nat) (b n cap : Nat) (l : List Nat) : Prop := OwnC w base 23 1 (.slice (some ⟨b, 0, none⟩) (n + 1) cap) (n + 1) (nuL (l ++ [77]))
theorem TwN.ext {w w' : World} {base b n cap : Nat} {l : List Nat} (h : TwN w base b n cap l) (he : Ext w w') : TwN w' base b n cap l := OwnC.ext h he
theorem nu_len (l : List Nat) : (nuL l).length = l.length := by unfold nuL; rw [List.length_map]
theorem TwN.own {w : World} {base b n cap : Nat} {l : List Nat} (h : TwN w base b n cap l) (hn : n = l.length) : OwnC w base 23 1 (.slice (some ⟨b, 0, none⟩) n cap) n (nuL l) := by
  unfold TwN at h
  rw [nuL, List.map_append] at h
  exact tn_cut h (by rw [nu_len, hn, Nat.mul_one])
theorem TwN.cap {w : World} {base b n cap : Nat} {l : List Nat} (h : TwN w base b n cap l) : n + 1 ≤ cap := by
  obtain ⟨a, c, e, h1, _⟩ := OwnC.form h
  injection e with _ _ e
  omega
theorem twinN_any (w : World) (l : List Nat) (a : Option Addr) (cap rn : Nat) (hrn : rn = l.length) (hr : RowIs w 1 (.slice a rn cap) rn (nuL l)) (hn : rn ≤ 50000) :
    Calls Tryz.prog 15 #[.slice a rn cap] w fun e w' => ∃ b cap', e = .returned (.slice (some ⟨b, 0, none⟩) rn cap') ∧ TwN w' w.heap.size b rn cap' l ∧ Ext w w' := by
  have hrn' := Lib.hid hrn
  have hr' := Lib.hid hr
  clear hrn hr
  obtain ⟨ir, hir, hiz, his, hib⟩ : ∃ i, Tryz.prog.info? 23 = some i ∧ i.zero = some (.int .u64 0) ∧ i.size = 1 ∧ i.bytes = 8 := by
    have h : (Tryz.prog.info? 23).map (fun i => (i.zero, i.size, i.bytes)) = some (some (.int .u64 0), 1, 8) := by kernel_rfl
    obtain ⟨i, hi, he⟩ := Option.map_eq_some_iff.1 h
    simp only [Prod.mk.injEq] at he
    exact ⟨i, hi, he.1, he.2.1, he.2.2⟩
  go_enter Tryz.func15, Tryz.ntmps15
  go_wp2_with (first | (refine wpList_make_own w (by rfl) (.const (.int .i64 0)) (.tmp 7) 51 (by rfl) w.heap.size 23 ir _ 1 Tryz.underlying51 hir hiz his .i64 .i64 ((rn : Int) + 1) (rn + 1) (by rfl) (by rfl) (by omega) (by rw [hib]; omega) (by unfold maxLen; omega) (Nat.le_refl _) ?_; go_loud (intro w1 hown1 hgr1; have hE1 : Ext w w1 := Below.grown (Below.refl _ _) hgr1 (Nat.le_refl _) (fun _ h => by cases h))) | fail)
  go_wp2_with fail
  go_loopw [3, 4] (fun out i wr => ∃ (k : Nat) (oa : Option Addr) (oc : Nat), k ≤ rn ∧ i = .int .i64 k ∧ out = .slice oa k oc ∧ OwnC wr w.heap.size 23 1 (.slice oa k oc) k (nuL (l.take k)) ∧ Ext w wr) (fun _ i _ => rn - (intOf i).toNat)
  case atStart => exact ⟨0, _, _, by omega, rfl, rfl, OwnC.of_own hown1, hE1⟩
  case round =>
    obtain ⟨k, oa, oc, hk, rfl, rfl, hown, hEr⟩ := hrel
    by_cases hlt : k < rn
    · have hli : (k : Int) < (rn : Int) := by omega
      obtain ⟨r, hr⟩ : ∃ r, l[k]? = some r := ⟨_, List.getElem?_eq_getElem (by rw [← hrn'.out]; exact hlt)⟩
      obtain ⟨b, off, hat⟩ := (hr'.out.ext hEr).at
      obtain ⟨rfl, _, hd⟩ := hat (by omega)
      have hkc := hd k (by omega)
      rw [nuL, List.getElem?_map, hr] at hkc
      have hrg : wr.cell? ⟨b, off + k, none⟩ = some (.int .u64 (r : Int)) := hkc
      have htk : l.take (k + 1) = l.take k ++ [r] := by rw [List.take_add_one, hr]; rfl
      have htk' := Lib.hid htk
      have hsz := hEr.size
      clear hat hd hr htk hkc
      go_wp2_with (first | (at_builtin; go_loud (refine wpList_append_c (by rfl) (.tmp 15) (.tmp 20) 51 23 (by rfl) Tryz.underlying51 el_u64 wr w.heap.size k _ (.slice oa k oc) (by rfl) hown #[.int .u64 (r : Int)] (by rfl) (by rfl) (by simp [Value.oneCell']) (by omega) (by omega) hsz ?_); go_loud (intro v' w3 hA3; obtain ⟨oa', oc', rfl, _⟩ := hA3.own.form; have hown2 := hA3.own; have hX3 : Ext w w3 := Below.trans hEr hA3.below)) | fail)
      go_roundw
      case rel =>
        refine ⟨k + 1, oa', oc', by omega, by go_num, rfl, ?_, hX3⟩
        rw [htk'.out, nuL, List.map_append]
        simpa [nuL] using hown2
      case measure => simp [intOf]; omega
    · have hli : ¬ (k : Int) < (rn : Int) := by omega
      obtain rfl : k = rn := by omega
      rw [List.take_of_length_le (by rw [← hrn'.out]; exact Nat.le_refl _)] at hown
      clear hrn' hr' hown1
      have hsz := hEr.size
      go_wp2_with (first | (at_builtin; go_loud (refine wpList_append_c (by rfl) (.tmp 22) (.tmp 23) 51 23 (by rfl) Tryz.underlying51 el_u64 wr w.heap.size k _ (.slice oa k oc) (by rfl) hown #[.int .u64 77] (by rfl) (by rfl) (by simp [Value.oneCell']) (by omega) (by omega) hsz ?_); go_loud (intro v' w3 hA3; obtain ⟨oa', oc', rfl, hoc, hoa⟩ := hA3.own.form); go_loud (have hX3 : Ext w w3 := Below.trans hEr hA3.below); go_loud (have hkc : (k : Int) ≤ (oc' : Int) := by omega)) | fail)
      go_ret
      obtain ⟨b, rfl⟩ : ∃ b, oa' = some ⟨b, 0, none⟩ := by
        rcases hoa with e | e
        · injection e with _ e
          omega
        · exact e
      refine ⟨b, oc', rfl, ?_, hX3⟩
      unfold TwN
      rw [nuL, List.map_append]
      exact hA3.own
theorem leftN_any (w : World) (l : List Nat) (base b cap' : Nat) (a : Option Addr) (cap n : Nat) (hnl : n = l.length) (hr : RowIs w 1 (.slice a n cap) n (nuL l)) (hn : n ≤ 50000) (hT : TwN w base b n cap' l) :
    Calls Tryz.prog 19 #[.slice (some ⟨b, 0, none⟩) n cap', .slice a n cap] w fun e w' => e = .returned (.bool true) ∧ Ext w w' := by
  have hn' := Lib.hid hnl
  have hr' := Lib.hid hr
  have hT' := Lib.hid hT
  have hcap := hT.cap
  clear hnl hr hT
  have hci : ¬ (cap' : Int) ≤ (n : Int) := by omega
  go_enter Tryz.func19, Tryz.ntmps19
  go_wp2_with fail
  go_loopw [5] (fun i wr => ∃ k : Nat, k ≤ n ∧ i = .int .i64 k ∧ Ext w wr) (fun i _ => n - (intOf i).toNat)
  case atStart => exact ⟨0, by omega, rfl, Ext.refl _⟩
  case round =>
    obtain ⟨k, hk, rfl, hE⟩ := hrel
    have htw := (OwnC.row (hT'.out.ext hE))
    obtain ⟨tb, tof, hat2⟩ := htw.at
    obtain ⟨e1, _, hd2⟩ := hat2 (by omega)
    injection e1 with e1
    injection e1 with e1 e2
    subst e1 e2
    by_cases hlt : k < n
    · have hli : (k : Int) < (n : Int) := by omega
      obtain ⟨r, hrr⟩ : ∃ r, l[k]? = some r := ⟨_, List.getElem?_eq_getElem (by rw [← hn'.out]; exact hlt)⟩
      obtain ⟨lb, off, hat⟩ := (hr'.out.ext hE).at
      obtain ⟨rfl, _, hd⟩ := hat (by omega)
      have p : wr.cell? ⟨lb, off + k, none⟩ = some (.int .u64 (r : Int)) := by rw [hd k (by omega), nuL, List.getElem?_map, hrr]; rfl
      have q : wr.cell? ⟨b, k, none⟩ = some (.int .u64 (r : Int)) := by
        have := hd2 k (by omega)
        rw [Nat.zero_add] at this
        rw [this, nuL, List.getElem?_map, List.getElem?_append_left (by rw [← hn'.out]; exact hlt), hrr]; rfl
      clear hat hd hat2 hd2 hrr htw
      go_upto_region 6 with fail
      go_quiet (fail)
      go_wp2_with fail
      go_roundw
      case rel => exact ⟨k + 1, by omega, by go_num, hE.trans ⟨rfl, rfl, rfl, Nat.le_refl _, fun _ _ => rfl⟩⟩
      case measure => simp [intOf]; omega
    · have hli : ¬ (k : Int) < (n : Int) := by omega
      have q : wr.cell? ⟨b, n, none⟩ = some (.int .u64 77) := by
        have := hd2 n (by omega)
        rw [Nat.zero_add] at this
        rw [this, nuL, List.getElem?_map, List.getElem?_append_right (by rw [← hn'.out]; exact Nat.le_refl _), ← hn'.out, Nat.sub_self]; rfl
      have hi1 : (n : Int) + 1 ≤ (cap' : Int) := by omega
      have hi2 : 0 ≤ (n : Int) + 1 := by omega
      have hi3 : ((n : Int) + 1).toNat = n + 1 := by omega
      have hi4 : (n : Int) < ((n : Int) + 1) := by omega
      clear hat2 hd2 htw
      go_wp2_with fail
      go_ret
      exact ⟨rfl, hE⟩
end Go.Proofs.YtefllplgbalbkaaGreatDoor
