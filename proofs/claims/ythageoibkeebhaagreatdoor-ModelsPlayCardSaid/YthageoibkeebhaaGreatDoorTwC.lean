/- A twin of changes, with a mark in the room behind; is it still what it was made of? No condition. -/
import Derived.Test.YthageoibkeebhaaGreatDoorGrO
import Derived.Test.YthageoibkeebhaaGreatDoorGrD
import Derived.Test.YthageoibkeebhaaGreatDoorGrN
import Derived.OwnWalk
import Derived.Deep.OwnRows
import Derived.Deep.CutRange
namespace Go.Proofs.YthageoibkeebhaaGreatDoor
open Go.RowKit
set_option maxRecDepth 100000
set_option maxHeartbeats 2000000
def chRow (c : Ch) : Array Value := #[.string c.key, .string c.val, .bool c.gone]
theorem chRow_one (c : Ch) : (chRow c).all (·.oneCell') = true := by kernel_rfl
theorem chr_all (x : Ch) : ∀ u ∈ (chRow x).toList, u.oneCell' = true := fun u hu => Array.all_eq_true_iff_forall_mem.1 (chRow_one x) u (by simpa using hu)
theorem run_bs_ch (r : Ch) (w : World) : (Instr.buildSlice 64 1 #[(0, .agg (chRow r))]).run Tryz.prog w = .ok (.slice (some ⟨w.heap.size, 0, none⟩) 1 1) (w.alloc (.cells (chRow r) 102)) := by kernel_rfl
theorem wpList_bs_ch {ops : Array Oper} {rest : List Oper} {o : Oper} {a : Act} {Q : Exit → Act → World → Prop} {w : World} (hgd : o.guard = none) (p : Operand) (ho : o.op = .buildSlice 64 1 #[(0, p)]) (r : Ch) (hp : a.eval p = .agg (chRow r))
    (h : wpList Tryz.prog ops Q rest (a.put o.dst (.slice (some ⟨w.heap.size, 0, none⟩) 1 1)) (w.alloc (.cells (chRow r) 102))) : wpList Tryz.prog ops Q (o :: rest) a w := by
  refine wpList_plain hgd fun K hK => ?_
  unfold Oper.wp execOp
  simp only [ho, hp, List.map_toArray, List.map_cons, List.map_nil, Sem.run_bind, Result.andThen_ok, run_bs_ch, Sem.run_pure]
  exact hK _ _ h
def spareC : Ch := ⟨⟨#[115, 112, 97, 114, 101]⟩, ⟨#[]⟩, false⟩
/-- A twin: the changes, and behind them the mark, in a block of the call's own. -/
def TwC (w : World) (base : Nat) (b n cap : Nat) (l : List Ch) : Prop := OwnC w base 102 3 (.slice (some ⟨b, 0, none⟩) (n + 1) cap) (n + 1) ((l ++ [spareC]).flatMap Ch.cells)
theorem TwC.ext {w w' : World} {base b n cap : Nat} {l : List Ch} (h : TwC w base b n cap l) (he : Ext w w') : TwC w' base b n cap l := OwnC.ext h he
theorem flat_lenC (l : List Ch) : (l.flatMap Ch.cells).length = l.length * 3 := by
  induction l with
  | nil => rfl
  | cons x l ih => rw [List.flatMap_cons, List.length_append, ih, List.length_cons, Nat.add_mul]; show 3 + _ = _; omega
theorem TwC.own {w : World} {base b n cap : Nat} {l : List Ch} (h : TwC w base b n cap l) (hn : n = l.length) : OwnC w base 102 3 (.slice (some ⟨b, 0, none⟩) n cap) n (l.flatMap Ch.cells) := by
  have := OwnC.cut (m := n) h (by omega)
  rw [List.flatMap_append, ← show (l.flatMap Ch.cells).length = n * 3 by rw [hn]; exact flat_lenC l, List.take_left] at this
  exact this
theorem TwC.cap {w : World} {base b n cap : Nat} {l : List Ch} (h : TwC w base b n cap l) : n + 1 ≤ cap := by
  obtain ⟨a, c, e, h1, _⟩ := OwnC.form h
  injection e with _ _ e
  omega
theorem twinC_any (w : World) (l : List Ch) (a : Option Addr) (cap n : Nat) (hnl : n = l.length) (hr : RowIs w 3 (.slice a n cap) n (l.flatMap Ch.cells)) (hn : n ≤ 50000) :
    Calls Tryz.prog 98 #[.slice a n cap] w fun e w' => ∃ b cap', e = .returned (.slice (some ⟨b, 0, none⟩) n cap') ∧ TwC w' w.heap.size b n cap' l ∧ Ext w w' := by
  have hrn' := Lib.hid hnl
  have hr' := Lib.hid hr
  clear hnl hr
  obtain ⟨ir, hir, hiz, his, hib⟩ : ∃ i, Tryz.prog.info? 102 = some i ∧ i.zero = some (.agg #[.string ⟨#[]⟩, .string ⟨#[]⟩, .bool false]) ∧ i.size = 3 ∧ i.bytes = 40 := by
    have h : (Tryz.prog.info? 102).map (fun i => (i.zero, i.size, i.bytes)) = some (some (.agg #[.string ⟨#[]⟩, .string ⟨#[]⟩, .bool false]), 3, 40) := by kernel_rfl
    obtain ⟨i, hi, he⟩ := Option.map_eq_some_iff.1 h
    simp only [Prod.mk.injEq] at he
    exact ⟨i, hi, he.1, he.2.1, he.2.2⟩
  go_enter Tryz.func98, Tryz.ntmps98
  go_wp2_with (first | (refine wpList_make_own w (by rfl) (.const (.int .i64 0)) (.tmp 7) 64 (by rfl) w.heap.size 102 ir _ 3 Tryz.underlying64 hir hiz his .i64 .i64 ((n : Int) + 1) (n + 1) (by rfl) (by rfl) (by omega) (by rw [hib]; omega) (by unfold maxLen; omega) (Nat.le_refl _) ?_; go_loud (intro w1 hown1 hgr1; have hE1 : Ext w w1 := Below.grown (Below.refl _ _) hgr1 (Nat.le_refl _) (fun _ h => by cases h))) | fail)
  go_wp2_with fail
  go_loopw [3, 4] (fun out i wr => ∃ (k : Nat) (oa : Option Addr) (oc : Nat), k ≤ n ∧ i = .int .i64 k ∧ out = .slice oa k oc ∧ OwnC wr w.heap.size 102 3 (.slice oa k oc) k ((l.take k).flatMap Ch.cells) ∧ Ext w wr) (fun _ i _ => n - (intOf i).toNat)
  case atStart => exact ⟨0, _, _, by omega, rfl, rfl, OwnC.of_own hown1, hE1⟩
  case round =>
    obtain ⟨k, oa, oc, hk, rfl, rfl, hown, hEr⟩ := hrel
    by_cases hlt : k < n
    · have hli : (k : Int) < (n : Int) := by omega
      obtain ⟨r, hr⟩ : ∃ r, l[k]? = some r := ⟨_, List.getElem?_eq_getElem (by rw [← hrn'.out]; exact hlt)⟩
      obtain ⟨b, off, hat⟩ := (hr'.out.ext hEr).at
      obtain ⟨rfl, _, hd⟩ := hat (by omega)
      have hrg := ch_range (by rw [← hrn'.out]; exact hd) hr
      have htk : l.take (k + 1) = l.take k ++ [r] := by rw [List.take_add_one, hr]; rfl
      have htk' := Lib.hid htk
      have hsz := hEr.size
      clear hat hd hr htk
      go_wp2_with (first | (refine wpList_load_mid (by rfl) 102 (.tmp 18) (by rfl) b (off + k * 3) (by rfl) (chRow r).toList _ hrg Tryz.underlying102 rfl (by exact info_ch) ?_) | (refine wpList_bs_ch (by rfl) (.tmp 19) (by rfl) r (by rfl) ?_) | (at_builtin; go_loud (refine wpList_append_c (by rfl) (.tmp 15) (.tmp 20) 64 102 (by rfl) Tryz.underlying64 el_ch wr w.heap.size k _ (.slice oa k oc) (by rfl) hown (chRow r) (by rfl) (by rfl) (chr_all r) (by omega) (by omega) hsz ?_); go_loud (intro v' w3 hA3; obtain ⟨oa', oc', rfl, _⟩ := hA3.own.form; have hown2 := hA3.own; have hX3 : Ext w w3 := Below.trans hEr hA3.below)) | fail)
      go_roundw
      case rel =>
        refine ⟨k + 1, oa', oc', by omega, by go_num, rfl, ?_, hX3⟩
        rw [htk'.out, List.flatMap_append, show List.flatMap Ch.cells [r] = (chRow r).toList from rfl]
        exact hown2
      case measure => simp [intOf]; omega
    · have hli : ¬ (k : Int) < (n : Int) := by omega
      obtain rfl : k = n := by omega
      rw [List.take_of_length_le (by rw [← hrn'.out]; exact Nat.le_refl _)] at hown
      have hxl : (l.flatMap Ch.cells).length = k * 3 := hown.1
      clear hr' hown1
      have hsz := hEr.size
      go_wp2_with (first | (at_builtin; go_loud (refine wpList_append_c (by rfl) (.tmp 22) (.tmp 24) 64 102 (by rfl) Tryz.underlying64 el_ch wr w.heap.size k _ (.slice oa k oc) (by rfl) hown (chRow spareC) (by rfl) (by rfl) (chr_all spareC) (by omega) (by omega) hsz ?_); go_loud (intro v' w3 hA3; obtain ⟨oa', oc', rfl, hoc, hoa⟩ := hA3.own.form); go_loud (have hX3 : Ext w w3 := Below.trans hEr hA3.below); go_loud (have hkc : (k : Int) ≤ (oc' : Int) := by omega)) | fail)
      go_ret
      obtain ⟨b, rfl⟩ : ∃ b, oa' = some ⟨b, 0, none⟩ := by
        rcases hoa with e | e
        · injection e with _ e
          omega
        · exact e
      refine ⟨b, oc', rfl, ?_, hX3⟩
      unfold TwC
      rw [List.flatMap_append]
      exact hA3.own
theorem leftC_any (w : World) (l : List Ch) (base b cap' : Nat) (a : Option Addr) (cap n : Nat) (hnl : n = l.length) (hr : RowIs w 3 (.slice a n cap) n (l.flatMap Ch.cells)) (hn : n ≤ 50000) (hT : TwC w base b n cap' l) :
    Calls Tryz.prog 109 #[.slice (some ⟨b, 0, none⟩) n cap', .slice a n cap] w fun e w' => e = .returned (.bool true) ∧ Ext w w' := by
  have hn' := Lib.hid hnl
  have hr' := Lib.hid hr
  have hT' := Lib.hid hT
  have hcap := hT.cap
  clear hnl hr hT
  have hci : ¬ (cap' : Int) ≤ (n : Int) := by omega
  go_enter Tryz.func109, Tryz.ntmps109
  go_wp2_with fail
  go_loopw [5] (fun i wr => ∃ k : Nat, k ≤ n ∧ i = .int .i64 k ∧ Ext w wr) (fun i _ => n - (intOf i).toNat)
  case atStart => exact ⟨0, by omega, rfl, Ext.refl _⟩
  case round =>
    obtain ⟨k, hk, rfl, hE⟩ := hrel
    have htw := (OwnC.row (hT'.out.ext hE))
    obtain ⟨tb, tof, hat2⟩ := htw.at
    obtain ⟨e1, _, hd2⟩ := hat2 (by omega)
    injection e1 with e1
    injection e1 with e1 e2
    subst e1 e2
    by_cases hlt : k < n
    · have hli : (k : Int) < (n : Int) := by omega
      obtain ⟨r, hrr⟩ : ∃ r, l[k]? = some r := ⟨_, List.getElem?_eq_getElem (by rw [← hn'.out]; exact hlt)⟩
      obtain ⟨lb, off, hat⟩ := (hr'.out.ext hE).at
      obtain ⟨rfl, _, hd⟩ := hat (by omega)
      have p := ch_range (by rw [← hn'.out]; exact hd) hrr
      have q := ch_range (l := l ++ [spareC]) (by rw [List.length_append, ← hn'.out]; exact hd2) (k := k) (c := r) (by rw [List.getElem?_append_left (by rw [← hn'.out]; exact hlt)]; exact hrr)
      rw [Nat.zero_add] at q
      clear hat hd hat2 hd2 hrr htw
      go_upto_region 6 with fail
      refine bqRegion (Ext wr) (by kernel_rfl) (by kernel_rfl) (Ext.refl _).drew ?_
      iterate 3 (refine bqStep (fun K hK => ?_); go_simp; first | (refine hK _ ?_; clear hK K) | (refine ⟨_, fun _ _ => rfl, hK _ ?_⟩; clear hK K))
      refine bqMid (by rfl) 102 _ (by rfl) b (k * 3) (by rfl) _ _ (fun w' h r u hu => h.cell (q r u hu)) Tryz.underlying102 rfl (by exact info_ch) ?_
      iterate 3 (refine bqStep (fun K hK => ?_); go_simp; first | (refine hK _ ?_; clear hK K) | (refine ⟨_, fun _ _ => rfl, hK _ ?_⟩; clear hK K))
      refine bqMid (by rfl) 102 _ (by rfl) lb (off + k * 3) (by rfl) _ _ (fun w' h r u hu => h.cell (p r u hu)) Tryz.underlying102 rfl (by exact info_ch) ?_
      refine ⟨wpQuiet_neq_ch (by rfl) (.tmp 28) (.tmp 32) (by rfl) r r (by rfl) (by rfl) ?_⟩
      rw [sameC_iff.2 rfl]
      refine wpQuiet_nil (fun w5 hE5 => ?_)
      simp only [Act.put, List.setIfInBounds_toArray, List.set_cons_zero, List.set_cons_succ, Bool.not_true]
      go_wp2_with fail
      go_roundw
      case rel => exact ⟨k + 1, by omega, by go_num, hE.trans hE5⟩
      case measure => simp [intOf]; omega
    · have hli : ¬ (k : Int) < (n : Int) := by omega
      have q := ch_range (l := l ++ [spareC]) (by rw [List.length_append, ← hn'.out]; exact hd2) (k := n) (c := spareC) (by rw [List.getElem?_append_right (by rw [← hn'.out]; exact Nat.le_refl _), ← hn'.out, Nat.sub_self]; rfl)
      rw [Nat.zero_add] at q
      have hi1 : (n : Int) + 1 ≤ (cap' : Int) := by omega
      have hi2 : 0 ≤ (n : Int) + 1 := by omega
      have hi3 : ((n : Int) + 1).toNat = n + 1 := by omega
      have hi4 : (n : Int) < ((n : Int) + 1) := by omega
      clear hat2 hd2 htw
      obtain ⟨W2, hW2⟩ : ∃ W, W = wr.alloc (.cells (chRow spareC) 102) := ⟨_, rfl⟩
      have hE2 : Ext w W2 := by rw [hW2]; exact hE.alloc _
      have hc0 : W2.cell? ⟨wr.heap.size, 0, none⟩ = some (.string ⟨#[115, 112, 97, 114, 101]⟩) := by rw [hW2, cell_of_row _ _ _ _ _ _ (heap_alloc_new wr _)]; rfl
      have hW2' := Lib.hid hW2
      clear hW2
      go_upto_region 9 with (first | (refine wpList_load_mid (by rfl) 102 (.tmp 41) (by rfl) b (n * 3) (by rfl) (chRow spareC).toList _ q Tryz.underlying102 rfl (by exact info_ch) ?_) | (refine wpList_store_whole (by rfl) 102 (.tmp 6) (.tmp 42) (by rfl) wr _ (chRow spareC) wr.heap.size (by rfl) rfl (by rfl) (by exact info_ch) (by rfl) (chRow_one spareC) ?_; rw [← hW2'.out]) | fail)
      clear hi1 hi2 hi3 hi4 q
      go_wp2_with fail
      go_ret
      exact ⟨rfl, hE2⟩
end Go.Proofs.YthageoibkeebhaaGreatDoor
