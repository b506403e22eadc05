/- SameRows; a twin of numbers; numbers as parameters. No condition. -/
import Derived.Test.YtefllplgbalbkaaGreatDoorMgA
namespace Go.Proofs.YtefllplgbalbkaaGreatDoor
open Go.RowKit
set_option maxRecDepth 100000
set_option maxHeartbeats 2000000
theorem info_row : (Tryz.prog.info? 74).map (·.size) = some 2 := by kernel_rfl
theorem rws_range {w : World} {l : List Rw} {b off : Nat} (hd : ∀ i, i < l.length * 2 → w.cell? ⟨b, off + i, none⟩ = (l.flatMap rwL)[i]?) {k : Nat} {x : Rw} (h : l[k]? = some x) : w.rangeAt b (off + k * 2) (rowR x).toList := fun r v hv => by
  have hr : r < 2 := (List.getElem?_eq_some_iff.1 hv).1
  have hk : k < l.length := (List.getElem?_eq_some_iff.1 h).1
  rw [Nat.add_assoc, hd (k * 2 + r) (by omega), flatMap_at rwL 2 (by decide) (fun _ => rfl) l k x h r hr _ rfl]; exact hv
def sameRB (a b : Rw) : Bool := a.key.toList == b.key.toList && a.val.toList == b.val.toList
theorem tl_ext {a b : ByteArray} (h : a.toList = b.toList) : a = b := ba_ext h
theorem sameR_iff {a b : Rw} : sameRB a b = true ↔ a = b := by
  unfold sameRB
  rw [Bool.and_eq_true, beq_iff_eq, beq_iff_eq]
  constructor
  · rintro ⟨h1, h2⟩
    obtain ⟨m, v⟩ := a; obtain ⟨m', v'⟩ := b
    simp only at h1 h2
    rw [tl_ext h1, tl_ext h2]
  · rintro rfl; exact ⟨rfl, rfl⟩
instance : DecidableEq Rw := fun _ _ => decidable_of_iff _ sameR_iff
theorem wpQuiet_neq_rw {ops : Array Oper} {C : World → Prop} {Q : Act → Prop} {o : Oper} {rest : List Oper} {a : Act} (hg : Region.wanted o (yielded ops a.tmps) = true) (x y : Operand) (ho : o.op = .binOp .neq 74 x y 74) (m n : Rw) (hx : a.eval x = .agg (rowR m)) (hy : a.eval y = .agg (rowR n))
    (k : wpQuiet Tryz.prog ops C Q rest (a.put o.dst (.bool (!sameRB m n)))) : wpQuiet Tryz.prog ops C Q (o :: rest) a := by
  refine wpQuiet_value _ hg (fun w _ => ?_) k
  unfold execOp
  simp only [ho, hx, hy, rowR]
  go_simp
  unfold sameRB
  by_cases h1 : m.key.toList = n.key.toList <;> by_cases h4 : m.val.toList = n.val.toList <;> simp [h1, h4]
set_option maxRecDepth 100000 in
set_option maxHeartbeats 1000000 in
theorem srows_any (w : World) (l l' : List Rw) (a a' : Option Addr) (cap cap' : Nat) (h1 : RowIs w 2 (.slice a l.length cap) l.length (l.flatMap rwL)) (h2 : RowIs w 2 (.slice a' l'.length cap') l'.length (l'.flatMap rwL)) :
    Calls Tryz.prog 10 #[.slice a l.length cap, .slice a' l'.length cap'] w fun e w' => e = .returned (.bool (decide (l = l'))) ∧ Ext w w' := by
  by_cases hn : l.length = l'.length
  · have hn' : (l.length : Int) = (l'.length : Int) := by omega
    have hnn := h1.2.1
    obtain ⟨n, hl1⟩ : ∃ n, n = l.length := ⟨_, rfl⟩
    have hl2 : n = l'.length := by omega
    rw [← hl1] at h1 hnn
    rw [← hl2] at h2
    rw [← hl1, ← hl2]
    have hq1 := Lib.hid hl1
    have hq2 := Lib.hid hl2
    clear hn hn' hl1 hl2
    obtain ⟨r, hr⟩ : ∃ r, r = decide (l = l') := ⟨_, rfl⟩
    have hr' := Lib.hid hr
    rw [← hr]
    clear hr
    go_enter Tryz.func10, Tryz.ntmps10
    go_wp2_with fail
    go_loopw [5] (fun i wr => ∃ k : Nat, k ≤ n ∧ i = .int .i64 k ∧ l.take k = l'.take k ∧ Ext w wr) (fun i _ => n - (intOf i).toNat)
    case atStart => exact ⟨0, by omega, rfl, rfl, Ext.refl _⟩
    case round =>
      obtain ⟨k, hk, rfl, heq, hE⟩ := hrel
      by_cases hlt : k < n
      · have hli : (k : Int) < (n : Int) := by omega
        obtain ⟨c, hc⟩ : ∃ c, l[k]? = some c := ⟨_, List.getElem?_eq_getElem (by rw [← hq1.out]; exact hlt)⟩
        obtain ⟨c', hc'⟩ : ∃ c, l'[k]? = some c := ⟨_, List.getElem?_eq_getElem (by rw [← hq2.out]; exact hlt)⟩
        obtain ⟨b, off, hat⟩ := (h1.ext hE).at
        obtain ⟨b', off', hat'⟩ := (h2.ext hE).at
        obtain ⟨rfl, _, hd⟩ := hat (by omega)
        obtain ⟨rfl, _, hd'⟩ := hat' (by omega)
        have p := rws_range (by rw [← hq1.out]; exact hd) hc
        have q := rws_range (by rw [← hq2.out]; exact hd') hc'
        clear hd hd' hat hat'
        have htk : l.take (k + 1) = l.take k ++ [c] := by rw [List.take_add_one, hc]; rfl
        have htk' : l'.take (k + 1) = l'.take k ++ [c'] := by rw [List.take_add_one, hc']; rfl
        have heq' := Lib.hid heq
        have htk2 := Lib.hid htk
        have htk3 := Lib.hid htk'
        have hcc := Lib.hid hc
        have hcc' := Lib.hid hc'
        clear heq htk htk' hc hc'
        go_upto_region 6 with fail
        refine wp_region_class (Ext wr) (by kernel_rfl) (by kernel_rfl) (Ext.refl _).drew ?_
        iterate 3 (refine wpQuiet_step (fun K hK => ?_); go_simp; first | (refine hK _ ?_; clear hK K) | (refine ⟨_, fun _ _ => rfl, hK _ ?_⟩; clear hK K))
        refine wpQuiet_load_mid (by rfl) 74 _ (by rfl) b (off + k * 2) (by rfl) _ _ (fun w' h r u hu => h.cell (p r u hu)) Tryz.underlying74 rfl (by exact info_row) ?_
        iterate 3 (refine wpQuiet_step (fun K hK => ?_); go_simp; first | (refine hK _ ?_; clear hK K) | (refine ⟨_, fun _ _ => rfl, hK _ ?_⟩; clear hK K))
        refine wpQuiet_load_mid (by rfl) 74 _ (by rfl) b' (off' + k * 2) (by rfl) _ _ (fun w' h r u hu => h.cell (q r u hu)) Tryz.underlying74 rfl (by exact info_row) ?_
        refine wpQuiet_neq_rw (by rfl) (.tmp 20) (.tmp 24) (by rfl) c c' (by rfl) (by rfl) ?_
        refine wpQuiet_nil (fun w5 hE5 => ?_)
        simp only [Act.put, List.setIfInBounds_toArray, List.set_cons_zero, List.set_cons_succ]
        cases hse : sameRB c c'
        all_goals simp only [Bool.not_true, Bool.not_false]
        · have hne : r = false := by
            rw [hr'.out]
            refine decide_eq_false fun h => ?_
            subst h
            have := hcc.out.symm.trans hcc'.out
            injection this with this
            rw [sameR_iff.2 this] at hse
            exact Bool.noConfusion hse
          have hne' := Lib.hid hne
          clear hne
          go_wp2_with fail
          go_ret
          exact ⟨by rw [hne'.out]; rfl, hE.trans hE5⟩
        · have hcc2 := Lib.hid (sameR_iff.1 hse)
          go_wp2_with fail
          go_roundw
          case rel => first | exact ⟨k + 1, by omega, by go_num, by rw [htk2.out, htk3.out, heq'.out, hcc2.out], hE.trans hE5⟩ | exact ⟨_, _, _, _, _, _, _, _, _, _, _, _, _, ⟨k + 1, by omega, by go_num, by rw [htk2.out, htk3.out, heq'.out, hcc2.out], hE.trans hE5⟩, rfl⟩ | trace_state
          case measure => simp [intOf]; omega
      · have hli : ¬ (k : Int) < (n : Int) := by omega
        have hne : r = true := by
          rw [hr'.out]
          refine decide_eq_true ?_
          rw [List.take_of_length_le (by rw [← hq1.out]; omega), List.take_of_length_le (by rw [← hq2.out]; omega)] at heq
          exact heq
        have hne' := Lib.hid hne
        clear hne heq
        go_wp2_with fail
        go_ret
        exact ⟨by rw [hne'.out]; rfl, hE⟩
  · have hn' : ¬ (l.length : Int) = (l'.length : Int) := by omega
    rw [decide_eq_false (fun h => hn (congrArg List.length h))]
    clear h1 h2
    go_enter Tryz.func10, Tryz.ntmps10
    go_wp2_with fail
    go_ret
    exact ⟨rfl, Ext.refl _⟩
theorem el_u64 : ElemIs Tryz.prog 23 1 8 := by
  refine ElemIs.mk (z := .int .u64 0) (by kernel_rfl) (by rfl) (by decide)
theorem tn_cut {w : World} {base : Nat} {a : Option Addr} {k cap : Nat} {xs ys : List Value} (h : OwnC w base 23 1 (.slice a (k + 1) cap) (k + 1) (xs ++ ys)) (hx : xs.length = k * 1) : OwnC w base 23 1 (.slice a k cap) k xs := by
  have := h.cut (m := k) (by omega)
  rwa [← hx, List.take_left] at this
theorem twin_nums (w : World) (l : List Nat) (a : Option Addr) (cap : Nat) (hr : RowIs w 1 (.slice a l.length cap) l.length (nuL l)) (hn : l.length ≤ 50000) :
    Calls Tryz.prog 15 #[.slice a l.length cap] w fun e w' => ∃ a' cap', e = .returned (.slice a' l.length cap') ∧ OwnC w' w.heap.size 23 1 (.slice a' l.length cap') l.length (nuL l) ∧ Ext w w' := by
  obtain ⟨rn, hrn⟩ : ∃ rn, rn = l.length := ⟨_, rfl⟩
  rw [← hrn] at hr hn ⊢
  have hrn' := Lib.hid hrn
  have hr' := Lib.hid hr
  clear hrn hr
  obtain ⟨ir, hir, hiz, his, hib⟩ : ∃ i, Tryz.prog.info? 23 = some i ∧ i.zero = some (.int .u64 0) ∧ i.size = 1 ∧ i.bytes = 8 := by
    have h : (Tryz.prog.info? 23).map (fun i => (i.zero, i.size, i.bytes)) = some (some (.int .u64 0), 1, 8) := by kernel_rfl
    obtain ⟨i, hi, he⟩ := Option.map_eq_some_iff.1 h
    simp only [Prod.mk.injEq] at he
    exact ⟨i, hi, he.1, he.2.1, he.2.2⟩
  go_enter Tryz.func15, Tryz.ntmps15
  go_wp2_with (first | (refine wpList_make_own w (by rfl) (.const (.int .i64 0)) (.tmp 7) 51 (by rfl) w.heap.size 23 ir _ 1 Tryz.underlying51 hir hiz his .i64 .i64 ((rn : Int) + 1) (rn + 1) (by rfl) (by rfl) (by omega) (by rw [hib]; omega) (by unfold maxLen; omega) (Nat.le_refl _) ?_; go_loud (intro w1 hown1 hgr1; have hE1 : Ext w w1 := Below.grown (Below.refl _ _) hgr1 (Nat.le_refl _) (fun _ h => by cases h))) | fail)
  go_wp2_with fail
  go_loopw [3, 4] (fun out i wr => ∃ (k : Nat) (oa : Option Addr) (oc : Nat), k ≤ rn ∧ i = .int .i64 k ∧ out = .slice oa k oc ∧ OwnC wr w.heap.size 23 1 (.slice oa k oc) k (nuL (l.take k)) ∧ Ext w wr) (fun _ i _ => rn - (intOf i).toNat)
  case atStart => exact ⟨0, _, _, by omega, rfl, rfl, OwnC.of_own hown1, hE1⟩
  case round =>
    obtain ⟨k, oa, oc, hk, rfl, rfl, hown, hEr⟩ := hrel
    by_cases hlt : k < rn
    · have hli : (k : Int) < (rn : Int) := by omega
      obtain ⟨r, hr⟩ : ∃ r, l[k]? = some r := ⟨_, List.getElem?_eq_getElem (by rw [← hrn'.out]; exact hlt)⟩
      obtain ⟨b, off, hat⟩ := (hr'.out.ext hEr).at
      obtain ⟨rfl, _, hd⟩ := hat (by omega)
      have hkc := hd k (by omega)
      rw [nuL, List.getElem?_map, hr] at hkc
      have hrg : wr.cell? ⟨b, off + k, none⟩ = some (.int .u64 (r : Int)) := hkc
      have htk : l.take (k + 1) = l.take k ++ [r] := by rw [List.take_add_one, hr]; rfl
      have htk' := Lib.hid htk
      have hsz := hEr.size
      clear hat hd hr htk hkc
      go_wp2_with (first | (at_builtin; go_loud (refine wpList_append_c (by rfl) (.tmp 15) (.tmp 20) 51 23 (by rfl) Tryz.underlying51 el_u64 wr w.heap.size k _ (.slice oa k oc) (by rfl) hown #[.int .u64 (r : Int)] (by rfl) (by rfl) (by simp [Value.oneCell']) (by omega) (by omega) hsz ?_); go_loud (intro v' w3 hA3; obtain ⟨oa', oc', rfl, _⟩ := hA3.own.form; have hown2 := hA3.own; have hX3 : Ext w w3 := Below.trans hEr hA3.below)) | fail)
      go_roundw
      case rel =>
        refine ⟨k + 1, oa', oc', by omega, by go_num, rfl, ?_, hX3⟩
        rw [htk'.out, nuL, List.map_append]
        simpa [nuL] using hown2
      case measure => simp [intOf]; omega
    · have hli : ¬ (k : Int) < (rn : Int) := by omega
      obtain rfl : k = rn := by omega
      rw [List.take_of_length_le (by rw [← hrn'.out]; exact Nat.le_refl _)] at hown
      have hxl : (nuL l).length = k * 1 := hown.1
      clear hrn' hr' hown1
      have hsz := hEr.size
      go_wp2_with (first | (at_builtin; go_loud (refine wpList_append_c (by rfl) (.tmp 22) (.tmp 23) 51 23 (by rfl) Tryz.underlying51 el_u64 wr w.heap.size k _ (.slice oa k oc) (by rfl) hown #[.int .u64 77] (by rfl) (by rfl) (by simp [Value.oneCell']) (by omega) (by omega) hsz ?_); go_loud (intro v' w3 hA3; obtain ⟨oa', oc', rfl, hoc, _⟩ := hA3.own.form); go_loud (have hX3 : Ext w w3 := Below.trans hEr hA3.below); go_loud (have hkc : (k : Int) ≤ (oc' : Int) := by omega); go_loud (have hown2 := tn_cut hA3.own hxl)) | fail)
      go_ret
      exact ⟨oa', oc', rfl, hown2, hX3⟩
theorem nu_flat (l : List Nat) : l.flatMap (fun s : Nat => [Value.int .u64 (s : Int)]) = nuL l := by
  unfold nuL
  induction l with
  | nil => rfl
  | cons x l ih => rw [List.flatMap_cons, List.map_cons, ih]; rfl
theorem okc_nums {w : World} {v : Value} (h : ∃ n, OKC Tryz.prog w n 51 [v]) : ∃ (l : List Nat) (a : Option Addr) (cap : Nat), v = .slice a l.length cap ∧ (∀ x ∈ l, x < 18446744073709551616) ∧ RowIs w 1 v l.length (nuL l) := by
  obtain ⟨n, h⟩ := h
  cases n with
  | zero => exact h.elim
  | succ n =>
    obtain ⟨l, hg, hr, hby⟩ := OKC.row (fun s : Nat => [Value.int .u64 (s : Int)]) (fun s => s < 18446744073709551616) 1 Tryz.underlying51 (by kernel_rfl) (by decide) (fun _ => rfl) (fun cs hc => by
      obtain ⟨s, hs, hs2⟩ := okc_int Tryz.underlying23 hc
      obtain ⟨h0, h1⟩ := wf_u64 hs2
      obtain ⟨k, rfl⟩ := Int.eq_ofNat_of_zero_le h0
      exact ⟨k, hs, by omega⟩) h
    obtain ⟨a, cap, hv⟩ := hr.form
    rw [nu_flat] at hr
    exact ⟨l, a, cap, hv, hg, hr⟩
end Go.Proofs.YtefllplgbalbkaaGreatDoor
