/- SameChanges, SameAsk. No condition. -/
import Derived.Test.YtgbiifefpidebaaLog
import Derived.Test.YtgbiifefpidebaaKit6
namespace Go.Proofs.Ytgbiifefpidebaa
open Go.RowKit
theorem ba_data {a b : ByteArray} (h : a.data.toList = b.data.toList) : a = b := by
  cases a; cases b; simp only [ByteArray.mk.injEq]; exact Array.ext' h
theorem tl_ext {a b : ByteArray} (h : a.toList = b.toList) : a = b := ba_data (by rw [← ByteArray.toList_eq, ← ByteArray.toList_eq]; exact h)
def sameCB (a b : Ch) : Bool := a.key.toList == b.key.toList && (a.val.toList == b.val.toList && a.gone == b.gone)
theorem sameC_iff {a b : Ch} : sameCB a b = true ↔ a = b := by
  unfold sameCB
  rw [Bool.and_eq_true, Bool.and_eq_true, beq_iff_eq, beq_iff_eq, beq_iff_eq]
  constructor
  · rintro ⟨h1, h2, h3⟩
    obtain ⟨m, v, g⟩ := a; obtain ⟨m', v', g'⟩ := b
    simp only at h1 h2 h3
    rw [tl_ext h1, tl_ext h2, h3]
  · rintro rfl; exact ⟨rfl, rfl, rfl⟩
instance : DecidableEq Ch := fun _ _ => decidable_of_iff _ sameC_iff
theorem wpQuiet_neq_ch {ops : Array Oper} {C : World → Prop} {Q : Act → Prop} {o : Oper} {rest : List Oper} {a : Act} (hg : Region.wanted o (yielded ops a.tmps) = true) (x y : Operand) (ho : o.op = .binOp .neq 57 x y 57) (m n : Ch) (hx : a.eval x = .agg m.cells.toArray) (hy : a.eval y = .agg n.cells.toArray)
    (k : wpQuiet Try.prog ops C Q rest (a.put o.dst (.bool (!sameCB m n)))) : wpQuiet Try.prog ops C Q (o :: rest) a := by
  refine wpQuiet_value _ hg (fun w _ => ?_) k
  unfold execOp
  simp only [ho, hx, hy, Ch.cells]
  go_simp
  unfold sameCB
  by_cases h1 : m.key.toList = n.key.toList <;> by_cases h4 : m.val.toList = n.val.toList <;> by_cases h5 : m.gone = n.gone <;> simp [h1, h4, h5]
set_option maxRecDepth 100000 in
set_option maxHeartbeats 1000000 in
theorem schgs_any (w : World) (l l' : List Ch) (a a' : Option Addr) (cap cap' : Nat) (h1 : RowIs w 3 (.slice a l.length cap) l.length (l.flatMap Ch.cells)) (h2 : RowIs w 3 (.slice a' l'.length cap') l'.length (l'.flatMap Ch.cells)) :
    Calls Try.prog 22 #[.slice a l.length cap, .slice a' l'.length cap'] w fun e w' => e = .returned (.bool (decide (l = l'))) ∧ Ext w w' := by
  by_cases hn : l.length = l'.length
  · have hn' : (l.length : Int) = (l'.length : Int) := by omega
    have hnn := h1.2.1
    obtain ⟨n, hl1⟩ : ∃ n, n = l.length := ⟨_, rfl⟩
    have hl2 : n = l'.length := by omega
    rw [← hl1] at h1 hnn
    rw [← hl2] at h2
    rw [← hl1, ← hl2]
    have hq1 := Lib.hid hl1
    have hq2 := Lib.hid hl2
    clear hn hn' hl1 hl2
    obtain ⟨r, hr⟩ : ∃ r, r = decide (l = l') := ⟨_, rfl⟩
    have hr' := Lib.hid hr
    rw [← hr]
    clear hr
    go_enter Try.func22, Try.ntmps22
    go_wp2_with fail
    go_loopw [5] (fun i wr => ∃ k : Nat, k ≤ n ∧ i = .int .i64 k ∧ l.take k = l'.take k ∧ Ext w wr) (fun i _ => n - (intOf i).toNat)
    case atStart => exact ⟨0, by omega, rfl, rfl, Ext.refl _⟩
    case round =>
      obtain ⟨k, hk, rfl, heq, hE⟩ := hrel
      by_cases hlt : k < n
      · have hli : (k : Int) < (n : Int) := by omega
        obtain ⟨c, hc⟩ : ∃ c, l[k]? = some c := ⟨_, List.getElem?_eq_getElem (by rw [← hq1.out]; exact hlt)⟩
        obtain ⟨c', hc'⟩ : ∃ c, l'[k]? = some c := ⟨_, List.getElem?_eq_getElem (by rw [← hq2.out]; exact hlt)⟩
        obtain ⟨b, off, hat⟩ := (h1.ext hE).at
        obtain ⟨b', off', hat'⟩ := (h2.ext hE).at
        obtain ⟨rfl, _, hd⟩ := hat (by omega)
        obtain ⟨rfl, _, hd'⟩ := hat' (by omega)
        have p := ch_range (by rw [← hq1.out]; exact hd) hc
        have q := ch_range (by rw [← hq2.out]; exact hd') hc'
        clear hd hd' hat hat'
        have htk : l.take (k + 1) = l.take k ++ [c] := by rw [List.take_add_one, hc]; rfl
        have htk' : l'.take (k + 1) = l'.take k ++ [c'] := by rw [List.take_add_one, hc']; rfl
        have heq' := Lib.hid heq
        have htk2 := Lib.hid htk
        have htk3 := Lib.hid htk'
        have hcc := Lib.hid hc
        have hcc' := Lib.hid hc'
        clear heq htk htk' hc hc'
        go_upto_region 6 with fail
        refine wp_region_class (Ext wr) (by kernel_rfl) (by kernel_rfl) (Ext.refl _).drew ?_
        iterate 3 (refine wpQuiet_step (fun K hK => ?_); go_simp; first | (refine hK _ ?_; clear hK K) | (refine ⟨_, fun _ _ => rfl, hK _ ?_⟩; clear hK K))
        refine wpQuiet_load_mid (by rfl) 57 _ (by rfl) b (off + k * 3) (by rfl) _ _ (fun w' h r u hu => h.cell (p r u hu)) Try.underlying57 rfl (by exact info_ch) ?_
        iterate 3 (refine wpQuiet_step (fun K hK => ?_); go_simp; first | (refine hK _ ?_; clear hK K) | (refine ⟨_, fun _ _ => rfl, hK _ ?_⟩; clear hK K))
        refine wpQuiet_load_mid (by rfl) 57 _ (by rfl) b' (off' + k * 3) (by rfl) _ _ (fun w' h r u hu => h.cell (q r u hu)) Try.underlying57 rfl (by exact info_ch) ?_
        refine wpQuiet_neq_ch (by rfl) (.tmp 20) (.tmp 24) (by rfl) c c' (by rfl) (by rfl) ?_
        refine wpQuiet_nil (fun w5 hE5 => ?_)
        simp only [Act.put, List.setIfInBounds_toArray, List.set_cons_zero, List.set_cons_succ]
        cases hse : sameCB c c'
        all_goals simp only [Bool.not_true, Bool.not_false]
        · have hne : r = false := by
            rw [hr'.out]
            refine decide_eq_false fun h => ?_
            subst h
            have := hcc.out.symm.trans hcc'.out
            injection this with this
            rw [sameC_iff.2 this] at hse
            exact Bool.noConfusion hse
          have hne' := Lib.hid hne
          clear hne
          go_wp2_with fail
          go_ret
          exact ⟨by rw [hne'.out]; rfl, hE.trans hE5⟩
        · have hcc2 := Lib.hid (sameC_iff.1 hse)
          go_wp2_with fail
          go_roundw
          case rel => first | exact ⟨k + 1, by omega, by go_num, by rw [htk2.out, htk3.out, heq'.out, hcc2.out], hE.trans hE5⟩ | exact ⟨_, _, _, _, _, _, _, _, _, _, _, _, _, ⟨k + 1, by omega, by go_num, by rw [htk2.out, htk3.out, heq'.out, hcc2.out], hE.trans hE5⟩, rfl⟩ | trace_state
          case measure => simp [intOf]; omega
      · have hli : ¬ (k : Int) < (n : Int) := by omega
        have hne : r = true := by
          rw [hr'.out]
          refine decide_eq_true ?_
          rw [List.take_of_length_le (by rw [← hq1.out]; omega), List.take_of_length_le (by rw [← hq2.out]; omega)] at heq
          exact heq
        have hne' := Lib.hid hne
        clear hne heq
        go_wp2_with fail
        go_ret
        exact ⟨by rw [hne'.out]; rfl, hE⟩
  · have hn' : ¬ (l.length : Int) = (l'.length : Int) := by omega
    rw [decide_eq_false (fun h => hn (congrArg List.length h))]
    clear h1 h2
    go_enter Try.func22, Try.ntmps22
    go_wp2_with fail
    go_ret
    exact ⟨rfl, Ext.refl _⟩
def Ak.sameB (x y : Ak) : Bool := decide (x.kind = y.kind ∧ x.key.toList = y.key.toList ∧ x.val.toList = y.val.toList ∧ x.old.toList = y.old.toList ∧ x.new = y.new ∧ x.to.toList = y.to.toList ∧ x.many = y.many ∧ x.chs = y.chs)
theorem ak_iff {x y : Ak} : x.sameB y = true ↔ x = y := by
  unfold Ak.sameB
  rw [decide_eq_true_iff]
  constructor
  · rintro ⟨h1, h2, h3, h4, h5, h6, h7, h8⟩
    obtain ⟨a1, a2, a3, a4, a5, a6, a7, a8⟩ := x; obtain ⟨b1, b2, b3, b4, b5, b6, b7, b8⟩ := y
    simp only at h1 h2 h3 h4 h5 h6 h7 h8
    rw [h1, tl_ext h2, tl_ext h3, tl_ext h4, h5, tl_ext h6, h7, h8]
  · rintro rfl; exact ⟨rfl, rfl, rfl, rfl, rfl, rfl, rfl, rfl⟩
theorem ask_cells8 {w : World} {g : Nat} {x : Ak} {v : Value} (h : w.heap[g]? = some (.cells (x.row v) 32 (0, 0))) :
    w.cell? ⟨g, 0, none⟩ = some (.int .u8 x.kind) ∧ w.cell? ⟨g, 1, none⟩ = some (.string x.key) ∧ w.cell? ⟨g, 2, none⟩ = some (.string x.val) ∧ w.cell? ⟨g, 3, none⟩ = some (.string x.old) ∧ w.cell? ⟨g, 4, none⟩ = some (.bool x.new) ∧ w.cell? ⟨g, 5, none⟩ = some (.string x.to) ∧ w.cell? ⟨g, 6, none⟩ = some (.int .i64 x.many) ∧ w.cell? ⟨g, 7, none⟩ = some v := by
  refine ⟨?_, ?_, ?_, ?_, ?_, ?_, ?_, ?_⟩ <;> (rw [cell_of_row _ _ _ _ 32 (0, 0) h]; rfl)
set_option maxRecDepth 100000 in
set_option maxHeartbeats 4000000 in
theorem sask_any (w : World) (x y : Ak) (a a' : Option Addr) (cap cap' : Nat) (h1 : RowIs w 3 (.slice a x.chs.length cap) x.chs.length (x.chs.flatMap Ch.cells)) (h2 : RowIs w 3 (.slice a' y.chs.length cap') y.chs.length (y.chs.flatMap Ch.cells)) :
    Calls Try.prog 12 #[.agg (x.row (.slice a x.chs.length cap)), .agg (y.row (.slice a' y.chs.length cap'))] w fun e w' => e = .returned (.bool (x.sameB y)) ∧ Ext w w' := by
  obtain ⟨W1, hW1⟩ : ∃ W, W = w.alloc (.cells (x.row (.slice a x.chs.length cap)) 32) := ⟨_, rfl⟩
  obtain ⟨W, hW⟩ : ∃ W, W = W1.alloc (.cells (y.row (.slice a' y.chs.length cap')) 32) := ⟨_, rfl⟩
  have hE1 : Ext w W1 := by rw [hW1]; exact (Ext.refl w).alloc _
  have hE : Ext w W := by rw [hW]; exact hE1.alloc _
  have hX : W.heap[w.heap.size]? = some (.cells (x.row (.slice a x.chs.length cap)) 32 (0, 0)) := by rw [hW]; exact ((Ext.refl W1).alloc _).row (by rw [hW1]; exact heap_alloc_new w _)
  have hY : W.heap[w.heap.size + 1]? = some (.cells (y.row (.slice a' y.chs.length cap')) 32 (0, 0)) := by
    have h := heap_alloc_new W1 (.cells (y.row (.slice a' y.chs.length cap')) 32)
    rw [show W1.heap.size = w.heap.size + 1 by rw [hW1]; simp] at h
    rw [hW]; exact h
  have hch := schgs_any W x.chs y.chs a a' cap cap' (h1.ext hE) (h2.ext hE)
  obtain ⟨x0, x1, x2, x3, x4, x5, x6, x7⟩ := ask_cells8 hX
  obtain ⟨y0, y1, y2, y3, y4, y5, y6, y7⟩ := ask_cells8 hY
  have hW' : Hid (W = (w.alloc (.cells (x.row (.slice a x.chs.length cap)) 32)).alloc (.cells (y.row (.slice a' y.chs.length cap')) 32)) := Lib.hid (by rw [hW, hW1])
  obtain ⟨r, hr⟩ : ∃ r, r = x.sameB y := ⟨_, rfl⟩
  obtain ⟨c, hc⟩ : ∃ r, r = decide (x.chs = y.chs) := ⟨_, rfl⟩
  rw [← hr]
  rw [← hc] at hch
  have hr' := Lib.hid hr
  have hc' := Lib.hid hc
  clear hW1 hW hX hY hE1 h1 h2 hr hc
  unfold Ak.row at hW' ⊢
  go_enter Try.func12, Try.ntmps12
  go_upto_region 1 with fail
  have hW := hW'.out
  rw [← hW]
  clear hW hW'
  by_cases e0 : x.kind = y.kind
  case neg =>
    have d0 := decide_eq_false e0
    have b0 : (x.kind == y.kind) = false := by simp [e0]
    have hf : Hid (r = false) := Lib.hid (by rw [hr'.out]; unfold Ak.sameB; exact decide_eq_false fun h => e0 h.1)
    go_wp2_with fail
    go_ret
    exact ⟨by rw [hf.out]; rfl, hE⟩
  by_cases e1 : x.key.toList = y.key.toList
  case neg =>
    have d1 := decide_eq_false e1
    have b1 : (x.key.toList == y.key.toList) = false := by simp [e1]
    have hf : Hid (r = false) := Lib.hid (by rw [hr'.out]; unfold Ak.sameB; exact decide_eq_false fun h => e1 h.2.1)
    go_wp2_with fail
    go_ret
    exact ⟨by rw [hf.out]; rfl, hE⟩
  by_cases e2 : x.val.toList = y.val.toList
  case neg =>
    have d2 := decide_eq_false e2
    have b2 : (x.val.toList == y.val.toList) = false := by simp [e2]
    have hf : Hid (r = false) := Lib.hid (by rw [hr'.out]; unfold Ak.sameB; exact decide_eq_false fun h => e2 h.2.2.1)
    go_wp2_with fail
    go_ret
    exact ⟨by rw [hf.out]; rfl, hE⟩
  by_cases e3 : x.old.toList = y.old.toList
  case neg =>
    have d3 := decide_eq_false e3
    have b3 : (x.old.toList == y.old.toList) = false := by simp [e3]
    have hf : Hid (r = false) := Lib.hid (by rw [hr'.out]; unfold Ak.sameB; exact decide_eq_false fun h => e3 h.2.2.2.1)
    go_wp2_with fail
    go_ret
    exact ⟨by rw [hf.out]; rfl, hE⟩
  by_cases e4 : x.new = y.new
  case neg =>
    have d4 := decide_eq_false e4
    have b4 : (x.new == y.new) = false := by simp [e4]
    have hf : Hid (r = false) := Lib.hid (by rw [hr'.out]; unfold Ak.sameB; exact decide_eq_false fun h => e4 h.2.2.2.2.1)
    go_wp2_with fail
    go_ret
    exact ⟨by rw [hf.out]; rfl, hE⟩
  by_cases e5 : x.to.toList = y.to.toList
  case neg =>
    have d5 := decide_eq_false e5
    have b5 : (x.to.toList == y.to.toList) = false := by simp [e5]
    have hf : Hid (r = false) := Lib.hid (by rw [hr'.out]; unfold Ak.sameB; exact decide_eq_false fun h => e5 h.2.2.2.2.2.1)
    go_wp2_with fail
    go_ret
    exact ⟨by rw [hf.out]; rfl, hE⟩
  by_cases e6 : x.many = y.many
  case neg =>
    have d6 := decide_eq_false e6
    have b6 : (x.many == y.many) = false := by simp [e6]
    have hf : Hid (r = false) := Lib.hid (by rw [hr'.out]; unfold Ak.sameB; exact decide_eq_false fun h => e6 h.2.2.2.2.2.2.1)
    go_wp2_with fail
    go_ret
    exact ⟨by rw [hf.out]; rfl, hE⟩
  have hf : Hid (r = c) := Lib.hid (by
    rw [hr'.out, hc'.out]; unfold Ak.sameB
    by_cases h : x.chs = y.chs
    · rw [decide_eq_true h, decide_eq_true ⟨e0, e1, e2, e3, e4, e5, e6, h⟩]
    · rw [decide_eq_false h, decide_eq_false fun q => h q.2.2.2.2.2.2.2])
  have t0 : (x.kind == y.kind) = true := by simp [e0]
  have t1 : (x.key.toList == y.key.toList) = true := by simp [e1]
  have t2 : (x.val.toList == y.val.toList) = true := by simp [e2]
  have t3 : (x.old.toList == y.old.toList) = true := by simp [e3]
  have t4 : (x.new == y.new) = true := by simp [e4]
  have t5 : (x.to.toList == y.to.toList) = true := by simp [e5]
  have t6 : (x.many == y.many) = true := by simp [e6]
  go_wp2_with fail
  refine hch.mono ?_
  rintro e w2 ⟨rfl, hE2⟩
  go_wp2_with fail
  go_ret
  exact ⟨by rw [hf.out]; rfl, hE.trans hE2⟩
end Go.Proofs.Ytgbiifefpidebaa
