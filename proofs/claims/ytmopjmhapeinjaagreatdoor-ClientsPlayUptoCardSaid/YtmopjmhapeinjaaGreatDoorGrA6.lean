/- Several texts in one: LM2 LM7 TwC It0 Sz2. No condition. -/
import Derived.Test.YtmopjmhapeinjaaGreatDoorGrA5
import Derived.Test.YtmopjmhapeinjaaGreatDoorGrA4
import Derived.Test.YtmopjmhapeinjaaGreatDoorGrA1
import Derived.OwnWalk
import Derived.Deep.OwnRows
import Derived.Deep.CutRange
/- ChangesSize, AskSize. No condition. -/
namespace Go.Proofs.YtmopjmhapeinjaaGreatDoor
open Go.RowKit
set_option maxRecDepth 100000 in
set_option maxHeartbeats 1000000 in
theorem csize_any (w : World) (l : List Ch) (a : Option Addr) (cap : Nat) (hg : ∀ x ∈ l, x.small) (hl : l.length ≤ 140737488351232) (h1 : RowIs w 3 (.slice a l.length cap) l.length (l.flatMap Ch.cells)) :
    Calls Tryz.prog 162 #[.slice a l.length cap] w fun e w' => e = .returned (.int .i64 (cszAux l.length l : Nat)) ∧ Ext w w' := by
  obtain ⟨S, hS⟩ : ∃ S, S = cszAux l.length l := ⟨_, rfl⟩
  rw [← hS]
  have hS' := Lib.hid hS
  clear hS
  go_enter Tryz.func162, Tryz.ntmps162
  go_wp2_with fail
  go_loopw [3, 4] (fun n i wr => ∃ k N : Nat, k ≤ l.length ∧ n = .int .i64 (N : Int) ∧ i = .int .i64 k ∧ S = cszAux N (l.drop k) ∧ N ≤ 500000000000000 ∧ Ext w wr) (fun _ i _ => l.length - (intOf i).toNat)
  case atStart => exact ⟨0, l.length, by omega, rfl, rfl, hS'.out, by omega, Ext.refl _⟩
  case round =>
    obtain ⟨k, N, hk, rfl, rfl, hs, hN, hE⟩ := hrel
    have hs' := Lib.hid hs
    clear hs
    by_cases hlt : k < l.length
    · have hli : (k : Int) < (l.length : Int) := by omega
      obtain ⟨c, hc⟩ : ∃ c, l[k]? = some c := ⟨_, List.getElem?_eq_getElem hlt⟩
      obtain ⟨g1, g2⟩ := hg c (List.mem_of_getElem? hc)
      have hdr : l.drop k = c :: l.drop (k + 1) := by
        rw [List.drop_eq_getElem_cons hlt]
        have := List.getElem?_eq_getElem hlt
        rw [hc] at this
        injection this with this
        rw [← this]
      have hdr' := Lib.hid hdr
      clear hdr
      by_cases hsm : N ≤ 1048576
      · have hsi : (N : Int) ≤ 1048576 := by omega
        obtain ⟨b, off, hat⟩ := (h1.ext hE).at
        obtain ⟨rfl, _, hd⟩ := hat (by omega)
        have p := ch_range hd hc
        have p0 := p 0 _ rfl
        have p3 := p 1 _ rfl
        rw [Nat.add_zero] at p0
        clear hd hat p hc
        have e1 : IntKind.i64.wrap ((N : Int) + (c.key.size : Int)) = (N : Int) + (c.key.size : Int) := by rw [IntKind.wrap_i64]; omega
        have e2 : IntKind.i64.wrap ((N : Int) + (c.key.size : Int) + (c.val.size : Int)) = (N : Int) + (c.key.size : Int) + (c.val.size : Int) := by rw [IntKind.wrap_i64]; omega
        go_wp2_with fail
        go_still (by kernel_rfl)
        change Exit.inBlock _ _ _ _ wr.drew
        go_wp2_with fail
        go_roundw
        case rel => exact ⟨k + 1, N + c.key.size + c.val.size, by omega, by go_num, by go_num, by rw [hs'.out, hdr'.out]; simp [cszAux, hsm], by omega, hE.drew⟩
        case measure => simp [intOf]; omega
      · have hsi : ¬ (N : Int) ≤ 1048576 := by omega
        go_wp2_with fail
        go_ret
        exact ⟨by rw [hs'.out, hdr'.out]; simp [cszAux, hsm], hE⟩
    · have hli : ¬ (k : Int) < (l.length : Int) := by omega
      go_wp2_with fail
      go_ret
      exact ⟨by rw [hs'.out, List.drop_eq_nil_of_le (by omega)]; rfl, hE⟩
set_option maxRecDepth 100000 in
set_option maxHeartbeats 1000000 in
theorem asize_any (w : World) (x : Ak) (a : Option Addr) (cap : Nat) (h : ChsAt w x.chs a cap) (hs : x.small) : Calls Tryz.prog 159 #[.agg (x.row (.slice a x.chs.length cap))] w fun e w' => e = .returned (.int .i64 (x.sz : Nat)) ∧ Ext w w' := by
  obtain ⟨_, s1, s2, s3, s4, s5⟩ := hs
  have hll : x.chs.length ≤ 140737488351232 := by have := h.2.1; omega
  have hcl := csz_le x.chs x.chs.length h.2.2
  obtain ⟨S, hS⟩ : ∃ S, S = x.sz := ⟨_, rfl⟩
  rw [← hS]
  have hS' := Lib.hid hS
  clear hS
  obtain ⟨W, hW⟩ : ∃ W, W = w.alloc (.cells (x.row (.slice a x.chs.length cap)) 50) := ⟨_, rfl⟩
  have hE : Ext w W := by rw [hW]; exact (Ext.refl _).alloc _
  have hX : W.heap[w.heap.size]? = some (.cells (x.row (.slice a x.chs.length cap)) 50 (0, 0)) := by rw [hW]; exact heap_alloc_new w _
  obtain ⟨c0, c1, c2, c3, c4, c5, c6, c7⟩ := askc hX
  have hW' := Lib.hid hW
  clear hW hX
  unfold Ak.row at hW'
  unfold Ak.row
  by_cases hb : x.base ≤ 1048576
  · have hbi : 1 + (x.key.size : Int) + (x.val.size : Int) + (x.old.size : Int) + (x.to.size : Int) ≤ 1048576 := by unfold Ak.base at hb; omega
    have hSS : S = x.base + cszAux x.chs.length x.chs := by rw [hS'.out]; unfold Ak.sz; rw [if_pos hb]
    have hSS' := Lib.hid hSS
    have hbb : x.base = 1 + x.key.size + x.val.size + x.old.size + x.to.size := rfl
    have hbb' := Lib.hid hbb
    clear hSS hS' hbb
    have hcc := csize_any W x.chs a cap h.2.2 hll (h.1.ext hE)
    generalize cszAux x.chs.length x.chs = C at *
    have hcc' := Lib.hid hcc
    clear hcc
    go_enter Tryz.func159, Tryz.ntmps159
    go_upto_region 1 with fail
    rw [← hW'.out]
    clear hW'
    go_wp2_with fail
    refine hcc'.out.mono ?_
    rintro e w2 ⟨rfl, hE2⟩
    have hC : C ≤ 500000000000000 := by omega
    clear hcl
    go_wp2_with fail
    go_ret
    refine ⟨?_, hE.trans hE2⟩
    rw [hSS'.out, hbb'.out]
    refine congrArg Ending.returned ?_
    refine congrArg (Value.int IntKind.i64) ?_
    omega
  · have hbi : ¬ 1 + (x.key.size : Int) + (x.val.size : Int) + (x.old.size : Int) + (x.to.size : Int) ≤ 1048576 := by unfold Ak.base at hb; omega
    have hSS : S = x.base := by rw [hS'.out]; unfold Ak.sz; rw [if_neg hb]
    have hSS' := Lib.hid hSS
    have hbb : x.base = 1 + x.key.size + x.val.size + x.old.size + x.to.size := rfl
    have hbb' := Lib.hid hbb
    clear hSS hS' hbb hcl
    go_enter Tryz.func159, Tryz.ntmps159
    go_upto_region 1 with fail
    rw [← hW'.out]
    clear hW'
    go_wp2_with fail
    go_ret
    refine ⟨?_, hE⟩
    rw [hSS'.out, hbb'.out]
    refine congrArg Ending.returned ?_
    refine congrArg (Value.int IntKind.i64) ?_
    omega
end Go.Proofs.YtmopjmhapeinjaaGreatDoor

/- SameChanges. No condition. -/
namespace Go.Proofs.YtmopjmhapeinjaaGreatDoor
open Go.RowKit
def sameCB (a b : Ch) : Bool := a.key.toList == b.key.toList && (a.val.toList == b.val.toList && a.gone == b.gone)
theorem sameC_iff {a b : Ch} : sameCB a b = true ↔ a = b := by
  unfold sameCB
  rw [Bool.and_eq_true, Bool.and_eq_true, beq_iff_eq, beq_iff_eq, beq_iff_eq]
  constructor
  · rintro ⟨h1, h2, h3⟩
    obtain ⟨m, v, g⟩ := a; obtain ⟨m', v', g'⟩ := b
    simp only at h1 h2 h3
    rw [tl_ext h1, tl_ext h2, h3]
  · rintro rfl; exact ⟨rfl, rfl, rfl⟩
instance : DecidableEq Ch := fun _ _ => decidable_of_iff _ sameC_iff
theorem wpQuiet_neq_ch {ops : Array Oper} {C : World → Prop} {Q : Act → Prop} {o : Oper} {rest : List Oper} {a : Act} (hg : Region.wanted o (yielded ops a.tmps) = true) (x y : Operand) (ho : o.op = .binOp .neq 93 x y 93) (m n : Ch) (hx : a.eval x = .agg m.cells.toArray) (hy : a.eval y = .agg n.cells.toArray)
    (k : wpQuiet Tryz.prog ops C Q rest (a.put o.dst (.bool (!sameCB m n)))) : wpQuiet Tryz.prog ops C Q (o :: rest) a := by
  refine wpQuiet_value _ hg (fun w _ => ?_) k
  unfold execOp
  simp only [ho, hx, hy, Ch.cells]
  go_simp
  unfold sameCB
  by_cases h1 : m.key.toList = n.key.toList <;> by_cases h4 : m.val.toList = n.val.toList <;> by_cases h5 : m.gone = n.gone <;> simp [h1, h4, h5]
set_option maxRecDepth 100000 in
set_option maxHeartbeats 1000000 in
theorem schgs_any (w : World) (l l' : List Ch) (a a' : Option Addr) (cap cap' : Nat) (h1 : RowIs w 3 (.slice a l.length cap) l.length (l.flatMap Ch.cells)) (h2 : RowIs w 3 (.slice a' l'.length cap') l'.length (l'.flatMap Ch.cells)) :
    Calls Tryz.prog 163 #[.slice a l.length cap, .slice a' l'.length cap'] w fun e w' => e = .returned (.bool (decide (l = l'))) ∧ Ext w w' := by
  by_cases hn : l.length = l'.length
  · have hn' : (l.length : Int) = (l'.length : Int) := by omega
    have hnn := h1.2.1
    obtain ⟨n, hl1⟩ : ∃ n, n = l.length := ⟨_, rfl⟩
    have hl2 : n = l'.length := by omega
    rw [← hl1] at h1 hnn
    rw [← hl2] at h2
    rw [← hl1, ← hl2]
    have hq1 := Lib.hid hl1
    have hq2 := Lib.hid hl2
    clear hn hn' hl1 hl2
    obtain ⟨r, hr⟩ : ∃ r, r = decide (l = l') := ⟨_, rfl⟩
    have hr' := Lib.hid hr
    rw [← hr]
    clear hr
    go_enter Tryz.func163, Tryz.ntmps163
    go_wp2_with fail
    go_loopw [5] (fun i wr => ∃ k : Nat, k ≤ n ∧ i = .int .i64 k ∧ l.take k = l'.take k ∧ Ext w wr) (fun i _ => n - (intOf i).toNat)
    case atStart => exact ⟨0, by omega, rfl, rfl, Ext.refl _⟩
    case round =>
      obtain ⟨k, hk, rfl, heq, hE⟩ := hrel
      by_cases hlt : k < n
      · have hli : (k : Int) < (n : Int) := by omega
        obtain ⟨c, hc⟩ : ∃ c, l[k]? = some c := ⟨_, List.getElem?_eq_getElem (by rw [← hq1.out]; exact hlt)⟩
        obtain ⟨c', hc'⟩ : ∃ c, l'[k]? = some c := ⟨_, List.getElem?_eq_getElem (by rw [← hq2.out]; exact hlt)⟩
        obtain ⟨b, off, hat⟩ := (h1.ext hE).at
        obtain ⟨b', off', hat'⟩ := (h2.ext hE).at
        obtain ⟨rfl, _, hd⟩ := hat (by omega)
        obtain ⟨rfl, _, hd'⟩ := hat' (by omega)
        have p := ch_range (by rw [← hq1.out]; exact hd) hc
        have q := ch_range (by rw [← hq2.out]; exact hd') hc'
        clear hd hd' hat hat'
        have htk : l.take (k + 1) = l.take k ++ [c] := by rw [List.take_add_one, hc]; rfl
        have htk' : l'.take (k + 1) = l'.take k ++ [c'] := by rw [List.take_add_one, hc']; rfl
        have heq' := Lib.hid heq
        have htk2 := Lib.hid htk
        have htk3 := Lib.hid htk'
        have hcc := Lib.hid hc
        have hcc' := Lib.hid hc'
        clear heq htk htk' hc hc'
        go_upto_region 6 with fail
        refine wp_region_class (Ext wr) (by kernel_rfl) (by kernel_rfl) (Ext.refl _).drew ?_
        iterate 3 (refine wpQuiet_step (fun K hK => ?_); go_simp; first | (refine hK _ ?_; clear hK K) | (refine ⟨_, fun _ _ => rfl, hK _ ?_⟩; clear hK K))
        refine wpQuiet_load_mid (by rfl) 93 _ (by rfl) b (off + k * 3) (by rfl) _ _ (fun w' h r u hu => h.cell (p r u hu)) Tryz.underlying93 rfl (by exact info_ch) ?_
        iterate 3 (refine wpQuiet_step (fun K hK => ?_); go_simp; first | (refine hK _ ?_; clear hK K) | (refine ⟨_, fun _ _ => rfl, hK _ ?_⟩; clear hK K))
        refine wpQuiet_load_mid (by rfl) 93 _ (by rfl) b' (off' + k * 3) (by rfl) _ _ (fun w' h r u hu => h.cell (q r u hu)) Tryz.underlying93 rfl (by exact info_ch) ?_
        refine wpQuiet_neq_ch (by rfl) (.tmp 20) (.tmp 24) (by rfl) c c' (by rfl) (by rfl) ?_
        refine wpQuiet_nil (fun w5 hE5 => ?_)
        simp only [Act.put, List.setIfInBounds_toArray, List.set_cons_zero, List.set_cons_succ]
        cases hse : sameCB c c'
        all_goals simp only [Bool.not_true, Bool.not_false]
        · have hne : r = false := by
            rw [hr'.out]
            refine decide_eq_false fun h => ?_
            subst h
            have := hcc.out.symm.trans hcc'.out
            injection this with this
            rw [sameC_iff.2 this] at hse
            exact Bool.noConfusion hse
          have hne' := Lib.hid hne
          clear hne
          go_wp2_with fail
          go_ret
          exact ⟨by rw [hne'.out]; rfl, hE.trans hE5⟩
        · have hcc2 := Lib.hid (sameC_iff.1 hse)
          go_wp2_with fail
          go_roundw
          case rel => first | exact ⟨k + 1, by omega, by go_num, by rw [htk2.out, htk3.out, heq'.out, hcc2.out], hE.trans hE5⟩ | exact ⟨_, _, _, _, _, _, _, _, _, _, _, _, _, ⟨k + 1, by omega, by go_num, by rw [htk2.out, htk3.out, heq'.out, hcc2.out], hE.trans hE5⟩, rfl⟩
          case measure => simp [intOf]; omega
      · have hli : ¬ (k : Int) < (n : Int) := by omega
        have hne : r = true := by
          rw [hr'.out]
          refine decide_eq_true ?_
          rw [List.take_of_length_le (by rw [← hq1.out]; omega), List.take_of_length_le (by rw [← hq2.out]; omega)] at heq
          exact heq
        have hne' := Lib.hid hne
        clear hne heq
        go_wp2_with fail
        go_ret
        exact ⟨by rw [hne'.out]; rfl, hE⟩
  · have hn' : ¬ (l.length : Int) = (l'.length : Int) := by omega
    rw [decide_eq_false (fun h => hn (congrArg List.length h))]
    clear h1 h2
    go_enter Tryz.func163, Tryz.ntmps163
    go_wp2_with fail
    go_ret
    exact ⟨rfl, Ext.refl _⟩
end Go.Proofs.YtmopjmhapeinjaaGreatDoor

/- A twin of changes, with a mark in the room behind; is it still what it was made of? No condition. -/
namespace Go.Proofs.YtmopjmhapeinjaaGreatDoor
open Go.RowKit
set_option maxRecDepth 100000
set_option maxHeartbeats 2000000
def chRow (c : Ch) : Array Value := #[.string c.key, .string c.val, .bool c.gone]
theorem chRow_one (c : Ch) : (chRow c).all (·.oneCell') = true := by kernel_rfl
theorem chr_all (x : Ch) : ∀ u ∈ (chRow x).toList, u.oneCell' = true := fun u hu => Array.all_eq_true_iff_forall_mem.1 (chRow_one x) u (by simpa using hu)
theorem run_bs_ch (r : Ch) (w : World) : (Instr.buildSlice 48 1 #[(0, .agg (chRow r))]).run Tryz.prog w = .ok (.slice (some ⟨w.heap.size, 0, none⟩) 1 1) (w.alloc (.cells (chRow r) 93)) := by kernel_rfl
theorem wpList_bs_ch {ops : Array Oper} {rest : List Oper} {o : Oper} {a : Act} {Q : Exit → Act → World → Prop} {w : World} (hgd : o.guard = none) (p : Operand) (ho : o.op = .buildSlice 48 1 #[(0, p)]) (r : Ch) (hp : a.eval p = .agg (chRow r))
    (h : wpList Tryz.prog ops Q rest (a.put o.dst (.slice (some ⟨w.heap.size, 0, none⟩) 1 1)) (w.alloc (.cells (chRow r) 93))) : wpList Tryz.prog ops Q (o :: rest) a w := by
  refine wpList_plain hgd fun K hK => ?_
  unfold Oper.wp execOp
  simp only [ho, hp, List.map_toArray, List.map_cons, List.map_nil, Sem.run_bind, Result.andThen_ok, run_bs_ch, Sem.run_pure]
  exact hK _ _ h
def spareC : Ch := ⟨⟨#[115, 112, 97, 114, 101]⟩, ⟨#[]⟩, false⟩
/-- A twin: the changes, and behind them the mark, in a block of the call's own. -/
def TwC (w : World) (base : Nat) (b n cap : Nat) (l : List Ch) : Prop := OwnC w base 93 3 (.slice (some ⟨b, 0, none⟩) (n + 1) cap) (n + 1) ((l ++ [spareC]).flatMap Ch.cells)
theorem TwC.ext {w w' : World} {base b n cap : Nat} {l : List Ch} (h : TwC w base b n cap l) (he : Ext w w') : TwC w' base b n cap l := OwnC.ext h he
theorem flat_lenC (l : List Ch) : (l.flatMap Ch.cells).length = l.length * 3 := by
  induction l with
  | nil => rfl
  | cons x l ih => rw [List.flatMap_cons, List.length_append, ih, List.length_cons, Nat.add_mul]; show 3 + _ = _; omega
theorem TwC.own {w : World} {base b n cap : Nat} {l : List Ch} (h : TwC w base b n cap l) (hn : n = l.length) : OwnC w base 93 3 (.slice (some ⟨b, 0, none⟩) n cap) n (l.flatMap Ch.cells) := by
  have := OwnC.cut (m := n) h (by omega)
  rw [List.flatMap_append, ← show (l.flatMap Ch.cells).length = n * 3 by rw [hn]; exact flat_lenC l, List.take_left] at this
  exact this
theorem TwC.cap {w : World} {base b n cap : Nat} {l : List Ch} (h : TwC w base b n cap l) : n + 1 ≤ cap := by
  obtain ⟨a, c, e, h1, _⟩ := OwnC.form h
  injection e with _ _ e
  omega
theorem twinC_any (w : World) (l : List Ch) (a : Option Addr) (cap n : Nat) (hnl : n = l.length) (hr : RowIs w 3 (.slice a n cap) n (l.flatMap Ch.cells)) (hn : n ≤ 50000) :
    Calls Tryz.prog 28 #[.slice a n cap] w fun e w' => ∃ b cap', e = .returned (.slice (some ⟨b, 0, none⟩) n cap') ∧ TwC w' w.heap.size b n cap' l ∧ Ext w w' := by
  have hrn' := Lib.hid hnl
  have hr' := Lib.hid hr
  clear hnl hr
  obtain ⟨ir, hir, hiz, his, hib⟩ : ∃ i, Tryz.prog.info? 93 = some i ∧ i.zero = some (.agg #[.string ⟨#[]⟩, .string ⟨#[]⟩, .bool false]) ∧ i.size = 3 ∧ i.bytes = 40 := by
    have h : (Tryz.prog.info? 93).map (fun i => (i.zero, i.size, i.bytes)) = some (some (.agg #[.string ⟨#[]⟩, .string ⟨#[]⟩, .bool false]), 3, 40) := by kernel_rfl
    obtain ⟨i, hi, he⟩ := Option.map_eq_some_iff.1 h
    simp only [Prod.mk.injEq] at he
    exact ⟨i, hi, he.1, he.2.1, he.2.2⟩
  go_enter Tryz.func28, Tryz.ntmps28
  go_wp2_with (first | (refine wpList_make_own w (by rfl) (.const (.int .i64 0)) (.tmp 7) 48 (by rfl) w.heap.size 93 ir _ 3 Tryz.underlying48 hir hiz his .i64 .i64 ((n : Int) + 1) (n + 1) (by rfl) (by rfl) (by omega) (by rw [hib]; omega) (by unfold maxLen; omega) (Nat.le_refl _) ?_; go_loud (intro w1 hown1 hgr1; have hE1 : Ext w w1 := Below.grown (Below.refl _ _) hgr1 (Nat.le_refl _) (fun _ h => by cases h))) | fail)
  go_wp2_with fail
  go_loopw [3, 4] (fun out i wr => ∃ (k : Nat) (oa : Option Addr) (oc : Nat), k ≤ n ∧ i = .int .i64 k ∧ out = .slice oa k oc ∧ OwnC wr w.heap.size 93 3 (.slice oa k oc) k ((l.take k).flatMap Ch.cells) ∧ Ext w wr) (fun _ i _ => n - (intOf i).toNat)
  case atStart => exact ⟨0, _, _, by omega, rfl, rfl, OwnC.of_own hown1, hE1⟩
  case round =>
    obtain ⟨k, oa, oc, hk, rfl, rfl, hown, hEr⟩ := hrel
    by_cases hlt : k < n
    · have hli : (k : Int) < (n : Int) := by omega
      obtain ⟨r, hr⟩ : ∃ r, l[k]? = some r := ⟨_, List.getElem?_eq_getElem (by rw [← hrn'.out]; exact hlt)⟩
      obtain ⟨b, off, hat⟩ := (hr'.out.ext hEr).at
      obtain ⟨rfl, _, hd⟩ := hat (by omega)
      have hrg := ch_range (by rw [← hrn'.out]; exact hd) hr
      have htk : l.take (k + 1) = l.take k ++ [r] := by rw [List.take_add_one, hr]; rfl
      have htk' := Lib.hid htk
      have hsz := hEr.size
      clear hat hd hr htk
      go_wp2_with (first | (refine wpList_load_mid (by rfl) 93 (.tmp 18) (by rfl) b (off + k * 3) (by rfl) (chRow r).toList _ hrg Tryz.underlying93 rfl (by exact info_ch) ?_) | (refine wpList_bs_ch (by rfl) (.tmp 19) (by rfl) r (by rfl) ?_) | (at_builtin; go_loud (refine wpList_append_c (by rfl) (.tmp 15) (.tmp 20) 48 93 (by rfl) Tryz.underlying48 el_ch wr w.heap.size k _ (.slice oa k oc) (by rfl) hown (chRow r) (by rfl) (by rfl) (chr_all r) (by omega) (by omega) hsz ?_); go_loud (intro v' w3 hA3; obtain ⟨oa', oc', rfl, _⟩ := hA3.own.form; have hown2 := hA3.own; have hX3 : Ext w w3 := Below.trans hEr hA3.below)) | fail)
      go_roundw
      case rel =>
        refine ⟨k + 1, oa', oc', by omega, by go_num, rfl, ?_, hX3⟩
        rw [htk'.out, List.flatMap_append, show List.flatMap Ch.cells [r] = (chRow r).toList from rfl]
        exact hown2
      case measure => simp [intOf]; omega
    · have hli : ¬ (k : Int) < (n : Int) := by omega
      obtain rfl : k = n := by omega
      rw [List.take_of_length_le (by rw [← hrn'.out]; exact Nat.le_refl _)] at hown
      have hxl : (l.flatMap Ch.cells).length = k * 3 := hown.1
      clear hr' hown1
      have hsz := hEr.size
      go_wp2_with (first | (at_builtin; go_loud (refine wpList_append_c (by rfl) (.tmp 22) (.tmp 24) 48 93 (by rfl) Tryz.underlying48 el_ch wr w.heap.size k _ (.slice oa k oc) (by rfl) hown (chRow spareC) (by rfl) (by rfl) (chr_all spareC) (by omega) (by omega) hsz ?_); go_loud (intro v' w3 hA3; obtain ⟨oa', oc', rfl, hoc, hoa⟩ := hA3.own.form); go_loud (have hX3 : Ext w w3 := Below.trans hEr hA3.below); go_loud (have hkc : (k : Int) ≤ (oc' : Int) := by omega)) | fail)
      go_ret
      obtain ⟨b, rfl⟩ : ∃ b, oa' = some ⟨b, 0, none⟩ := by
        rcases hoa with e | e
        · injection e with _ e
          omega
        · exact e
      refine ⟨b, oc', rfl, ?_, hX3⟩
      unfold TwC
      rw [List.flatMap_append]
      exact hA3.own
theorem leftC_any (w : World) (l : List Ch) (base b cap' : Nat) (a : Option Addr) (cap n : Nat) (hnl : n = l.length) (hr : RowIs w 3 (.slice a n cap) n (l.flatMap Ch.cells)) (hn : n ≤ 50000) (hT : TwC w base b n cap' l) :
    Calls Tryz.prog 33 #[.slice (some ⟨b, 0, none⟩) n cap', .slice a n cap] w fun e w' => e = .returned (.bool true) ∧ Ext w w' := by
  have hn' := Lib.hid hnl
  have hr' := Lib.hid hr
  have hT' := Lib.hid hT
  have hcap := hT.cap
  clear hnl hr hT
  have hci : ¬ (cap' : Int) ≤ (n : Int) := by omega
  go_enter Tryz.func33, Tryz.ntmps33
  go_wp2_with fail
  go_loopw [5] (fun i wr => ∃ k : Nat, k ≤ n ∧ i = .int .i64 k ∧ Ext w wr) (fun i _ => n - (intOf i).toNat)
  case atStart => exact ⟨0, by omega, rfl, Ext.refl _⟩
  case round =>
    obtain ⟨k, hk, rfl, hE⟩ := hrel
    have htw := (OwnC.row (hT'.out.ext hE))
    obtain ⟨tb, tof, hat2⟩ := htw.at
    obtain ⟨e1, _, hd2⟩ := hat2 (by omega)
    injection e1 with e1
    injection e1 with e1 e2
    subst e1 e2
    by_cases hlt : k < n
    · have hli : (k : Int) < (n : Int) := by omega
      obtain ⟨r, hrr⟩ : ∃ r, l[k]? = some r := ⟨_, List.getElem?_eq_getElem (by rw [← hn'.out]; exact hlt)⟩
      obtain ⟨lb, off, hat⟩ := (hr'.out.ext hE).at
      obtain ⟨rfl, _, hd⟩ := hat (by omega)
      have p := ch_range (by rw [← hn'.out]; exact hd) hrr
      have q := ch_range (l := l ++ [spareC]) (by rw [List.length_append, ← hn'.out]; exact hd2) (k := k) (c := r) (by rw [List.getElem?_append_left (by rw [← hn'.out]; exact hlt)]; exact hrr)
      rw [Nat.zero_add] at q
      clear hat hd hat2 hd2 hrr htw
      go_upto_region 6 with fail
      refine bqRegion (Ext wr) (by kernel_rfl) (by kernel_rfl) (Ext.refl _).drew ?_
      iterate 3 (refine bqStep (fun K hK => ?_); go_simp; first | (refine hK _ ?_; clear hK K) | (refine ⟨_, fun _ _ => rfl, hK _ ?_⟩; clear hK K))
      refine bqMid (by rfl) 93 _ (by rfl) b (k * 3) (by rfl) _ _ (fun w' h r u hu => h.cell (q r u hu)) Tryz.underlying93 rfl (by exact info_ch) ?_
      iterate 3 (refine bqStep (fun K hK => ?_); go_simp; first | (refine hK _ ?_; clear hK K) | (refine ⟨_, fun _ _ => rfl, hK _ ?_⟩; clear hK K))
      refine bqMid (by rfl) 93 _ (by rfl) lb (off + k * 3) (by rfl) _ _ (fun w' h r u hu => h.cell (p r u hu)) Tryz.underlying93 rfl (by exact info_ch) ?_
      refine ⟨wpQuiet_neq_ch (by rfl) (.tmp 28) (.tmp 32) (by rfl) r r (by rfl) (by rfl) ?_⟩
      rw [sameC_iff.2 rfl]
      refine wpQuiet_nil (fun w5 hE5 => ?_)
      simp only [Act.put, List.setIfInBounds_toArray, List.set_cons_zero, List.set_cons_succ, Bool.not_true]
      go_wp2_with fail
      go_roundw
      case rel => exact ⟨k + 1, by omega, by go_num, hE.trans hE5⟩
      case measure => simp [intOf]; omega
    · have hli : ¬ (k : Int) < (n : Int) := by omega
      have q := ch_range (l := l ++ [spareC]) (by rw [List.length_append, ← hn'.out]; exact hd2) (k := n) (c := spareC) (by rw [List.getElem?_append_right (by rw [← hn'.out]; exact Nat.le_refl _), ← hn'.out, Nat.sub_self]; rfl)
      rw [Nat.zero_add] at q
      have hi1 : (n : Int) + 1 ≤ (cap' : Int) := by omega
      have hi2 : 0 ≤ (n : Int) + 1 := by omega
      have hi3 : ((n : Int) + 1).toNat = n + 1 := by omega
      have hi4 : (n : Int) < ((n : Int) + 1) := by omega
      clear hat2 hd2 htw
      obtain ⟨W2, hW2⟩ : ∃ W, W = wr.alloc (.cells (chRow spareC) 93) := ⟨_, rfl⟩
      have hE2 : Ext w W2 := by rw [hW2]; exact hE.alloc _
      have hc0 : W2.cell? ⟨wr.heap.size, 0, none⟩ = some (.string ⟨#[115, 112, 97, 114, 101]⟩) := by rw [hW2, cell_of_row _ _ _ _ _ _ (heap_alloc_new wr _)]; rfl
      have hW2' := Lib.hid hW2
      clear hW2
      go_upto_region 9 with (first | (refine wpList_load_mid (by rfl) 93 (.tmp 41) (by rfl) b (n * 3) (by rfl) (chRow spareC).toList _ q Tryz.underlying93 rfl (by exact info_ch) ?_) | (refine wpList_store_whole (by rfl) 93 (.tmp 6) (.tmp 42) (by rfl) wr _ (chRow spareC) wr.heap.size (by rfl) rfl (by rfl) (by exact info_ch) (by rfl) (chRow_one spareC) ?_; rw [← hW2'.out]) | fail)
      clear hi1 hi2 hi3 hi4 q
      go_wp2_with fail
      go_ret
      exact ⟨rfl, hE2⟩
end Go.Proofs.YtmopjmhapeinjaaGreatDoor

/- Items, and where their asks' changes lie. (Printed by mkit.py.) No condition. -/
namespace Go.Proofs.YtmopjmhapeinjaaGreatDoor
open Go.RowKit
set_option maxRecDepth 100000
set_option maxHeartbeats 2000000
structure It where
  ix : Nat
  cl : Nat
  num : Nat
  ask : Ak
  v : Value
def itRow (x : It) (va : Option Addr) (vn vc : Nat) : Array Value := #[.int .u64 (x.ix : Int), .int .u8 (x.cl : Int), .int .u32 (x.num : Int), .int .u8 x.ask.kind, .string x.ask.key, .string x.ask.val, .string x.ask.old, .bool x.ask.new, .string x.ask.to, .int .i64 x.ask.many, .slice va vn vc]
def It.cells (x : It) : List Value := [.int .u64 (x.ix : Int), .int .u8 (x.cl : Int), .int .u32 (x.num : Int), .int .u8 x.ask.kind, .string x.ask.key, .string x.ask.val, .string x.ask.old, .bool x.ask.new, .string x.ask.to, .int .i64 x.ask.many, x.v]
theorem itRow_one (x : It) (va : Option Addr) (vn vc : Nat) : (itRow x va vn vc).all (·.oneCell') = true := by kernel_rfl
theorem it_cells {x : It} {va : Option Addr} {vn vc : Nat} (h : x.v = .slice va vn vc) : x.cells = (itRow x va vn vc).toList := by unfold It.cells itRow; rw [h]
theorem itr_all (x : It) (va : Option Addr) (vn vc : Nat) : ∀ u ∈ (itRow x va vn vc).toList, u.oneCell' = true := fun u hu => Array.all_eq_true_iff_forall_mem.1 (itRow_one x va vn vc) u (by simpa using hu)
theorem info_item : (Tryz.prog.info? 100).map (·.size) = some 11 := by kernel_rfl
theorem el_item : ElemIs Tryz.prog 100 11 128 := by
  refine ElemIs.mk (z := .agg #[.int .u64 0, .int .u8 0, .int .u32 0, .int .u8 0, .string ⟨#[]⟩, .string ⟨#[]⟩, .string ⟨#[]⟩, .bool false, .string ⟨#[]⟩, .int .i64 0, .slice none 0 0]) (by kernel_rfl) (by rfl) (by decide)
theorem its_range {w : World} {l : List It} {b off : Nat} (hd : ∀ i, i < l.length * 11 → w.cell? ⟨b, off + i, none⟩ = (l.flatMap It.cells)[i]?) {k : Nat} {x : It} (h : l[k]? = some x) : w.rangeAt b (off + k * 11) x.cells := fun r v hv => by
  have hr : r < 11 := (List.getElem?_eq_some_iff.1 hv).1
  have hk : k < l.length := (List.getElem?_eq_some_iff.1 h).1
  rw [Nat.add_assoc, hd (k * 11 + r) (by omega), flatMap_at It.cells 11 (by decide) (fun _ => rfl) l k x h r hr _ rfl]
  exact hv
/-- Without where the changes lie. -/
def It.bare (p : It) : It := ⟨p.ix, p.cl, p.num, p.ask, .slice none 0 0⟩
/-- Each one's changes lie in memory. -/
def ItAt (w : World) (q : List It) : Prop := ∀ p ∈ q, ∃ a c, p.v = .slice a p.ask.chs.length c ∧ RowIs w 3 (.slice a p.ask.chs.length c) p.ask.chs.length (p.ask.chs.flatMap Ch.cells)
theorem ItAt.ext {w w' : World} {q : List It} (h : ItAt w q) (hE : Ext w w') : ItAt w' q := fun p hp => by
  obtain ⟨a, c, h1, h2⟩ := h p hp
  exact ⟨a, c, h1, h2.ext hE⟩
def ItOwn (w : World) (base : Nat) (q : List It) : Prop := ∀ p ∈ q, OwnC w base 93 3 p.v p.ask.chs.length (p.ask.chs.flatMap Ch.cells)
def ItSep (q : List It) : Prop := q.Pairwise fun p r => ∀ b, p.v.ownBlock = some b → r.v.ownBlock ≠ some b
theorem ItSep.snoc {q : List It} {x : It} {w : World} {base : Nat} (h : ItSep q) (ho : ItOwn w base q) (hx : ∀ b, x.v.ownBlock = some b → w.heap.size ≤ b) : ItSep (q ++ [x]) := by
  unfold ItSep
  refine List.pairwise_append.2 ⟨h, List.pairwise_singleton .., fun p hp r hr b hb he => ?_⟩
  rw [List.mem_singleton.1 hr] at he
  have h1 := hx b he
  have h2 := ((ho p hp).lt b hb).2
  omega
section
variable {W : World} {g : Nat} {x : It} {va : Option Addr} {vn vc : Nat}
theorem it_cs (h : W.heap[g]? = some (.cells (itRow x va vn vc) 100 (0, 0))) : W.cell? ⟨g, 0, none⟩ = some (.int .u64 (x.ix : Int)) ∧ W.cell? ⟨g, 1, none⟩ = some (.int .u8 (x.cl : Int)) ∧ W.cell? ⟨g, 2, none⟩ = some (.int .u32 (x.num : Int)) ∧ W.cell? ⟨g, 3, none⟩ = some (.int .u8 x.ask.kind) ∧ W.cell? ⟨g, 4, none⟩ = some (.string x.ask.key) ∧ W.cell? ⟨g, 5, none⟩ = some (.string x.ask.val) ∧ W.cell? ⟨g, 6, none⟩ = some (.string x.ask.old) ∧ W.cell? ⟨g, 7, none⟩ = some (.bool x.ask.new) ∧ W.cell? ⟨g, 8, none⟩ = some (.string x.ask.to) ∧ W.cell? ⟨g, 9, none⟩ = some (.int .i64 x.ask.many) ∧ W.cell? ⟨g, 10, none⟩ = some (.slice va vn vc) := by
  refine ⟨?_, ?_, ?_, ?_, ?_, ?_, ?_, ?_, ?_, ?_, ?_⟩ <;> (rw [cell_of_row _ _ _ _ 100 (0, 0) h]; rfl)
theorem run_bs_it (x : It) (va : Option Addr) (vn vc : Nat) (w : World) : (Instr.buildSlice 57 1 #[(0, .agg (itRow x va vn vc))]).run Tryz.prog w = .ok (.slice (some ⟨w.heap.size, 0, none⟩) 1 1) (w.alloc (.cells (itRow x va vn vc) 100)) := by kernel_rfl
theorem wpList_bs_it {ops : Array Oper} {rest : List Oper} {o : Oper} {a : Act} {Q : Exit → Act → World → Prop} {w : World} (hgd : o.guard = none) (p : Operand) (ho : o.op = .buildSlice 57 1 #[(0, p)]) (x : It) (va : Option Addr) (vn vc : Nat) (hp : a.eval p = .agg (itRow x va vn vc))
    (h : wpList Tryz.prog ops Q rest (a.put o.dst (.slice (some ⟨w.heap.size, 0, none⟩) 1 1)) (w.alloc (.cells (itRow x va vn vc) 100))) : wpList Tryz.prog ops Q (o :: rest) a w := by
  refine wpList_plain hgd fun K hK => ?_
  unfold Oper.wp execOp
  simp only [ho, hp, List.map_toArray, List.map_cons, List.map_nil, Sem.run_bind, Result.andThen_ok, run_bs_it, Sem.run_pure]
  exact hK _ _ h
end
end Go.Proofs.YtmopjmhapeinjaaGreatDoor

/- ItemSize, ItemsSize. (Printed by mksz.py.) No condition. -/
namespace Go.Proofs.YtmopjmhapeinjaaGreatDoor
open Go.RowKit
set_option maxRecDepth 100000
set_option maxHeartbeats 1000000
def It.sz (p : It) : Nat := 1 + p.ask.sz
/-- Small, and few changes. -/
def It.okI (p : It) : Prop := p.ask.small ∧ (∀ c ∈ p.ask.chs, c.small) ∧ p.ask.chs.length * 40 ≤ 140737488351232
theorem It.sz_le {p : It} (h : p.okI) : p.sz ≤ 3000000000000000 := by
  have := Ak.sz_le h.1 h.2.1 (by have := h.2.2; omega)
  unfold It.sz
  omega
theorem isize_any (w : World) (x : It) (a : Option Addr) (cap : Nat) (hs : x.okI) (hr : RowIs w 3 (.slice a x.ask.chs.length cap) x.ask.chs.length (x.ask.chs.flatMap Ch.cells)) : Calls Tryz.prog 152 #[.agg (itRow x a x.ask.chs.length cap)] w fun e w' => e = .returned (.int .i64 (x.sz : Nat)) ∧ Ext w w' := by
  obtain ⟨W, hW⟩ : ∃ W, W = w.alloc (.cells (itRow x a x.ask.chs.length cap) 100) := ⟨_, rfl⟩
  have hE : Ext w W := by rw [hW]; exact (Ext.refl _).alloc _
  have hX : W.heap[w.heap.size]? = some (.cells (itRow x a x.ask.chs.length cap) 100 (0, 0)) := by rw [hW]; exact heap_alloc_new w _
  obtain ⟨c0, c1, c2, c3, c4, c5, c6, c7, c8, c9, c10⟩ := it_cs hX
  have hcall := Lib.hid (asize_any W x.ask a cap ⟨hr.ext hE, hs.2.2, hs.2.1⟩ hs.1)
  have hbd := Ak.sz_le hs.1 hs.2.1 (by have := hs.2.2; omega)
  unfold It.sz
  generalize x.ask.sz = C at *
  have hW' := Lib.hid hW
  clear hW hX hr hs
  unfold itRow at hW' ⊢
  unfold Ak.row at hcall
  go_enter Tryz.func152, Tryz.ntmps152
  go_upto_region 1 with fail
  rw [← hW'.out]
  clear hW'
  go_wp2_with fail
  refine hcall.out.mono ?_
  rintro e w2 ⟨rfl, hE2⟩
  go_wp2_with fail
  go_ret
  exact ⟨congrArg Ending.returned (congrArg (Value.int IntKind.i64) (by omega)), hE.trans hE2⟩
def itsAux : Nat → List It → Nat
  | n, [] => n
  | n, x :: r => if n ≤ 1048576 then itsAux (n + x.sz) r else n
theorem its_stop (l : List It) (n : Nat) (h : ¬ n ≤ 1048576) : itsAux n l = n := by
  cases l with
  | nil => rfl
  | cons c r => unfold itsAux; rw [if_neg h]
theorem its_ge : ∀ (l : List It) (n : Nat), n ≤ itsAux n l
  | [], n => Nat.le_refl _
  | c :: r, n => by
    unfold itsAux
    split
    · exact Nat.le_trans (by omega) (its_ge r _)
    · exact Nat.le_refl _
theorem its_le : ∀ (l : List It) (n : Nat), (∀ p ∈ l, p.okI) → itsAux n l ≤ max n 1048576 + 3000000000000000
  | [], n, _ => by unfold itsAux; omega
  | c :: r, n, h => by
    have ih := its_le r (n + c.sz) (fun d hd => h d (List.mem_cons_of_mem _ hd))
    have h1 := It.sz_le (h c (List.mem_cons_self ..))
    unfold itsAux
    split
    · by_cases h3 : n + c.sz ≤ 1048576
      · omega
      · rw [its_stop r _ h3]; omega
    · omega
theorem itssize_any (w : World) (q : List It) (a : Option Addr) (cap : Nat) (hg : ∀ p ∈ q, p.okI) (hv : ItAt w q) (hl : q.length ≤ 140737488351232) (h1 : RowIs w 11 (.slice a q.length cap) q.length (q.flatMap It.cells)) :
    Calls Tryz.prog 97 #[.slice a q.length cap] w fun e w' => e = .returned (.int .i64 (itsAux q.length q : Nat)) ∧ Ext w w' := by
  obtain ⟨S, hS⟩ : ∃ S, S = itsAux q.length q := ⟨_, rfl⟩
  rw [← hS]
  have hS' := Lib.hid hS
  have hg' := Lib.hid hg
  have hv' := Lib.hid hv
  obtain ⟨m, hm0⟩ : ∃ m, m = q.length := ⟨_, rfl⟩
  rw [← hm0] at h1 hl ⊢
  have hm := Lib.hid hm0
  have h1' := Lib.hid h1
  clear hS hg hv hm0 h1
  go_enter Tryz.func97, Tryz.ntmps97
  go_wp2_with fail
  go_loopw [3, 4] (fun n i wr => ∃ k N : Nat, k ≤ m ∧ n = .int .i64 (N : Int) ∧ i = .int .i64 k ∧ Hid (S = itsAux N (q.drop k)) ∧ N ≤ 7000000000000000 ∧ Ext w wr) (fun _ i _ => m - (intOf i).toNat)
  case atStart => exact ⟨0, m, by omega, rfl, rfl, Lib.hid (by rw [hm.out]; exact hS'.out), by omega, Ext.refl _⟩
  case round =>
    obtain ⟨k, N, hk, rfl, rfl, hs, hN, hE⟩ := hrel
    by_cases hlt : k < m
    · have hli : (k : Int) < (m : Int) := by omega
      obtain ⟨y, hy⟩ : ∃ y, q[k]? = some y := ⟨_, List.getElem?_eq_getElem (by rw [← hm.out]; exact hlt)⟩
      have hdr : Hid (S = if N ≤ 1048576 then itsAux (N + y.sz) (q.drop (k + 1)) else N) := Lib.hid (by
        obtain ⟨hlt2, he⟩ := List.getElem?_eq_some_iff.1 hy
        rw [hs.out, List.drop_eq_getElem_cons hlt2, he]
        rfl)
      obtain ⟨ob, oo, hat⟩ := (h1'.out.ext hE).at
      obtain ⟨rfl, _, hdy⟩ := hat (by omega)
      have hrg := its_range (by rw [← hm.out]; exact hdy) hy
      obtain ⟨va, vc, hv, hyr⟩ := hv'.out y (List.mem_of_getElem? hy)
      rw [it_cells hv] at hrg
      have hsy := hg'.out y (List.mem_of_getElem? hy)
      have hcall := Lib.hid (fun W (hW : Ext wr W) => isize_any W y va vc hsy (hyr.ext (hE.trans hW)))
      have hyz := It.sz_le hsy
      clear hat hdy hy hv hyr hsy
      by_cases hsm : N ≤ 1048576
      · have hsi : (N : Int) ≤ 1048576 := by omega
        generalize It.sz y = C at *
        go_wp2_with (first | (refine wpList_load_mid (by rfl) 100 (.tmp 20) (by rfl) ob (oo + k * 11) (by rfl) (itRow y va y.ask.chs.length vc).toList _ hrg Tryz.underlying100 rfl (by exact info_item) ?_) | fail)
        refine (hcall.out wr (Ext.refl _)).mono ?_
        rintro e w2 ⟨rfl, hE2⟩
        go_wp2_with fail
        go_roundw
        case rel => exact ⟨k + 1, N + C, by omega, by go_num, by go_num, Lib.hid (by rw [hdr.out, if_pos hsm]), by omega, hE.trans hE2⟩
        case measure => simp [intOf]; omega
      · have hsi : ¬ (N : Int) ≤ 1048576 := by omega
        clear hrg hcall
        go_wp2_with fail
        go_ret
        exact ⟨by rw [hdr.out, if_neg hsm]; rfl, hE⟩
    · have hli : ¬ (k : Int) < (m : Int) := by omega
      go_wp2_with fail
      go_ret
      exact ⟨by rw [hs.out, List.drop_eq_nil_of_le (by rw [← hm.out]; omega)]; rfl, hE⟩
end Go.Proofs.YtmopjmhapeinjaaGreatDoor
