/- SameRows. No condition. -/
import Derived.Test.YtmjoaiepfipmaaaMod11
import Derived.Test.YtmjoaiepfipmaaaMod12
namespace Go.Proofs.Ytmjoaiepfipmaaa
open Go.RowKit
theorem rws_range {w : World} {l : List Rw} {b off : Nat} (hd : ∀ i, i < l.length * 2 → w.cell? ⟨b, off + i, none⟩ = (l.flatMap rwL)[i]?) {k : Nat} {x : Rw} (h : l[k]? = some x) : w.rangeAt b (off + k * 2) (rowR x).toList := fun r v hv => by
  have hr : r < 2 := (List.getElem?_eq_some_iff.1 hv).1
  have hk : k < l.length := (List.getElem?_eq_some_iff.1 h).1
  rw [Nat.add_assoc, hd (k * 2 + r) (by omega), flatMap_at rwL 2 (by decide) (fun _ => rfl) l k x h r hr _ rfl]; exact hv
def sameRB (a b : Rw) : Bool := a.key.toList == b.key.toList && a.val.toList == b.val.toList
theorem tl_ext {a b : ByteArray} (h : a.toList = b.toList) : a = b := ba_data (by rw [← ByteArray.toList_eq, ← ByteArray.toList_eq]; exact h)
theorem sameR_iff {a b : Rw} : sameRB a b = true ↔ a = b := by
  unfold sameRB
  rw [Bool.and_eq_true, beq_iff_eq, beq_iff_eq]
  constructor
  · rintro ⟨h1, h2⟩
    obtain ⟨m, v⟩ := a; obtain ⟨m', v'⟩ := b
    simp only at h1 h2
    rw [tl_ext h1, tl_ext h2]
  · rintro rfl; exact ⟨rfl, rfl⟩
instance : DecidableEq Rw := fun _ _ => decidable_of_iff _ sameR_iff
theorem wpQuiet_neq_rw {ops : Array Oper} {C : World → Prop} {Q : Act → Prop} {o : Oper} {rest : List Oper} {a : Act} (hg : Region.wanted o (yielded ops a.tmps) = true) (x y : Operand) (ho : o.op = .binOp .neq 62 x y 62) (m n : Rw) (hx : a.eval x = .agg (rowR m)) (hy : a.eval y = .agg (rowR n))
    (k : wpQuiet Try.prog ops C Q rest (a.put o.dst (.bool (!sameRB m n)))) : wpQuiet Try.prog ops C Q (o :: rest) a := by
  refine wpQuiet_value _ hg (fun w _ => ?_) k
  unfold execOp
  simp only [ho, hx, hy, rowR]
  go_simp
  unfold sameRB
  by_cases h1 : m.key.toList = n.key.toList <;> by_cases h4 : m.val.toList = n.val.toList <;> simp [h1, h4]
set_option maxRecDepth 100000 in
set_option maxHeartbeats 1000000 in
theorem srows_any (w : World) (l l' : List Rw) (a a' : Option Addr) (cap cap' : Nat) (h1 : RowIs w 2 (.slice a l.length cap) l.length (l.flatMap rwL)) (h2 : RowIs w 2 (.slice a' l'.length cap') l'.length (l'.flatMap rwL)) :
    Calls Try.prog 22 #[.slice a l.length cap, .slice a' l'.length cap'] w fun e w' => e = .returned (.bool (decide (l = l'))) ∧ Ext w w' := by
  by_cases hn : l.length = l'.length
  · have hn' : (l.length : Int) = (l'.length : Int) := by omega
    have hnn := h1.2.1
    obtain ⟨n, hl1⟩ : ∃ n, n = l.length := ⟨_, rfl⟩
    have hl2 : n = l'.length := by omega
    rw [← hl1] at h1 hnn
    rw [← hl2] at h2
    rw [← hl1, ← hl2]
    have hq1 := Lib.hid hl1
    have hq2 := Lib.hid hl2
    clear hn hn' hl1 hl2
    obtain ⟨r, hr⟩ : ∃ r, r = decide (l = l') := ⟨_, rfl⟩
    have hr' := Lib.hid hr
    rw [← hr]
    clear hr
    go_enter Try.func22, Try.ntmps22
    go_wp2_with fail
    go_loopw [5] (fun i wr => ∃ k : Nat, k ≤ n ∧ i = .int .i64 k ∧ l.take k = l'.take k ∧ Ext w wr) (fun i _ => n - (intOf i).toNat)
    case atStart => exact ⟨0, by omega, rfl, rfl, Ext.refl _⟩
    case round =>
      obtain ⟨k, hk, rfl, heq, hE⟩ := hrel
      by_cases hlt : k < n
      · have hli : (k : Int) < (n : Int) := by omega
        obtain ⟨c, hc⟩ : ∃ c, l[k]? = some c := ⟨_, List.getElem?_eq_getElem (by rw [← hq1.out]; exact hlt)⟩
        obtain ⟨c', hc'⟩ : ∃ c, l'[k]? = some c := ⟨_, List.getElem?_eq_getElem (by rw [← hq2.out]; exact hlt)⟩
        obtain ⟨b, off, hat⟩ := (h1.ext hE).at
        obtain ⟨b', off', hat'⟩ := (h2.ext hE).at
        obtain ⟨rfl, _, hd⟩ := hat (by omega)
        obtain ⟨rfl, _, hd'⟩ := hat' (by omega)
        have p := rws_range (by rw [← hq1.out]; exact hd) hc
        have q := rws_range (by rw [← hq2.out]; exact hd') hc'
        clear hd hd' hat hat'
        have htk : l.take (k + 1) = l.take k ++ [c] := by rw [List.take_add_one, hc]; rfl
        have htk' : l'.take (k + 1) = l'.take k ++ [c'] := by rw [List.take_add_one, hc']; rfl
        have heq' := Lib.hid heq
        have htk2 := Lib.hid htk
        have htk3 := Lib.hid htk'
        have hcc := Lib.hid hc
        have hcc' := Lib.hid hc'
        clear heq htk htk' hc hc'
        go_upto_region 6 with fail
        refine wp_region_class (Ext wr) (by kernel_rfl) (by kernel_rfl) (Ext.refl _).drew ?_
        iterate 3 (refine wpQuiet_step (fun K hK => ?_); go_simp; first | (refine hK _ ?_; clear hK K) | (refine ⟨_, fun _ _ => rfl, hK _ ?_⟩; clear hK K))
        refine wpQuiet_load_mid (by rfl) 62 _ (by rfl) b (off + k * 2) (by rfl) _ _ (fun w' h r u hu => h.cell (p r u hu)) Try.underlying62 rfl (by exact info_row) ?_
        iterate 3 (refine wpQuiet_step (fun K hK => ?_); go_simp; first | (refine hK _ ?_; clear hK K) | (refine ⟨_, fun _ _ => rfl, hK _ ?_⟩; clear hK K))
        refine wpQuiet_load_mid (by rfl) 62 _ (by rfl) b' (off' + k * 2) (by rfl) _ _ (fun w' h r u hu => h.cell (q r u hu)) Try.underlying62 rfl (by exact info_row) ?_
        refine wpQuiet_neq_rw (by rfl) (.tmp 20) (.tmp 24) (by rfl) c c' (by rfl) (by rfl) ?_
        refine wpQuiet_nil (fun w5 hE5 => ?_)
        simp only [Act.put, List.setIfInBounds_toArray, List.set_cons_zero, List.set_cons_succ]
        cases hse : sameRB c c'
        all_goals simp only [Bool.not_true, Bool.not_false]
        · have hne : r = false := by
            rw [hr'.out]
            refine decide_eq_false fun h => ?_
            subst h
            have := hcc.out.symm.trans hcc'.out
            injection this with this
            rw [sameR_iff.2 this] at hse
            exact Bool.noConfusion hse
          have hne' := Lib.hid hne
          clear hne
          go_wp2_with fail
          go_ret
          exact ⟨by rw [hne'.out]; rfl, hE.trans hE5⟩
        · have hcc2 := Lib.hid (sameR_iff.1 hse)
          go_wp2_with fail
          go_roundw
          case rel => first | exact ⟨k + 1, by omega, by go_num, by rw [htk2.out, htk3.out, heq'.out, hcc2.out], hE.trans hE5⟩ | exact ⟨_, _, _, _, _, _, _, _, _, _, _, _, _, ⟨k + 1, by omega, by go_num, by rw [htk2.out, htk3.out, heq'.out, hcc2.out], hE.trans hE5⟩, rfl⟩ | trace_state
          case measure => simp [intOf]; omega
      · have hli : ¬ (k : Int) < (n : Int) := by omega
        have hne : r = true := by
          rw [hr'.out]
          refine decide_eq_true ?_
          rw [List.take_of_length_le (by rw [← hq1.out]; omega), List.take_of_length_le (by rw [← hq2.out]; omega)] at heq
          exact heq
        have hne' := Lib.hid hne
        clear hne heq
        go_wp2_with fail
        go_ret
        exact ⟨by rw [hne'.out]; rfl, hE⟩
  · have hn' : ¬ (l.length : Int) = (l'.length : Int) := by omega
    rw [decide_eq_false (fun h => hn (congrArg List.length h))]
    clear h1 h2
    go_enter Try.func22, Try.ntmps22
    go_wp2_with fail
    go_ret
    exact ⟨rfl, Ext.refl _⟩
end Go.Proofs.Ytmjoaiepfipmaaa
