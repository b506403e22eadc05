/- Helpers of the laws of bucketlinelaw07: rows of entries, SameEntries, EntriesSize, many. No condition. -/
import Derived.Test.YthhmehkclgmppaaLaw7
import Derived.Test.YthhmehkclgmppaaTab7
namespace Go.Proofs.Ythhmehkclgmppaa
open Go.RowKit
theorem ens_range {w : World} {l : List En} {b off : Nat} (hd : ∀ i, i < l.length * 4 → w.cell? ⟨b, off + i, none⟩ = (l.flatMap enL)[i]?) {k : Nat} {x : En} (h : l[k]? = some x) : w.rangeAt b (off + k * 4) (enRow x).toList := fun r v hv => by
  have hr : r < 4 := (List.getElem?_eq_some_iff.1 hv).1
  have hk : k < l.length := (List.getElem?_eq_some_iff.1 h).1
  rw [Nat.add_assoc, hd (k * 4 + r) (by omega), flatMap_at enL 4 (by decide) (fun _ => rfl) l k x h r hr _ rfl]; exact hv
def sameEB (a b : En) : Bool := sameB a.mark b.mark && a.val.toList == b.val.toList
theorem sameE_iff {a b : En} : sameEB a b = true ↔ a = b := by
  unfold sameEB
  rw [Bool.and_eq_true, same_iff, beq_iff_eq]
  constructor
  · rintro ⟨h1, h2⟩
    obtain ⟨m, v⟩ := a; obtain ⟨m', v'⟩ := b
    simp only at h1 h2
    rw [h1, ba_ext h2]
  · rintro rfl; exact ⟨rfl, rfl⟩
instance : DecidableEq En := fun _ _ => decidable_of_iff _ sameE_iff
theorem wpQuiet_neq_en {ops : Array Oper} {C : World → Prop} {Q : Act → Prop} {o : Oper} {rest : List Oper} {a : Act} (hg : Region.wanted o (yielded ops a.tmps) = true) (x y : Operand) (ho : o.op = .binOp .neq 26 x y 26) (m n : En) (hx : a.eval x = .agg (enRow m)) (hy : a.eval y = .agg (enRow n))
    (k : wpQuiet Try.prog ops C Q rest (a.put o.dst (.bool (!sameEB m n)))) : wpQuiet Try.prog ops C Q (o :: rest) a := by
  refine wpQuiet_value _ hg (fun w _ => ?_) k
  unfold execOp
  simp only [ho, hx, hy, enRow]
  have hs : ((m.mark.seq : Int) = (n.mark.seq : Int)) ↔ m.mark.seq = n.mark.seq := by omega
  go_simp
  unfold sameEB sameB
  by_cases h1 : m.mark.key.toList = n.mark.key.toList <;> by_cases h2 : m.mark.seq = n.mark.seq <;> by_cases h3 : m.mark.gone = n.mark.gone <;> by_cases h4 : m.val.toList = n.val.toList <;> simp [h1, h2, h3, h4]
set_option maxRecDepth 100000 in
set_option maxHeartbeats 1000000 in
theorem same_any (w : World) (l l' : List En) (a a' : Option Addr) (cap cap' : Nat) (h1 : RowIs w 4 (.slice a l.length cap) l.length (l.flatMap enL)) (h2 : RowIs w 4 (.slice a' l'.length cap') l'.length (l'.flatMap enL)) :
    Calls Try.prog 20 #[.slice a l.length cap, .slice a' l'.length cap'] w fun e w' => e = .returned (.bool (decide (l = l'))) ∧ Ext w w' := by
  by_cases hn : l.length = l'.length
  · have hn' : (l.length : Int) = (l'.length : Int) := by omega
    have hnn := h1.2.1
    obtain ⟨n, hl1⟩ : ∃ n, n = l.length := ⟨_, rfl⟩
    have hl2 : n = l'.length := by omega
    rw [← hl1] at h1 hnn
    rw [← hl2] at h2
    rw [← hl1, ← hl2]
    have hq1 := Lib.hid hl1
    have hq2 := Lib.hid hl2
    clear hn hn' hl1 hl2
    obtain ⟨r, hr⟩ : ∃ r, r = decide (l = l') := ⟨_, rfl⟩
    have hr' := Lib.hid hr
    rw [← hr]
    clear hr
    go_enter Try.func20, Try.ntmps20
    go_wp2_with fail
    go_loopw [5] (fun i wr => ∃ k : Nat, k ≤ n ∧ i = .int .i64 k ∧ l.take k = l'.take k ∧ Ext w wr) (fun i _ => n - (intOf i).toNat)
    case atStart => exact ⟨0, by omega, rfl, rfl, Ext.refl _⟩
    case round =>
      obtain ⟨k, hk, rfl, heq, hE⟩ := hrel
      by_cases hlt : k < n
      · have hli : (k : Int) < (n : Int) := by omega
        obtain ⟨c, hc⟩ : ∃ c, l[k]? = some c := ⟨_, List.getElem?_eq_getElem (by rw [← hq1.out]; exact hlt)⟩
        obtain ⟨c', hc'⟩ : ∃ c, l'[k]? = some c := ⟨_, List.getElem?_eq_getElem (by rw [← hq2.out]; exact hlt)⟩
        obtain ⟨b, off, hat⟩ := (h1.ext hE).at
        obtain ⟨b', off', hat'⟩ := (h2.ext hE).at
        obtain ⟨rfl, _, hd⟩ := hat (by omega)
        obtain ⟨rfl, _, hd'⟩ := hat' (by omega)
        have p := ens_range (by rw [← hq1.out]; exact hd) hc
        have q := ens_range (by rw [← hq2.out]; exact hd') hc'
        clear hd hd' hat hat'
        have htk : l.take (k + 1) = l.take k ++ [c] := by rw [List.take_add_one, hc]; rfl
        have htk' : l'.take (k + 1) = l'.take k ++ [c'] := by rw [List.take_add_one, hc']; rfl
        have heq' := Lib.hid heq
        have htk2 := Lib.hid htk
        have htk3 := Lib.hid htk'
        have hcc := Lib.hid hc
        have hcc' := Lib.hid hc'
        clear heq htk htk' hc hc'
        go_upto_region 6 with fail
        refine wp_region_class (Ext wr) (by kernel_rfl) (by kernel_rfl) (Ext.refl _).drew ?_
        iterate 3 (refine wpQuiet_step (fun K hK => ?_); go_simp; first | (refine hK _ ?_; clear hK K) | (refine ⟨_, fun _ _ => rfl, hK _ ?_⟩; clear hK K))
        refine wpQuiet_load_mid (by rfl) 26 _ (by rfl) b (off + k * 4) (by rfl) _ _ (fun w' h r u hu => h.cell (p r u hu)) Try.underlying26 rfl (by exact info_entry) ?_
        iterate 3 (refine wpQuiet_step (fun K hK => ?_); go_simp; first | (refine hK _ ?_; clear hK K) | (refine ⟨_, fun _ _ => rfl, hK _ ?_⟩; clear hK K))
        refine wpQuiet_load_mid (by rfl) 26 _ (by rfl) b' (off' + k * 4) (by rfl) _ _ (fun w' h r u hu => h.cell (q r u hu)) Try.underlying26 rfl (by exact info_entry) ?_
        refine wpQuiet_neq_en (by rfl) (.tmp 20) (.tmp 24) (by rfl) c c' (by rfl) (by rfl) ?_
        refine wpQuiet_nil (fun w5 hE5 => ?_)
        simp only [Act.put, List.setIfInBounds_toArray, List.set_cons_zero, List.set_cons_succ]
        cases hse : sameEB c c'
        all_goals simp only [Bool.not_true, Bool.not_false]
        · have hne : r = false := by
            rw [hr'.out]
            refine decide_eq_false fun h => ?_
            subst h
            have := hcc.out.symm.trans hcc'.out
            injection this with this
            rw [sameE_iff.2 this] at hse
            exact Bool.noConfusion hse
          have hne' := Lib.hid hne
          clear hne
          go_wp2_with fail
          go_ret
          exact ⟨by rw [hne'.out]; rfl, hE.trans hE5⟩
        · have hcc2 := Lib.hid (sameE_iff.1 hse)
          go_wp2_with fail
          go_roundw
          case rel => first | exact ⟨k + 1, by omega, by go_num, by rw [htk2.out, htk3.out, heq'.out, hcc2.out], hE.trans hE5⟩ | exact ⟨_, _, _, _, _, _, _, _, _, _, _, _, _, ⟨k + 1, by omega, by go_num, by rw [htk2.out, htk3.out, heq'.out, hcc2.out], hE.trans hE5⟩, rfl⟩ | trace_state
          case measure => simp [intOf]; omega
      · have hli : ¬ (k : Int) < (n : Int) := by omega
        have hne : r = true := by
          rw [hr'.out]
          refine decide_eq_true ?_
          rw [List.take_of_length_le (by rw [← hq1.out]; omega), List.take_of_length_le (by rw [← hq2.out]; omega)] at heq
          exact heq
        have hne' := Lib.hid hne
        clear hne heq
        go_wp2_with fail
        go_ret
        exact ⟨by rw [hne'.out]; rfl, hE⟩
  · have hn' : ¬ (l.length : Int) = (l'.length : Int) := by omega
    rw [decide_eq_false (fun h => hn (congrArg List.length h))]
    clear h1 h2
    go_enter Try.func20, Try.ntmps20
    go_wp2_with fail
    go_ret
    exact ⟨rfl, Ext.refl _⟩
end Go.Proofs.Ythhmehkclgmppaa
