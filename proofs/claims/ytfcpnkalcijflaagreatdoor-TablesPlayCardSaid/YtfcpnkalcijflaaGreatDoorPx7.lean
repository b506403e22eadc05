/- Rows of entries, SameEntries, and what putL, getS, restL come to: for a seat without the outright laws of bucketlinelaw07. No condition. -/
import Derived.Test.YtfcpnkalcijflaaGreatDoorTab9
import Derived.Test.YtfcpnkalcijflaaGreatDoorEn
import Derived.Deep.CutRange
namespace Go.Proofs.YtfcpnkalcijflaaGreatDoor
open Go.RowKit
theorem ens_range {w : World} {l : List En} {b off : Nat} (hd : ∀ i, i < l.length * 4 → w.cell? ⟨b, off + i, none⟩ = (l.flatMap enL)[i]?) {k : Nat} {x : En} (h : l[k]? = some x) : w.rangeAt b (off + k * 4) (enRow x).toList := fun r v hv => by
  have hr : r < 4 := (List.getElem?_eq_some_iff.1 hv).1
  have hk : k < l.length := (List.getElem?_eq_some_iff.1 h).1
  rw [Nat.add_assoc, hd (k * 4 + r) (by omega), flatMap_at enL 4 (by decide) (fun _ => rfl) l k x h r hr _ rfl]; exact hv
def sameEB (a b : En) : Bool := sameB a.mark b.mark && a.val.toList == b.val.toList
theorem sameE_iff {a b : En} : sameEB a b = true ↔ a = b := by
  unfold sameEB
  rw [Bool.and_eq_true, same_iff, beq_iff_eq]
  constructor
  · rintro ⟨h1, h2⟩
    obtain ⟨m, v⟩ := a; obtain ⟨m', v'⟩ := b
    simp only at h1 h2
    rw [h1, ba_ext h2]
  · rintro rfl; exact ⟨rfl, rfl⟩
instance : DecidableEq En := fun _ _ => decidable_of_iff _ sameE_iff
theorem wpQuiet_neq_en {ops : Array Oper} {C : World → Prop} {Q : Act → Prop} {o : Oper} {rest : List Oper} {a : Act} (hg : Region.wanted o (yielded ops a.tmps) = true) (x y : Operand) (ho : o.op = .binOp .neq 49 x y 49) (m n : En) (hx : a.eval x = .agg (enRow m)) (hy : a.eval y = .agg (enRow n))
    (k : wpQuiet Tryz.prog ops C Q rest (a.put o.dst (.bool (!sameEB m n)))) : wpQuiet Tryz.prog ops C Q (o :: rest) a := by
  refine wpQuiet_value _ hg (fun w _ => ?_) k
  unfold execOp
  simp only [ho, hx, hy, enRow]
  have hs : ((m.mark.seq : Int) = (n.mark.seq : Int)) ↔ m.mark.seq = n.mark.seq := by omega
  go_simp
  unfold sameEB sameB
  by_cases h1 : m.mark.key.toList = n.mark.key.toList <;> by_cases h2 : m.mark.seq = n.mark.seq <;> by_cases h3 : m.mark.gone = n.mark.gone <;> by_cases h4 : m.val.toList = n.val.toList <;> simp [h1, h2, h3, h4]
set_option maxRecDepth 100000 in
set_option maxHeartbeats 1000000 in
theorem same_any (w : World) (l l' : List En) (a a' : Option Addr) (cap cap' : Nat) (h1 : RowIs w 4 (.slice a l.length cap) l.length (l.flatMap enL)) (h2 : RowIs w 4 (.slice a' l'.length cap') l'.length (l'.flatMap enL)) :
    Calls Tryz.prog 11 #[.slice a l.length cap, .slice a' l'.length cap'] w fun e w' => e = .returned (.bool (decide (l = l'))) ∧ Ext w w' := by
  by_cases hn : l.length = l'.length
  · have hn' : (l.length : Int) = (l'.length : Int) := by omega
    have hnn := h1.2.1
    obtain ⟨n, hl1⟩ : ∃ n, n = l.length := ⟨_, rfl⟩
    have hl2 : n = l'.length := by omega
    rw [← hl1] at h1 hnn
    rw [← hl2] at h2
    rw [← hl1, ← hl2]
    have hq1 := Lib.hid hl1
    have hq2 := Lib.hid hl2
    clear hn hn' hl1 hl2
    obtain ⟨r, hr⟩ : ∃ r, r = decide (l = l') := ⟨_, rfl⟩
    have hr' := Lib.hid hr
    rw [← hr]
    clear hr
    go_enter Tryz.func11, Tryz.ntmps11
    go_wp2_with fail
    go_loopw [5] (fun i wr => ∃ k : Nat, k ≤ n ∧ i = .int .i64 k ∧ l.take k = l'.take k ∧ Ext w wr) (fun i _ => n - (intOf i).toNat)
    case atStart => exact ⟨0, by omega, rfl, rfl, Ext.refl _⟩
    case round =>
      obtain ⟨k, hk, rfl, heq, hE⟩ := hrel
      by_cases hlt : k < n
      · have hli : (k : Int) < (n : Int) := by omega
        obtain ⟨c, hc⟩ : ∃ c, l[k]? = some c := ⟨_, List.getElem?_eq_getElem (by rw [← hq1.out]; exact hlt)⟩
        obtain ⟨c', hc'⟩ : ∃ c, l'[k]? = some c := ⟨_, List.getElem?_eq_getElem (by rw [← hq2.out]; exact hlt)⟩
        obtain ⟨b, off, hat⟩ := (h1.ext hE).at
        obtain ⟨b', off', hat'⟩ := (h2.ext hE).at
        obtain ⟨rfl, _, hd⟩ := hat (by omega)
        obtain ⟨rfl, _, hd'⟩ := hat' (by omega)
        have p := ens_range (by rw [← hq1.out]; exact hd) hc
        have q := ens_range (by rw [← hq2.out]; exact hd') hc'
        clear hd hd' hat hat'
        have htk : l.take (k + 1) = l.take k ++ [c] := by rw [List.take_add_one, hc]; rfl
        have htk' : l'.take (k + 1) = l'.take k ++ [c'] := by rw [List.take_add_one, hc']; rfl
        have heq' := Lib.hid heq
        have htk2 := Lib.hid htk
        have htk3 := Lib.hid htk'
        have hcc := Lib.hid hc
        have hcc' := Lib.hid hc'
        clear heq htk htk' hc hc'
        go_upto_region 6 with fail
        refine wp_region_class (Ext wr) (by kernel_rfl) (by kernel_rfl) (Ext.refl _).drew ?_
        iterate 3 (refine wpQuiet_step (fun K hK => ?_); go_simp; first | (refine hK _ ?_; clear hK K) | (refine ⟨_, fun _ _ => rfl, hK _ ?_⟩; clear hK K))
        refine wpQuiet_load_mid (by rfl) 49 _ (by rfl) b (off + k * 4) (by rfl) _ _ (fun w' h r u hu => h.cell (p r u hu)) Tryz.underlying49 rfl (by exact info_entry) ?_
        iterate 3 (refine wpQuiet_step (fun K hK => ?_); go_simp; first | (refine hK _ ?_; clear hK K) | (refine ⟨_, fun _ _ => rfl, hK _ ?_⟩; clear hK K))
        refine wpQuiet_load_mid (by rfl) 49 _ (by rfl) b' (off' + k * 4) (by rfl) _ _ (fun w' h r u hu => h.cell (q r u hu)) Tryz.underlying49 rfl (by exact info_entry) ?_
        refine wpQuiet_neq_en (by rfl) (.tmp 20) (.tmp 24) (by rfl) c c' (by rfl) (by rfl) ?_
        refine wpQuiet_nil (fun w5 hE5 => ?_)
        simp only [Act.put, List.setIfInBounds_toArray, List.set_cons_zero, List.set_cons_succ]
        cases hse : sameEB c c'
        all_goals simp only [Bool.not_true, Bool.not_false]
        · have hne : r = false := by
            rw [hr'.out]
            refine decide_eq_false fun h => ?_
            subst h
            have := hcc.out.symm.trans hcc'.out
            injection this with this
            rw [sameE_iff.2 this] at hse
            exact Bool.noConfusion hse
          have hne' := Lib.hid hne
          clear hne
          go_wp2_with fail
          go_ret
          exact ⟨by rw [hne'.out]; rfl, hE.trans hE5⟩
        · have hcc2 := Lib.hid (sameE_iff.1 hse)
          go_wp2_with fail
          go_roundw
          case rel => first | exact ⟨k + 1, by omega, by go_num, by rw [htk2.out, htk3.out, heq'.out, hcc2.out], hE.trans hE5⟩ | exact ⟨_, _, _, _, _, _, _, _, _, _, _, _, _, ⟨k + 1, by omega, by go_num, by rw [htk2.out, htk3.out, heq'.out, hcc2.out], hE.trans hE5⟩, rfl⟩ | trace_state
          case measure => simp [intOf]; omega
      · have hli : ¬ (k : Int) < (n : Int) := by omega
        have hne : r = true := by
          rw [hr'.out]
          refine decide_eq_true ?_
          rw [List.take_of_length_le (by rw [← hq1.out]; omega), List.take_of_length_le (by rw [← hq2.out]; omega)] at heq
          exact heq
        have hne' := Lib.hid hne
        clear hne heq
        go_wp2_with fail
        go_ret
        exact ⟨by rw [hne'.out]; rfl, hE⟩
  · have hn' : ¬ (l.length : Int) = (l'.length : Int) := by omega
    rw [decide_eq_false (fun h => hn (congrArg List.length h))]
    clear h1 h2
    go_enter Tryz.func11, Tryz.ntmps11
    go_wp2_with fail
    go_ret
    exact ⟨rfl, Ext.refl _⟩
theorem there_iff {l : List En} {m : Mk} : thereB l m = true ↔ ∃ e ∈ l, e.mark = m := by
  unfold thereB
  rw [List.any_eq_true]
  constructor
  · rintro ⟨e, h1, h2⟩; exact ⟨e, h1, same_iff.1 h2⟩
  · rintro ⟨e, h1, h2⟩; exact ⟨e, h1, same_iff.2 h2⟩
theorem putL_length (l : List En) (x : En) (t : Int) : (putL l x t).length ≤ l.length + 1 := by
  unfold putL
  split
  · split
    · omega
    · split
      · omega
      · rw [ins_length]; omega
  · omega
theorem putL_rises {l : List En} (hr : Rises l) (x : En) (t : Int) : Rises (putL l x t) := by
  unfold putL
  split
  · split
    · exact hr
    · rename_i hth
      split
      · exact hr
      · exact ins_rises hr (fun e he h => hth (there_iff.2 ⟨e, he, h⟩))
  · exact hr
theorem putL_mem {l : List En} {x e : En} {t : Int} (h : e ∈ putL l x t) : e ∈ l ∨ (e = x ∧ okB x t = true) := by
  unfold putL at h
  split at h
  · rename_i hok
    split at h
    · exact .inl h
    · split at h
      · exact .inl h
      · rcases ins_mem.1 h with h | h
        · exact .inr ⟨h, hok⟩
        · exact .inl h
  · exact .inl h
def zMk : Mk := ⟨⟨#[]⟩, 0, false⟩
theorem fine_key {e : En} (h : fineB e = true) : 1 ≤ e.mark.key.size ∧ e.mark.key.size ≤ 32 := by
  unfold fineB okeyB at h
  simp only [Bool.and_eq_true, decide_eq_true_eq] at h
  exact h.1
theorem fine_zero {e : En} (h : fineB e = true) : e.mark.ltB zMk = false := by
  have hk := fine_key h
  cases h2 : e.mark.ltB zMk with
  | false => rfl
  | true =>
    rcases Mk.lt_iff.1 h2 with h3 | ⟨h3, _⟩
    · rw [show zMk.key.toList = [] from by kernel_rfl] at h3
      cases hh : e.mark.key.toList <;> rw [hh] at h3 <;> simp [Op.bytesLess] at h3
    · rw [show zMk.key.toList = [] from by kernel_rfl] at h3
      have := (empty_iff e.mark.key).1 (by rw [h3]; rfl)
      omega
theorem rest_zero {L : List En} (h : ∀ e ∈ L, fineB e = true) : restL L zMk = L := by
  cases L with
  | nil => rfl
  | cons x r =>
    unfold restL
    rw [List.dropWhile_cons, fine_zero (h x (List.mem_cons_self ..))]; rfl
/-- Has an entry this key, and no greater number? -/
def isP (key : ByteArray) (seq : Nat) (e : En) : Bool := e.mark.key.toList == key.toList && decide (e.mark.seq ≤ seq)
theorem isP_iff {key : ByteArray} {seq : Nat} {e : En} : isP key seq e = true ↔ e.mark.key.toList = key.toList ∧ e.mark.seq ≤ seq := by
  unfold isP; rw [Bool.and_eq_true, beq_iff_eq, decide_eq_true_eq]
theorem ahead_notP {key : ByteArray} {seq : Nat} {e : En} (h : e.mark.ltB ⟨key, seq, true⟩ = true) : isP key seq e = false := by
  cases hp : isP key seq e with
  | false => rfl
  | true =>
    obtain ⟨h1, h2⟩ := isP_iff.1 hp
    rcases Mk.lt_iff.1 h with h3 | ⟨_, h3 | ⟨_, h3⟩⟩
    · simp only at h3; rw [h1, bl_irrefl] at h3; cases h3
    · simp only at h3; omega
    · cases hg : e.mark.gone <;> rw [hg] at h3 <;> simp [goneN] at h3
theorem rest_seq {key : ByteArray} {seq : Nat} {e : En} (h : e.mark.ltB ⟨key, seq, true⟩ = false) (hk : e.mark.key.toList = key.toList) : e.mark.seq ≤ seq := by
  cases Nat.lt_or_ge seq e.mark.seq with
  | inl h2 =>
    have : e.mark.ltB ⟨key, seq, true⟩ = true := Mk.lt_iff.2 (.inr ⟨hk, .inl h2⟩)
    rw [h] at this; cases this
  | inr h2 => exact h2
theorem getS_find {L : List En} (hr : Rises L) (key : ByteArray) (seq : Nat) : getS L key seq = L.find? (isP key seq) := by
  have hL := ahead_rest L ⟨key, seq, true⟩
  have h1 : L.find? (isP key seq) = (restL L ⟨key, seq, true⟩).find? (isP key seq) := by
    conv => lhs; rw [← hL]
    rw [List.find?_append, List.find?_eq_none.2 (fun x hx => by simp [ahead_notP (ahead_lt hx)])]
    simp
  rw [h1]
  unfold getS
  cases hh : restL L ⟨key, seq, true⟩ with
  | nil => rfl
  | cons x r =>
    simp only
    have hx := rest_ge hr (m := ⟨key, seq, true⟩) (e := x) (by rw [hh]; exact List.mem_cons_self ..)
    by_cases hk : x.mark.key.toList = key.toList
    · rw [if_pos (by simpa using hk), List.find?_cons, isP_iff.2 ⟨hk, rest_seq hx hk⟩]
    · rw [if_neg (by simpa using hk)]
      refine (List.find?_eq_none.2 fun y hy => ?_).symm
      intro hp
      obtain ⟨hy1, hy2⟩ := isP_iff.1 hp
      have hR : Rises (x :: r) := by have := (rises_parts hr ⟨key, seq, true⟩).2; rw [hh] at this; exact this
      rcases List.mem_cons.1 hy with rfl | hy
      · exact hk hy1
      · have h3 := (List.pairwise_cons.1 hR).1 y hy
        rcases Mk.lt_iff.1 h3 with h4 | ⟨h4, _⟩
        · rw [hy1] at h4
          have : x.mark.ltB ⟨key, seq, true⟩ = true := Mk.lt_iff.2 (.inl h4)
          rw [hx] at this; cases this
        · exact hk (h4.trans hy1)
theorem exec_eql_en (o : Oper) (a : Act) (x y : Operand) (ho : o.op = .binOp .eql 49 x y 49) (m n : En) (hx : a.eval x = .agg (enRow m)) (hy : a.eval y = .agg (enRow n)) (w : World) : (execOp a.eval o).run Tryz.prog w = .ok (.value (.bool (sameEB m n))) w := by
  unfold execOp
  simp only [ho, hx, hy, enRow]
  have hs : ((m.mark.seq : Int) = (n.mark.seq : Int)) ↔ m.mark.seq = n.mark.seq := by omega
  go_simp
  unfold sameEB sameB
  by_cases h1 : m.mark.key.toList = n.mark.key.toList <;> by_cases h2 : m.mark.seq = n.mark.seq <;> by_cases h3 : m.mark.gone = n.mark.gone <;> by_cases h4 : m.val.toList = n.val.toList <;> simp [h1, h2, h3, h4]
/-- The place. -/
theorem ahead_at {O : List En} {m : Mk} {j : Nat} (hj : j < (aheadL O m).length) : ∃ y, O[j]? = some y ∧ y.mark.ltB m = true := by
  obtain ⟨y, hy⟩ : ∃ y, (aheadL O m)[j]? = some y := ⟨_, List.getElem?_eq_getElem hj⟩
  refine ⟨y, ?_, ahead_lt (List.mem_of_getElem? hy)⟩
  have h : (aheadL O m ++ restL O m)[j]? = some y := by rw [List.getElem?_append_left hj]; exact hy
  rwa [ahead_rest] at h
theorem ahead_end {O : List En} (hs : Rises O) {m : Mk} {y : En} (hy : O[(aheadL O m).length]? = some y) : y.mark.ltB m = false ∧ y ∈ O ∧ restL O m = y :: (restL O m).tail := by
  have h := ahead_rest O m
  have h1 : (aheadL O m ++ restL O m)[(aheadL O m).length]? = some y := by rw [h]; exact hy
  rw [List.getElem?_append_right (Nat.le_refl _), Nat.sub_self] at h1
  cases hr : restL O m with
  | nil => rw [hr] at h1; cases h1
  | cons z t =>
    rw [hr] at h1
    injection h1 with h1
    subst h1
    exact ⟨rest_ge hs (by rw [hr]; exact List.mem_cons_self ..), List.mem_of_getElem? hy, rfl⟩
theorem ahead_le (O : List En) (m : Mk) : (aheadL O m).length ≤ O.length := (List.takeWhile_sublist _).length_le
theorem ahead_take (O : List En) (m : Mk) : O.take (aheadL O m).length = aheadL O m := by
  conv => lhs; rw [← ahead_rest O m]
  rw [List.take_left']
  rw [ahead_rest]
theorem ahead_drop (O : List En) (m : Mk) : O.drop (aheadL O m).length = restL O m := by
  conv => lhs; rw [← ahead_rest O m]
  rw [List.drop_left']
  rw [ahead_rest]
/-- None has the mark, if none stands at the place that has it. -/
theorem none_has {O : List En} (hs : Rises O) {m : Mk} (h : ∀ y, O[(aheadL O m).length]? = some y → y.mark ≠ m) : ∀ e ∈ O, e.mark ≠ m := fun e he hm => by
  obtain ⟨r, hr⟩ := rest_first hs he hm
  refine h e ?_ hm
  conv => lhs; rw [← ahead_rest O m]
  rw [List.getElem?_append_right (by rw [ahead_rest]; exact Nat.le_refl _), ahead_rest, Nat.sub_self, hr]
  rfl
def szL : List En → Nat
  | [] => 0
  | e :: r => e.mark.key.size + e.val.size + szL r
theorem sz_map : ∀ ns : List Nd, sizeL ns = szL (ns.map Nd.e)
  | [] => rfl
  | n :: r => by simp only [sizeL, List.map_cons, szL, sz_map r]
end Go.Proofs.YtfcpnkalcijflaaGreatDoor
