/- Several texts in one: Rn1 LM7 OwnK. No condition. -/
import Derived.Test.YthageoibkeebhaaGreatDoorGrN
import Derived.Test.YthageoibkeebhaaGreatDoorGrL
import Derived.Deep.CutRange
import Derived.Test.YthageoibkeebhaaGreatDoorGrD
/- The document's state: New, key, value, get, twin, Rows. No condition. -/
namespace Go.Proofs.YthageoibkeebhaaGreatDoor
open Go.RowKit
set_option maxRecDepth 100000
set_option maxHeartbeats 2000000
theorem keyR_any (w : World) (s : ByteArray) (hs : s.size ≤ 140737488351232) : Calls Tryz.prog 45 #[.string s] w fun e w' => e = .returned (.bool (keyB s)) ∧ w = w' := by
  by_cases h1 : 1 ≤ s.size
  · by_cases h2 : s.size ≤ 24
    · have hr : keyB s = true := by unfold keyB; exact decide_eq_true ⟨h1, h2⟩
      have h1i : (1 : Int) ≤ (s.size : Int) := by omega
      have h2i : (s.size : Int) ≤ 24 := by omega
      rw [hr]
      clear hr
      go_enter Tryz.func45, Tryz.ntmps45
      go_wp2_with fail
      go_ret
      exact ⟨rfl, rfl⟩
    · have hr : keyB s = false := by unfold keyB; exact decide_eq_false (fun h => h2 h.2)
      have h1i : (1 : Int) ≤ (s.size : Int) := by omega
      have h2i : ¬ (s.size : Int) ≤ 24 := by omega
      rw [hr]
      clear hr
      go_enter Tryz.func45, Tryz.ntmps45
      go_wp2_with fail
      go_ret
      exact ⟨rfl, rfl⟩
  · have hr : keyB s = false := by unfold keyB; exact decide_eq_false (fun h => h1 h.1)
    have h1i : ¬ (1 : Int) ≤ (s.size : Int) := by omega
    rw [hr]
    clear hr
    go_enter Tryz.func45, Tryz.ntmps45
    go_wp2_with fail
    go_ret
    exact ⟨rfl, rfl⟩
theorem valR_any (w : World) (s : ByteArray) (hs : s.size ≤ 140737488351232) : Calls Tryz.prog 46 #[.string s] w fun e w' => e = .returned (.bool (valB s)) ∧ w = w' := by
  have hr : valB s = decide ((s.size : Int) ≤ 256) := by unfold valB; rw [Bool.eq_iff_iff, decide_eq_true_eq, decide_eq_true_eq]; omega
  rw [hr]
  clear hr
  go_enter Tryz.func46, Tryz.ntmps46
  go_wp2_with fail
  go_ret
  exact ⟨rfl, rfl⟩
def zRw : Rw := ⟨⟨#[]⟩, ⟨#[]⟩⟩
def GotR (o : Option Rw) (w : World) (e : Ending) (w' : World) : Prop := e = .returned (.tuple #[.agg (rowR (o.getD zRw)), .bool o.isSome]) ∧ Ext w w'
theorem findW_eq (l : List Rw) (k : ByteArray) : findW l k = l.find? (keyEq k) := by
  unfold findW
  congr 1
  funext r
  exact isK_eq
section
variable {base st : Nat} {w : World} {rows : List Rw} {sd : List Sa}
theorem newR_any (w : World) : Calls Tryz.prog 24 #[] w fun e w' => e = .returned (.pointer (some ⟨w.heap.size, 0, none⟩)) ∧ RefM w.heap.size w' w.heap.size [] [] ∧ Ext w w' := by
  go_enter Tryz.func24, Tryz.ntmps24
  go_wp2_with fail
  go_ret
  refine ⟨rfl, ⟨none, 0, none, 0, heap_alloc_new w _, Nat.le_refl _, OwnC.nil _ _ _ _, OwnC.nil _ _ _ _, fun p hp => nomatch hp⟩, (Ext.refl _).alloc _⟩
theorem getR_any (h : RefM base w st rows sd) (key : ByteArray) : Calls Tryz.prog 44 #[.pointer (some ⟨st, 0, none⟩), .string key] w (GotR (findW rows key) w) := by
  obtain ⟨ra, rc, sa, sc, hc, hR, _, h1, _⟩ := h.sees
  rw [findW_eq]
  obtain ⟨W, hW⟩ : ∃ W, W = w.alloc (.cells #[.string ⟨#[]⟩, .string ⟨#[]⟩] 84) := ⟨_, rfl⟩
  have hE0 : Ext w W := by rw [hW]; exact (Ext.refl _).alloc _
  have hZr : Hid (∀ w', Ext W w' → w'.heap[w.heap.size]? = some (.cells (rowR zRw) 84 (0, 0))) := Lib.hid (fun w' hE => hE.row (by rw [hW]; exact heap_alloc_new w _))
  obtain ⟨n, hn⟩ : ∃ n, n = rows.length := ⟨_, rfl⟩
  rw [← hn] at hc hR h1
  obtain ⟨o, ho⟩ : ∃ o, o = rows.find? (keyEq key) := ⟨_, rfl⟩
  rw [← ho]
  have hc' : Hid (∀ W, Ext w W → W.cell? ⟨st, 0, none⟩ = some (.slice ra n rc)) := Lib.hid (fun W hE => (hc W hE).1)
  have hR' := Lib.hid hR
  have hn' := Lib.hid hn
  have ho' := Lib.hid ho
  have hW' := Lib.hid hW
  have hnb : n ≤ 9223372036854775807 := by omega
  clear hc hR h hn ho hW
  go_enter Tryz.func44, Tryz.ntmps44
  go_wp2_with fail
  rw [← hW'.out]
  go_loopw [6] (fun i wr => ∃ k : Nat, k ≤ n ∧ i = .int .i64 k ∧ Hid (∀ x ∈ rows.take k, keyEq key x = false) ∧ Ext W wr) (fun i _ => n - (intOf i).toNat)
  case atStart => exact ⟨0, by omega, rfl, Lib.hid (fun _ h => nomatch h), Ext.refl _⟩
  case round =>
    obtain ⟨k, hk, rfl, hno, hE⟩ := hrel
    have c := hc'.out wr (hE0.trans hE)
    by_cases hlt : k < n
    · have hli : (k : Int) < (n : Int) := by omega
      obtain ⟨x, hx⟩ : ∃ x, rows[k]? = some x := ⟨_, List.getElem?_eq_getElem (by rw [← hn'.out]; exact hlt)⟩
      obtain ⟨b, off, hat⟩ := (hR'.out wr (hE0.trans hE)).at
      obtain ⟨rfl, _, hd⟩ := hat (by omega)
      have p := rws_range (by rw [← hn'.out]; exact hd) hx
      have p0 := p 0 _ rfl
      rw [Nat.add_zero] at p0
      have hnx : Hid (keyEq key x = false → ∀ y ∈ rows.take (k + 1), keyEq key y = false) := Lib.hid (fun hP y hy => by
        rw [List.take_add_one, hx] at hy
        rcases List.mem_append.1 hy with hy | hy
        · exact hno.out y hy
        · rw [List.mem_singleton.1 hy]; exact hP)
      have hyes : Hid (keyEq key x = true → o = some x) := Lib.hid (fun hP => by
        rw [ho'.out]
        have h3 := List.take_append_drop k rows
        obtain ⟨hk1, hk2⟩ := List.getElem?_eq_some_iff.1 hx
        rw [List.drop_eq_getElem_cons hk1, hk2] at h3
        rw [← h3, List.find?_append, List.find?_eq_none.2 (fun y hy => by rw [hno.out y hy]; simp), List.find?_cons_of_pos hP]
        rfl)
      clear hd hat hx
      cases hkk : x.key.toList == key.toList
      · have hn2 := Lib.hid (hnx.out hkk)
        clear p
        go_wp2_with fail
        go_roundw
        case rel => exact ⟨k + 1, by omega, by go_num, hn2, hE⟩
        case measure => simp [intOf]; omega
      · have hfin := Lib.hid (hyes.out hkk)
        have hR1 := hZr.out wr hE
        go_wp2_with (first | (refine wpList_load_mid (by rfl) 84 (.tmp 31) (by rfl) b (off + k * 2) (by rfl) (rowR x).toList _ p Tryz.underlying84 rfl (by exact info_row) ?_) | (refine wpList_store_row (by rfl) 84 (.tmp 4) (.tmp 32) (by rfl) w.heap.size (rowR x) (by rfl) (by rfl) 84 (rowR zRw) hR1 (by exact info_row) (by rfl) (by exact rowR_one x) ?_) | fail)
        have hset : (wr.setRow w.heap.size (rowR x)).heap[w.heap.size]? = some (.cells (rowR x) 84 (0, 0)) := by rw [setRow_heap _ _ _ _ _ _ hR1]
        have hEf : Ext w (wr.setRow w.heap.size (rowR x)) := (hE0.trans hE).setRow (Nat.le_refl _) _
        generalize wr.setRow w.heap.size (rowR x) = Wf at *
        obtain ⟨b0, b1⟩ := row_cells hset
        exact bodyPost_ret (v := .tuple #[.agg (rowR x), .bool true]) (by simp [results, Tryz.results44, go_sem, b0, b1, rowR]) rfl (by rw [hfin.out]; exact ⟨rfl, hEf⟩)
    · have hli : ¬ (k : Int) < (n : Int) := by omega
      have hfin : Hid (o = none) := Lib.hid (by
        rw [ho'.out]
        refine List.find?_eq_none.2 (fun y hy => ?_)
        rw [hno.out y (by rw [List.take_of_length_le (by rw [← hn'.out]; omega)]; exact hy)]
        simp)
      have hR1 := hZr.out wr hE
      go_wp2_with (first | (refine wpList_store_row (by rfl) 84 (.tmp 4) (.tmp 33) (by rfl) w.heap.size (rowR zRw) (by rfl) (by rfl) 84 (rowR zRw) hR1 (by exact info_row) (by rfl) (by exact rowR_one zRw) ?_) | fail)
      have hset : (wr.setRow w.heap.size (rowR zRw)).heap[w.heap.size]? = some (.cells (rowR zRw) 84 (0, 0)) := by rw [setRow_heap _ _ _ _ _ _ hR1]
      have hEf : Ext w (wr.setRow w.heap.size (rowR zRw)) := (hE0.trans hE).setRow (Nat.le_refl _) _
      generalize wr.setRow w.heap.size (rowR zRw) = Wf at *
      obtain ⟨b0, b1⟩ := row_cells hset
      exact bodyPost_ret (v := .tuple #[.agg (rowR zRw), .bool false]) (by simp [results, Tryz.results44, go_sem, b0, b1, rowR]) rfl (by rw [hfin.out]; exact ⟨rfl, hEf⟩)
/-- Rows told in memory of the call's own. -/
def RowsO (l : List Rw) (w : World) (e : Ending) (w' : World) : Prop := ∃ a cap, e = .returned (.slice a l.length cap) ∧ OwnC w' w.heap.size 84 2 (.slice a l.length cap) l.length (l.flatMap rwL) ∧ Ext w w'
theorem rowsR_any (h : RefM base w st rows sd) (hl : rows.length ≤ 1000000) : Calls Tryz.prog 18 #[.pointer (some ⟨st, 0, none⟩)] w (RowsO rows w) := by
  obtain ⟨ra, rc, sa, sc, hc, hR, _, h1, _⟩ := h.sees
  have c := (hc w (Ext.refl _)).1
  have hr := Lib.hid (hR w (Ext.refl _))
  obtain ⟨n, hn⟩ : ∃ n, n = rows.length := ⟨_, rfl⟩
  rw [← hn] at c hr hl
  have hn' := Lib.hid hn
  have h1' := rws_one rows
  clear hc hR h h1 hn
  go_enter Tryz.func18, Tryz.ntmps18
  go_wp2_with (first | (at_builtin; go_loud (refine wpList_append_cs (by rfl) (.const (.slice none 0 0)) (.tmp 6) 22 84 (by rfl) Tryz.underlying22 el_row w w.heap.size 0 [] (.slice none 0 0) (by rfl) (OwnC.nil _ _ _ _) (.slice ra n rc) n _ (by rfl) hr.out h1' (by omega) (by omega) (Nat.le_refl _) ?_); go_loud (intro v2 w6 ho5 hb6; rw [Nat.zero_add, List.nil_append] at ho5; have ho6 := Lib.hid ho5; have hZ6 : Ext w w6 := hb6; clear ho5 hb6; obtain ⟨a2, c2, rfl, hq2⟩ := ho6.out.form; clear hq2)) | fail)
  go_ret
  unfold RowsO
  rw [← hn'.out]
  exact ⟨a2, c2, rfl, ho6.out, hZ6⟩
end
end Go.Proofs.YthageoibkeebhaaGreatDoor

/- SameChanges. No condition. -/
namespace Go.Proofs.YthageoibkeebhaaGreatDoor
open Go.RowKit
def sameCB (a b : Ch) : Bool := a.key.toList == b.key.toList && (a.val.toList == b.val.toList && a.gone == b.gone)
theorem sameC_iff {a b : Ch} : sameCB a b = true ↔ a = b := by
  unfold sameCB
  rw [Bool.and_eq_true, Bool.and_eq_true, beq_iff_eq, beq_iff_eq, beq_iff_eq]
  constructor
  · rintro ⟨h1, h2, h3⟩
    obtain ⟨m, v, g⟩ := a; obtain ⟨m', v', g'⟩ := b
    simp only at h1 h2 h3
    rw [tl_ext h1, tl_ext h2, h3]
  · rintro rfl; exact ⟨rfl, rfl, rfl⟩
instance : DecidableEq Ch := fun _ _ => decidable_of_iff _ sameC_iff
theorem wpQuiet_neq_ch {ops : Array Oper} {C : World → Prop} {Q : Act → Prop} {o : Oper} {rest : List Oper} {a : Act} (hg : Region.wanted o (yielded ops a.tmps) = true) (x y : Operand) (ho : o.op = .binOp .neq 102 x y 102) (m n : Ch) (hx : a.eval x = .agg m.cells.toArray) (hy : a.eval y = .agg n.cells.toArray)
    (k : wpQuiet Tryz.prog ops C Q rest (a.put o.dst (.bool (!sameCB m n)))) : wpQuiet Tryz.prog ops C Q (o :: rest) a := by
  refine wpQuiet_value _ hg (fun w _ => ?_) k
  unfold execOp
  simp only [ho, hx, hy, Ch.cells]
  go_simp
  unfold sameCB
  by_cases h1 : m.key.toList = n.key.toList <;> by_cases h4 : m.val.toList = n.val.toList <;> by_cases h5 : m.gone = n.gone <;> simp [h1, h4, h5]
set_option maxRecDepth 100000 in
set_option maxHeartbeats 1000000 in
theorem schgs_any (w : World) (l l' : List Ch) (a a' : Option Addr) (cap cap' : Nat) (h1 : RowIs w 3 (.slice a l.length cap) l.length (l.flatMap Ch.cells)) (h2 : RowIs w 3 (.slice a' l'.length cap') l'.length (l'.flatMap Ch.cells)) :
    Calls Tryz.prog 27 #[.slice a l.length cap, .slice a' l'.length cap'] w fun e w' => e = .returned (.bool (decide (l = l'))) ∧ Ext w w' := by
  by_cases hn : l.length = l'.length
  · have hn' : (l.length : Int) = (l'.length : Int) := by omega
    have hnn := h1.2.1
    obtain ⟨n, hl1⟩ : ∃ n, n = l.length := ⟨_, rfl⟩
    have hl2 : n = l'.length := by omega
    rw [← hl1] at h1 hnn
    rw [← hl2] at h2
    rw [← hl1, ← hl2]
    have hq1 := Lib.hid hl1
    have hq2 := Lib.hid hl2
    clear hn hn' hl1 hl2
    obtain ⟨r, hr⟩ : ∃ r, r = decide (l = l') := ⟨_, rfl⟩
    have hr' := Lib.hid hr
    rw [← hr]
    clear hr
    go_enter Tryz.func27, Tryz.ntmps27
    go_wp2_with fail
    go_loopw [5] (fun i wr => ∃ k : Nat, k ≤ n ∧ i = .int .i64 k ∧ l.take k = l'.take k ∧ Ext w wr) (fun i _ => n - (intOf i).toNat)
    case atStart => exact ⟨0, by omega, rfl, rfl, Ext.refl _⟩
    case round =>
      obtain ⟨k, hk, rfl, heq, hE⟩ := hrel
      by_cases hlt : k < n
      · have hli : (k : Int) < (n : Int) := by omega
        obtain ⟨c, hc⟩ : ∃ c, l[k]? = some c := ⟨_, List.getElem?_eq_getElem (by rw [← hq1.out]; exact hlt)⟩
        obtain ⟨c', hc'⟩ : ∃ c, l'[k]? = some c := ⟨_, List.getElem?_eq_getElem (by rw [← hq2.out]; exact hlt)⟩
        obtain ⟨b, off, hat⟩ := (h1.ext hE).at
        obtain ⟨b', off', hat'⟩ := (h2.ext hE).at
        obtain ⟨rfl, _, hd⟩ := hat (by omega)
        obtain ⟨rfl, _, hd'⟩ := hat' (by omega)
        have p := ch_range (by rw [← hq1.out]; exact hd) hc
        have q := ch_range (by rw [← hq2.out]; exact hd') hc'
        clear hd hd' hat hat'
        have htk : l.take (k + 1) = l.take k ++ [c] := by rw [List.take_add_one, hc]; rfl
        have htk' : l'.take (k + 1) = l'.take k ++ [c'] := by rw [List.take_add_one, hc']; rfl
        have heq' := Lib.hid heq
        have htk2 := Lib.hid htk
        have htk3 := Lib.hid htk'
        have hcc := Lib.hid hc
        have hcc' := Lib.hid hc'
        clear heq htk htk' hc hc'
        go_upto_region 6 with fail
        refine wp_region_class (Ext wr) (by kernel_rfl) (by kernel_rfl) (Ext.refl _).drew ?_
        iterate 3 (refine wpQuiet_step (fun K hK => ?_); go_simp; first | (refine hK _ ?_; clear hK K) | (refine ⟨_, fun _ _ => rfl, hK _ ?_⟩; clear hK K))
        refine wpQuiet_load_mid (by rfl) 102 _ (by rfl) b (off + k * 3) (by rfl) _ _ (fun w' h r u hu => h.cell (p r u hu)) Tryz.underlying102 rfl (by exact info_ch) ?_
        iterate 3 (refine wpQuiet_step (fun K hK => ?_); go_simp; first | (refine hK _ ?_; clear hK K) | (refine ⟨_, fun _ _ => rfl, hK _ ?_⟩; clear hK K))
        refine wpQuiet_load_mid (by rfl) 102 _ (by rfl) b' (off' + k * 3) (by rfl) _ _ (fun w' h r u hu => h.cell (q r u hu)) Tryz.underlying102 rfl (by exact info_ch) ?_
        refine wpQuiet_neq_ch (by rfl) (.tmp 20) (.tmp 24) (by rfl) c c' (by rfl) (by rfl) ?_
        refine wpQuiet_nil (fun w5 hE5 => ?_)
        simp only [Act.put, List.setIfInBounds_toArray, List.set_cons_zero, List.set_cons_succ]
        cases hse : sameCB c c'
        all_goals simp only [Bool.not_true, Bool.not_false]
        · have hne : r = false := by
            rw [hr'.out]
            refine decide_eq_false fun h => ?_
            subst h
            have := hcc.out.symm.trans hcc'.out
            injection this with this
            rw [sameC_iff.2 this] at hse
            exact Bool.noConfusion hse
          have hne' := Lib.hid hne
          clear hne
          go_wp2_with fail
          go_ret
          exact ⟨by rw [hne'.out]; rfl, hE.trans hE5⟩
        · have hcc2 := Lib.hid (sameC_iff.1 hse)
          go_wp2_with fail
          go_roundw
          case rel => first | exact ⟨k + 1, by omega, by go_num, by rw [htk2.out, htk3.out, heq'.out, hcc2.out], hE.trans hE5⟩ | exact ⟨_, _, _, _, _, _, _, _, _, _, _, _, _, ⟨k + 1, by omega, by go_num, by rw [htk2.out, htk3.out, heq'.out, hcc2.out], hE.trans hE5⟩, rfl⟩
          case measure => simp [intOf]; omega
      · have hli : ¬ (k : Int) < (n : Int) := by omega
        have hne : r = true := by
          rw [hr'.out]
          refine decide_eq_true ?_
          rw [List.take_of_length_le (by rw [← hq1.out]; omega), List.take_of_length_le (by rw [← hq2.out]; omega)] at heq
          exact heq
        have hne' := Lib.hid hne
        clear hne heq
        go_wp2_with fail
        go_ret
        exact ⟨by rw [hne'.out]; rfl, hE⟩
  · have hn' : ¬ (l.length : Int) = (l'.length : Int) := by omega
    rw [decide_eq_false (fun h => hn (congrArg List.length h))]
    clear h1 h2
    go_enter Tryz.func27, Tryz.ntmps27
    go_wp2_with fail
    go_ret
    exact ⟨rfl, Ext.refl _⟩
end Go.Proofs.YthageoibkeebhaaGreatDoor

/- A slice of the call's own, cut short. No condition. -/
namespace Go.Proofs.YthageoibkeebhaaGreatDoor
open Go.RowKit
theorem OwnC.cut {w : World} {base : Nat} {e : TypeId} {size : Nat} {a : Option Addr} {n cap m : Nat} {xs : List Value} (h : OwnC w base e size (.slice a n cap) n xs) (hm : m ≤ n) : OwnC w base e size (.slice a m cap) m (xs.take (m * size)) := by
  obtain ⟨hl, ⟨e0, hn⟩ | ⟨g, cap', cur, e0, h2, h3, h4, h5, h6, h7⟩⟩ := h
  · obtain rfl : m = 0 := by omega
    subst hn
    exact ⟨by simp, .inl ⟨e0, rfl⟩⟩
  · injection e0 with e1 e2 e3
    subst e1 e3
    have hms : m * size ≤ n * size := Nat.mul_le_mul_right _ hm
    refine ⟨by rw [List.length_take, hl]; omega, .inr ⟨g, cap, cur, rfl, h2, h3, by omega, h5, by omega, ?_⟩⟩
    rw [← h7, List.take_take, Nat.min_eq_left hms]
end Go.Proofs.YthageoibkeebhaaGreatDoor
