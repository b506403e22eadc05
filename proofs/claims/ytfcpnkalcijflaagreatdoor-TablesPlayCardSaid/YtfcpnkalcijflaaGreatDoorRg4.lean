/- The document's table: Put. No condition. -/
import Derived.Test.YtfcpnkalcijflaaGreatDoorRg3
import Derived.Test.YtfcpnkalcijflaaGreatDoorKit3
import Derived.Deep.CutBlock
import Derived.Deep.RegionHeld3
namespace Go.Proofs.YtfcpnkalcijflaaGreatDoor
open Go.RowKit
set_option maxRecDepth 100000
set_option maxHeartbeats 4000000
theorem enl_all (l : List En) : ∀ u ∈ l.flatMap enL, u.oneCell' = true := fun u hu => by
  obtain ⟨x, _, hx⟩ := List.mem_flatMap.1 hu
  exact en_all x u hx
theorem ens_cut (l : List En) (k : Nat) : (l.flatMap enL).drop (k * 4) = (l.drop k).flatMap enL ∧ (l.flatMap enL).take (k * 4) = (l.take k).flatMap enL := by
  induction l generalizing k with
  | nil => simp
  | cons x r ih =>
    cases k with
    | zero => simp
    | succ k =>
      have hx : (enL x).length = 4 := rfl
      rw [List.flatMap_cons, List.drop_succ_cons, List.take_succ_cons, List.flatMap_cons, show (k + 1) * 4 = (enL x).length + k * 4 by rw [hx]; omega, List.drop_length_add_append, List.take_length_add_append, (ih k).1, (ih k).2]
      exact ⟨rfl, rfl⟩
theorem wpQuiet_eql_mk {ops : Array Oper} {C : World → Prop} {Q : Act → Prop} {o : Oper} {rest : List Oper} {a : Act} (hg : Region.wanted o (yielded ops a.tmps) = true) (x y : Operand) (ho : o.op = .binOp .eql 47 x y 47) (m n : Mk) (hx : a.eval x = .agg (mkRow m).toArray) (hy : a.eval y = .agg (mkRow n).toArray)
    (k : Bq (wpQuiet Tryz.prog ops C Q rest (a.put o.dst (.bool (sameB m n))))) : Bq (wpQuiet Tryz.prog ops C Q (o :: rest) a) := ⟨wpQuiet_eql_mark hg x y ho m n hx hy k.out⟩
theorem step_append_cs {P : Program} {ops : Array Oper} {o : Oper} {a : Act} {K : Act → World → Prop} {Q : Exit → Act → World → Prop} {E : Prop} (hg : Region.wanted o (yielded ops a.tmps) = true) (s x : Operand) (t e : TypeId)
    (ho : o.op = .call { callee := .builtin .append, args := #[s, x], argTypes := #[t, t] }) (ht : P.underlying t = some (.slice e)) {size bytes : Nat} (hel : ElemIs P e size bytes)
    (w : World) (base n : Nat) (xs : List Value) (v : Value) (hs : a.eval s = v) (hown : OwnC w base e size v n xs) (xv : Value) (m : Nat) (news : List Value)
    (hx : a.eval x = xv) (hr : RowIs w size xv m news) (h1 : ∀ u ∈ news, u.oneCell' = true) (hn : n + m < 9223372036854775807) (hb : (n + m) * bytes ≤ 140737488355328) (hbase : base ≤ w.heap.size)
    (h : ∀ v' w', OwnC w' base e size v' (n + m) (xs ++ news) → Below base w w' → K (a.put o.dst v') w') : if Region.wanted o (yielded ops a.tmps) = true then Oper.wp P o a w K Q else E := by
  rw [if_pos hg]
  exact wp_append_cs s x t e ho ht hel w base n xs v hs hown xv m news hx hr h1 hn hb hbase h
theorem row1_of {w : World} {g : Nat} {x : En} (h : w.heap[g]? = some (.cells (enRow x) 49 (0, 0))) : RowIs w 4 (.slice (some ⟨g, 0, none⟩) 1 1) 1 (enRow x).toList :=
  OwnC.row (base := 0) (e := 49) ⟨rfl, .inr ⟨g, 1, enRow x, rfl, Nat.zero_le _, h, Nat.le_refl _, by unfold maxLen; omega, Nat.le_refl _, rfl⟩⟩
theorem mark_of {w : World} {b o : Nat} {y : En} (h : w.rangeAt b o (enRow y).toList) : w.rangeAt b o (mkRow y.mark) := fun r v hv => by
  have hr : r < 3 := (List.getElem?_eq_some_iff.1 hv).1
  refine h r v ?_
  obtain rfl | rfl | rfl : r = 0 ∨ r = 1 ∨ r = 2 := by omega
  all_goals exact hv
def RPutE (base : Nat) (w : World) (rb : Nat) (L : List En) (x : En) (t : Int) (Z : Nat → Prop) (e : Ending) (w' : World) : Prop := e = .returned (.int .i64 (putC L x t)) ∧ Below base w w' ∧ OffB (fun k => k = rb) w w' ∧ ∃ Z', RefZ base w' rb (putL L x t) Z' ∧ ∀ k, Z' k → Z k ∨ w.heap.size ≤ k
section
variable {base rb : Nat} {w : World} {L : List En} {Z : Nat → Prop}
theorem rput_same (h : RefZ base w rb L Z) {x : En} {t c : Int} {w' : World} (hE : Ext w w') (hc : putC L x t = c) (hl : putL L x t = L) : RPutE base w rb L x t Z (.returned (.int .i64 c)) w' := by
  refine ⟨by rw [hc], hE.mono ?_, .of_ext hE, Z, by rw [hl]; exact h.ext hE, fun k hk => .inl hk⟩
  have h1 := h.ge (k := rb) (by obtain ⟨a, cap, _, _, _, _, h5⟩ := h; exact (h5 rb).2 (.inl rfl))
  have h2 := h.lt (k := rb) (by obtain ⟨a, cap, _, _, _, _, h5⟩ := h; exact (h5 rb).2 (.inl rfl))
  omega
theorem rput_new (h : RefZ base w rb L Z) {x : En} {t : Int} {w6 : World} (hE : Ext w w6) (hc : putC L x t = 0) (hl : putL L x t = insL L x) {a2 : Option Addr} {c2 n : Nat} (hn : n = (insL L x).length) (ho : OwnC w6 w.heap.size 49 4 (.slice a2 n c2) n ((insL L x).flatMap enL)) : RPutE base w rb L x t Z (.returned (.int .i64 0)) (w6.setCell ⟨rb, 0, none⟩ (.slice a2 n c2)) := by
  subst hn
  have hz : Z rb := by obtain ⟨a, cap, _, _, _, _, h5⟩ := h; exact (h5 rb).2 (.inl rfl)
  have h1 := h.ge hz
  have h2 := h.lt hz
  obtain ⟨a, cap, hr, _, _, _, _⟩ := h
  have hr6 := hE.row hr
  have hO : OffB (fun k => k = rb) w (w6.setCell ⟨rb, 0, none⟩ (.slice a2 (insL L x).length c2)) := OffB.setCell (B := fun k => k = rb) (OffB.of_ext hE) (p := ⟨rb, 0, none⟩) rfl _
  refine ⟨by rw [hc], hO.below (fun k hk => by rw [hk]; exact h1) (by omega), hO, _, ⟨a2, c2, ?_, h1, ?_, ?_, fun k => Iff.rfl⟩, ?_⟩
  · rw [hl, setCell_eq_setRow _ _ _ _ _ _ _ hr6, setRow_heap _ _ _ _ _ _ hr6]
    rfl
  · rw [hl]
    refine own_mono (ho.offB (B := fun k => k = rb) ((OffB.refl (B := fun k => k = rb) w6).setCell (p := ⟨rb, 0, none⟩) rfl _) (fun q hq e => ?_)) (by omega)
    have := (ho.lt q hq).1
    omega
  · rw [hl]
    intro q hq e
    have := (ho.lt q hq).1
    omega
  · rintro k (rfl | hk)
    · exact .inl hz
    · rw [hl] at hk
      exact .inr (ho.lt k hk).1
theorem rput_any (h : RefZ base w rb L Z) (hr : Rises L) (hs : ∀ e ∈ L, e.small) (hl : L.length ≤ 5000) (x : En) (hx : x.small) (t : Int) : Calls Tryz.prog 7 #[.pointer (some ⟨rb, 0, none⟩), .agg (enRow x), .int .i64 t] w (RPutE base w rb L x t Z) := by
  obtain ⟨oa, oc, hc, hR, hmc, hcm⟩ := h.sees
  obtain ⟨X, hX⟩ : ∃ X, X = w.heap.size := ⟨_, rfl⟩
  obtain ⟨V0, hV0⟩ : ∃ W, W = w.alloc (.cells (enRow x) 49) := ⟨_, rfl⟩
  have hE0 : Ext w V0 := by rw [hV0]; exact (Ext.refl _).alloc _
  have hxr : Hid (∀ W, Ext V0 W → W.heap[X]? = some (.cells (enRow x) 49 (0, 0))) := Lib.hid (fun W hE => hE.row (by rw [hV0, hX]; exact heap_alloc_new w _))
  obtain ⟨c0, c1, c2, c3⟩ := en_cells (hxr.out V0 (Ext.refl _))
  obtain ⟨m, hm0⟩ : ∃ n, n = L.length := ⟨_, rfl⟩
  rw [← hm0] at hc hR hmc hl
  have hm := Lib.hid hm0
  have hc' := Lib.hid hc
  have hR' := Lib.hid hR
  have hs' := Lib.hid hs
  have hr' := Lib.hid hr
  have h' := Lib.hid h
  have hV0' := Lib.hid hV0
  have hX' := Lib.hid hX
  have hbad : Hid (okB x t = false → ∀ W, Ext V0 W → RPutE base w rb L x t Z (.returned (.int .i64 1)) W) := Lib.hid (fun hok W hE => rput_same h (hE0.trans hE) (by unfold putC; rw [hok]; rfl) (by unfold putL; rw [hok]; rfl))
  have hfi := Lib.hid (fun W => fineR_any W x hx)
  have hxk := hx.1
  have hmb : m ≤ 9223372036854775807 := by omega
  have hcx : oc ≤ 9223372036854775807 := by unfold maxLen at hcm; omega
  clear hc hR hs hr h hV0 hX hm0 hx hcm
  unfold enRow at hfi hV0' ⊢
  go_enter Tryz.func7, Tryz.ntmps7
  go_wp2_with fail
  rw [← hV0'.out, ← hX'.out]
  refine (hfi.out V0).mono ?_
  rintro e w1 ⟨rfl, hE1⟩
  cases hf : fineB x with
  | false =>
    have hno := hbad.out (by unfold okB; rw [hf]; rfl) w1 hE1
    clear hf hbad
    go_wp2_with fail
    go_ret
    exact hno
  | true =>
    by_cases ht1 : t < 1
    · have hno := hbad.out (by unfold okB; rw [hf, decide_eq_false (show ¬ 1 ≤ t by omega)]; rfl) w1 hE1
      clear hf hbad
      go_wp2_with fail
      go_ret
      exact hno
    · by_cases ht8 : 8 < t
      · have hno := hbad.out (by unfold okB; rw [hf, decide_eq_false (show ¬ t ≤ 8 by omega), Bool.and_false]; rfl) w1 hE1
        clear hf hbad
        go_wp2_with fail
        go_ret
        exact hno
      · have hok : Hid (okB x t = true) := Lib.hid (by unfold okB; rw [hf, decide_eq_true (show 1 ≤ t by omega), decide_eq_true (show t ≤ 8 by omega)]; rfl)
        clear hf hbad
        obtain ⟨P, hP⟩ : ∃ P, P = (aheadL L x.mark).length := ⟨_, rfl⟩
        have hPm : P ≤ m := by rw [hP, hm.out]; exact ahead_le _ _
        have hP' := Lib.hid hP
        have hq1 : decide (t < 1) = false := decide_eq_false ht1
        have hq8 : decide (8 < t) = false := decide_eq_false ht8
        obtain ⟨V, hV⟩ : ∃ V, Hid (w1 = V) := ⟨w1, Lib.hid rfl⟩
        have hEV : Ext V0 V := by rw [← hV.out]; exact hE1
        clear hP ht1 ht8 hE1 c0 c1 c2 c3 hfi
        go_upto_block 0 with fail
        go_cut [7] from 20 to 42 (fun t wx => t = .int .i64 (P : Int) ∧ Ext V wx)
        case first =>
          go_wp2_with fail
          go_loopw [7] (fun t wr => ∃ j : Nat, t = .int .i64 j ∧ j ≤ P ∧ Ext V wr) (fun t _ => m - (intOf t).toNat)
          case atStart => exact ⟨0, rfl, by omega, by rw [hV.out]; exact Ext.refl _⟩
          case round =>
            obtain ⟨j, rfl, hj, hEj⟩ := hrel
            have hwj := (hE0.trans hEV).trans hEj
            have c1 := hc'.out wr hwj
            by_cases hjm : j < m
            · have hji : (j : Int) < (m : Int) := by omega
              obtain ⟨y, hy⟩ : ∃ y, L[j]? = some y := ⟨_, List.getElem?_eq_getElem (by rw [← hm.out]; exact hjm)⟩
              obtain ⟨ob, oo, hat⟩ := (hR'.out wr hwj).at
              obtain ⟨rfl, _, hdy⟩ := hat (by omega)
              have p := mark_of (ens_range (by rw [← hm.out]; exact hdy) hy)
              have q := en_mark (hxr.out wr (hEV.trans hEj))
              have hsy := (hs'.out y (List.mem_of_getElem? hy)).1
              have hy' := Lib.hid hy
              clear hat hdy hy
              go_upto_region 4 with fail
              refine bqRegion (Ext wr) (by kernel_rfl) (by kernel_rfl) (Ext.refl _).drew ?_
              iterate 4 (refine bqStep (fun K hK => ?_); go_simp; first | (refine hK _ ?_; clear hK K) | (refine ⟨_, fun _ _ => rfl, hK _ ?_⟩; clear hK K))
              refine bqCell (by rfl) 27 _ (by rfl) rb 0 (by rfl) _ (fun w' h => h.cell c1) _ Tryz.underlying27 rfl ?_
              simp only [Act.put, List.setIfInBounds_toArray, List.set_cons_zero, List.set_cons_succ]
              iterate 6 (refine bqStep (fun K hK => ?_); go_simp; first | (refine hK _ ?_; clear hK K) | (refine ⟨_, fun _ _ => rfl, hK _ ?_⟩; clear hK K))
              refine bqCell (by rfl) 27 _ (by rfl) rb 0 (by rfl) _ (fun w' h => h.cell c1) _ Tryz.underlying27 rfl ?_
              simp only [Act.put, List.setIfInBounds_toArray, List.set_cons_zero, List.set_cons_succ]
              iterate 3 (refine bqStep (fun K hK => ?_); go_simp; first | (refine hK _ ?_; clear hK K) | (refine ⟨_, fun _ _ => rfl, hK _ ?_⟩; clear hK K))
              refine bqMid (by rfl) 47 _ (by rfl) ob (oo + j * 4) (by rfl) _ _ (fun w' h r u hu => h.cell (p r u hu)) Tryz.underlying47 rfl (by exact info_mark) ?_
              simp only [Act.put, List.setIfInBounds_toArray, List.set_cons_zero, List.set_cons_succ]
              iterate 1 (refine bqStep (fun K hK => ?_); go_simp; first | (refine hK _ ?_; clear hK K) | (refine ⟨_, fun _ _ => rfl, hK _ ?_⟩; clear hK K))
              refine bqMid (by rfl) 47 _ (by rfl) X 0 (by rfl) _ _ (fun w' h r u hu => h.cell (q r u hu)) Tryz.underlying47 rfl (by exact info_mark) ?_
              simp only [Act.put, List.setIfInBounds_toArray, List.set_cons_zero, List.set_cons_succ, mkRow]
              refine bqStep (fun K hK => ?_)
              go_simp
              refine ⟨_, fun w' hw => calls_ext hw (cmpR_any w' y.mark x.mark hsy hxk), hK _ ?_⟩
              clear hK K
              iterate 2 (refine bqStep (fun K hK => ?_); go_simp; first | (refine hK _ ?_; clear hK K) | (refine ⟨_, fun _ _ => rfl, hK _ ?_⟩; clear hK K))
              refine bqNil (fun w5 hE5 => ?_)
              have hE6 := hEj.trans hE5
              clear p q c1
              cases hlt2 : y.mark.ltB x.mark with
              | true =>
                have hc : cmpM y.mark x.mark < 0 := cmpM_neg.2 hlt2
                have hd0 : decide (cmpM y.mark x.mark < 0) = true := decide_eq_true hc
                have hjP : j + 1 ≤ P := by
                  rcases Nat.lt_or_ge j P with h | h
                  · exact h
                  · have h1 := hy'.out
                    rw [show j = (aheadL L x.mark).length by rw [← hP'.out]; omega] at h1
                    rw [(ahead_end hr'.out h1).1] at hlt2
                    cases hlt2
                clear hlt2
                go_wp2_with fail
                go_roundw
                case rel => exact ⟨j + 1, by go_num, hjP, hE6⟩
                case measure => simp [intOf]; omega
              | false =>
                have hc : ¬ cmpM y.mark x.mark < 0 := fun h => by rw [cmpM_neg.1 h] at hlt2; cases hlt2
                have hd0 : decide (cmpM y.mark x.mark < 0) = false := decide_eq_false hc
                have hjP : j = P := by
                  rcases Nat.lt_or_ge j P with h | h
                  · obtain ⟨z, hz, hzl⟩ := ahead_at (O := L) (m := x.mark) (j := j) (by rw [← hP'.out]; exact h)
                    rw [hy'.out] at hz
                    injection hz with hz
                    rw [hz, hzl] at hlt2
                    cases hlt2
                  · omega
                have hjP' := Lib.hid hjP
                clear hlt2 hjP
                go_wp2_with fail
                go_meet
                exact ⟨by rw [hjP'.out], hE6⟩
            · have hji : ¬ (j : Int) < (m : Int) := by omega
              have hjP : Hid (j = P) := Lib.hid (by omega)
              go_upto_region 4 with fail
              refine bqRegion (Ext wr) (by kernel_rfl) (by kernel_rfl) (Ext.refl _).drew ?_
              iterate 4 (refine bqStep (fun K hK => ?_); go_simp; first | (refine hK _ ?_; clear hK K) | (refine ⟨_, fun _ _ => rfl, hK _ ?_⟩; clear hK K))
              refine bqCell (by rfl) 27 _ (by rfl) rb 0 (by rfl) _ (fun w' h => h.cell c1) _ Tryz.underlying27 rfl ?_
              simp only [Act.put, List.setIfInBounds_toArray, List.set_cons_zero, List.set_cons_succ]
              iterate 3 (refine bqStep (fun K hK => ?_); go_simp; first | (refine hK _ ?_; clear hK K) | (refine ⟨_, fun _ _ => rfl, hK _ ?_⟩; clear hK K))
              iterate 12 (refine bqSkip (by rfl) ?_; simp only [Act.put, List.setIfInBounds_toArray, List.set_cons_zero, List.set_cons_succ])
              iterate 1 (refine bqStep (fun K hK => ?_); go_simp; first | (refine hK _ ?_; clear hK K) | (refine ⟨_, fun _ _ => rfl, hK _ ?_⟩; clear hK K))
              refine bqNil (fun w5 hE5 => ?_)
              go_wp2_with fail
              go_meet
              exact ⟨by rw [hjP.out], hEj.trans hE5⟩
        case rest =>
          obtain ⟨rfl, hE7⟩ := hcut
          obtain ⟨B, hB⟩ : ∃ B, B = thereB L x.mark := ⟨_, rfl⟩
          have hB' := Lib.hid hB
          have hBh : Hid (B = match L[P]? with | none => false | some y => sameB y.mark x.mark) := Lib.hid (by rw [hB, there_head hr'.out, hP'.out]; cases L[(aheadL L x.mark).length]? <;> rfl)
          clear hB
          obtain ⟨U, hU⟩ : ∃ U, Hid (wc = U) := ⟨wc, Lib.hid rfl⟩
          have hEU : Ext V U := by rw [← hU.out]; exact hE7
          have hwU : Ext w U := (hE0.trans hEV).trans hEU
          clear hE7
          go_upto_region 6 with fail
          go_cut [62] from 43 to 61 (fun t wx => t = .bool B ∧ Ext U wx)
          case first =>
            have hUc : Ext U wc := by rw [hU.out]; exact Ext.refl _
            have hwc := hwU.trans hUc
            have c1 := hc'.out wc hwc
            by_cases hjm : P < m
            · have hji : (P : Int) < (m : Int) := by omega
              obtain ⟨y, hy⟩ : ∃ y, L[P]? = some y := ⟨_, List.getElem?_eq_getElem (by rw [← hm.out]; exact hjm)⟩
              have hBe : Hid (B = sameB y.mark x.mark) := Lib.hid (by rw [hBh.out, hy])
              obtain ⟨ob, oo, hat⟩ := (hR'.out wc hwc).at
              obtain ⟨rfl, _, hdy⟩ := hat (by omega)
              have p := mark_of (ens_range (by rw [← hm.out]; exact hdy) hy)
              have q := en_mark (hxr.out wc ((hEV.trans hEU).trans hUc))
              clear hat hdy hy
              refine bqRegion (Ext wc) (by kernel_rfl) (by kernel_rfl) (Ext.refl _).drew ?_
              iterate 4 (refine bqStep (fun K hK => ?_); go_simp; first | (refine hK _ ?_; clear hK K) | (refine ⟨_, fun _ _ => rfl, hK _ ?_⟩; clear hK K))
              refine bqCell (by rfl) 27 _ (by rfl) rb 0 (by rfl) _ (fun w' h => h.cell c1) _ Tryz.underlying27 rfl ?_
              simp only [Act.put, List.setIfInBounds_toArray, List.set_cons_zero, List.set_cons_succ]
              iterate 6 (refine bqStep (fun K hK => ?_); go_simp; first | (refine hK _ ?_; clear hK K) | (refine ⟨_, fun _ _ => rfl, hK _ ?_⟩; clear hK K))
              refine bqCell (by rfl) 27 _ (by rfl) rb 0 (by rfl) _ (fun w' h => h.cell c1) _ Tryz.underlying27 rfl ?_
              simp only [Act.put, List.setIfInBounds_toArray, List.set_cons_zero, List.set_cons_succ]
              iterate 3 (refine bqStep (fun K hK => ?_); go_simp; first | (refine hK _ ?_; clear hK K) | (refine ⟨_, fun _ _ => rfl, hK _ ?_⟩; clear hK K))
              refine bqMid (by rfl) 47 _ (by rfl) ob (oo + P * 4) (by rfl) _ _ (fun w' h r u hu => h.cell (p r u hu)) Tryz.underlying47 rfl (by exact info_mark) ?_
              simp only [Act.put, List.setIfInBounds_toArray, List.set_cons_zero, List.set_cons_succ]
              iterate 1 (refine bqStep (fun K hK => ?_); go_simp; first | (refine hK _ ?_; clear hK K) | (refine ⟨_, fun _ _ => rfl, hK _ ?_⟩; clear hK K))
              refine bqMid (by rfl) 47 _ (by rfl) X 0 (by rfl) _ _ (fun w' h r u hu => h.cell (q r u hu)) Tryz.underlying47 rfl (by exact info_mark) ?_
              simp only [Act.put, List.setIfInBounds_toArray, List.set_cons_zero, List.set_cons_succ]
              refine wpQuiet_eql_mk (by rfl) (.tmp 58) (.tmp 60) (by rfl) y.mark x.mark (by rfl) (by rfl) ?_
              simp only [Act.put, List.setIfInBounds_toArray, List.set_cons_zero, List.set_cons_succ]
              iterate 1 (refine bqStep (fun K hK => ?_); go_simp; first | (refine hK _ ?_; clear hK K) | (refine ⟨_, fun _ _ => rfl, hK _ ?_⟩; clear hK K))
              refine bqNil (fun w5 hE5 => ?_)
              clear p q c1
              go_wp2_with fail
              go_meet
              exact ⟨by rw [hBe.out], hUc.trans hE5⟩
            · have hji : ¬ (P : Int) < (m : Int) := by omega
              have hBe : Hid (B = false) := Lib.hid (by rw [hBh.out, List.getElem?_eq_none (by rw [← hm.out]; omega)])
              refine bqRegion (Ext wc) (by kernel_rfl) (by kernel_rfl) (Ext.refl _).drew ?_
              iterate 4 (refine bqStep (fun K hK => ?_); go_simp; first | (refine hK _ ?_; clear hK K) | (refine ⟨_, fun _ _ => rfl, hK _ ?_⟩; clear hK K))
              refine bqCell (by rfl) 27 _ (by rfl) rb 0 (by rfl) _ (fun w' h => h.cell c1) _ Tryz.underlying27 rfl ?_
              simp only [Act.put, List.setIfInBounds_toArray, List.set_cons_zero, List.set_cons_succ]
              iterate 3 (refine bqStep (fun K hK => ?_); go_simp; first | (refine hK _ ?_; clear hK K) | (refine ⟨_, fun _ _ => rfl, hK _ ?_⟩; clear hK K))
              iterate 11 (refine bqSkip (by rfl) ?_; simp only [Act.put, List.setIfInBounds_toArray, List.set_cons_zero, List.set_cons_succ])
              iterate 1 (refine bqStep (fun K hK => ?_); go_simp; first | (refine hK _ ?_; clear hK K) | (refine ⟨_, fun _ _ => rfl, hK _ ?_⟩; clear hK K))
              refine bqNil (fun w5 hE5 => ?_)
              go_wp2_with fail
              go_meet
              exact ⟨by rw [hBe.out], hUc.trans hE5⟩
          case rest =>
            obtain ⟨rfl, hE8⟩ := hcut
            have hEx : Ext w wc := hwU.trans hE8
            cases hb : B with
            | true =>
              have hfin := Lib.hid (rput_same h'.out (x := x) (t := t) (c := 8) hEx (by unfold putC; rw [hok.out, ← hB'.out, hb]; rfl) (by unfold putL; rw [hok.out, ← hB'.out, hb]; rfl))
              clear hb
              go_wp2_with fail
              go_ret
              exact hfin.out
            | false =>
              have hth : Hid (thereB L x.mark = false) := Lib.hid (by rw [← hB'.out]; exact hb)
              clear hb
              have c1 := hc'.out wc hEx
              by_cases hfull : 4096 ≤ m
              · have hfi : (4096 : Int) ≤ (m : Int) := by omega
                have hfin := Lib.hid (rput_same h'.out (x := x) (t := t) (c := 6) hEx (by unfold putC; rw [hok.out, hth.out, if_pos rfl, if_neg (by simp), if_pos (by rw [← hm.out]; exact hfull)]) (by unfold putL; rw [hok.out, hth.out, if_pos rfl, if_neg (by simp), if_pos (by rw [← hm.out]; exact hfull)]))
                go_wp2_with fail
                go_ret
                exact hfin.out
              · have hfi : ¬ (4096 : Int) ≤ (m : Int) := by omega
                have hpc : Hid (putC L x t = 0) := Lib.hid (by unfold putC; rw [hok.out, hth.out, if_pos rfl, if_neg (by simp), if_neg (by rw [← hm.out]; exact hfull)])
                have hpl : Hid (putL L x t = insL L x) := Lib.hid (by unfold putL; rw [hok.out, hth.out, if_pos rfl, if_neg (by simp), if_neg (by rw [← hm.out]; exact hfull)])
                go_upto_region 11 with fail
                obtain ⟨Y, hY⟩ : ∃ Y, Hid (wc = Y) := ⟨wc, Lib.hid rfl⟩
                have hEY : Ext w Y := by rw [← hY.out]; exact hEx
                have hVY : Ext V0 Y := by rw [← hY.out]; exact (hEV.trans hEU).trans hE8
                have hPc : P ≤ oc := by omega
                have hTk : Hid (∀ W, Ext Y W → RowIs W 4 (.slice oa P oc) P ((aheadL L x.mark).flatMap enL)) := Lib.hid (fun W h => by
                  have h2 := (hR'.out W (hEY.trans h)).take hPm
                  rw [(ens_cut L P).2, hP'.out, ahead_take, ← hP'.out] at h2
                  exact h2)
                have hDr : Hid (∀ W, Ext Y W → RowIs W 4 (.slice (tailAddr oa oc P 4) (m - P) (oc - P)) (m - P) ((restL L x.mark).flatMap enL)) := Lib.hid (fun W h => by
                  have h2 := (hR'.out W (hEY.trans h)).drop P
                  have h3 := ahead_drop L x.mark
                  rw [← hP'.out] at h3
                  rw [(ens_cut L P).1, h3] at h2
                  exact h2)
                have hS : Hid (∀ W, Ext Y W → W.cell? ⟨rb, 0, none⟩ = some (.slice oa m oc) ∧ W.cell? ⟨X, 0, none⟩ = some (.string x.mark.key) ∧ W.cell? ⟨X, 1, none⟩ = some (.int .u64 (x.mark.seq : Int)) ∧ W.cell? ⟨X, 2, none⟩ = some (.bool x.mark.gone) ∧ W.cell? ⟨X, 3, none⟩ = some (.string x.val)) := Lib.hid (fun W h => by
                  obtain ⟨b0, b1, b2, b3⟩ := en_cells (hxr.out W (hVY.trans h))
                  exact ⟨hc'.out W (hEY.trans h), b0, b1, b2, b3⟩)
                have hsY := hEY.size
                have hrow := Lib.hid (show ∀ W, Ext Y W → W.frozen? ⟨rb, 0, none⟩ = false from fun W hE => by
                  obtain ⟨_, _, hr0, _⟩ := h'.out
                  have := (hEY.trans hE).row hr0
                  unfold World.frozen?
                  rw [this]
                  simp)
                clear hE8 hEx c1
                go_cut [8] from 69 to 79 (fun v wx => ∃ a1 c1, v = .slice a1 (P + 1) c1 ∧ Hid (OwnC wx Y.heap.size 49 4 (.slice a1 (P + 1) c1) (P + 1) ((aheadL L x.mark ++ [x]).flatMap enL)) ∧ Ext Y wx)
                case first =>
                  rw [hY.out]
                  go_region_held3 (fun w' => w'.cell? ⟨rb, 0, none⟩ = some (.slice oa m oc) ∧ w'.cell? ⟨X, 0, none⟩ = some (.string x.mark.key) ∧ w'.cell? ⟨X, 1, none⟩ = some (.int .u64 (x.mark.seq : Int)) ∧ w'.cell? ⟨X, 2, none⟩ = some (.bool x.mark.gone) ∧ w'.cell? ⟨X, 3, none⟩ = some (.string x.val)) ((refine hS.out _ ?_; first | exact (Ext.refl _).drew | exact (Ext.refl _).drew.alloc _ | exact ((Ext.refl _).alloc _).drew | assumption | exact Ext.alloc (by assumption) _)) (first | ((refine step_append_cs rfl (.tmp 69) (.tmp 75) 27 49 rfl Tryz.underlying27 el_entry _ _ 0 [] (.slice none 0 0) (by rfl) (OwnC.nil _ _ _ _) (.slice oa P oc) P _ (by rfl) (hTk.out _ (by first | exact (Ext.refl _).drew | exact (Ext.refl _).drew.alloc _)) (enl_all _) (by omega) (by omega) (Nat.le_refl _) ?_); (intro v1 w1 hown1 hb1; rw [Nat.zero_add, List.nil_append] at hown1; have hZ1 : Ext Y w1 := (by first | exact (Ext.refl Y).drew.trans hb1 | exact ((Ext.refl Y).drew.alloc _).trans hb1); have ho1 := Lib.hid (own_mono hown1 (base := Y.heap.size) (by first | exact ((Ext.refl Y).drew).size | exact ((Ext.refl Y).drew.alloc _).size)); have hs1 := hZ1.size; have hb1' := Lib.hid hb1; clear hown1 hb1; obtain ⟨a1, c1, rfl, hq1⟩ := ho1.out.form; clear hq1)) | ((refine step_append_c rfl (.tmp 76) (.tmp 78) 27 49 rfl Tryz.underlying27 el_entry w1 Y.heap.size P _ (.slice a1 P c1) (by rfl) ho1.out (enRow x) (by rfl) (by rfl) (en_all x) (by omega) (by omega) hs1 ?_); (intro v2 w6 hA; have ho6 := Lib.hid hA.own; have hZ6 : Ext Y w6 := Below.trans hZ1 hA.below; clear hA; obtain ⟨a2, c2, rfl, hq2⟩ := ho6.out.form; clear hq2)) | ((refine step_append_cs rfl (.tmp 76) (.tmp 78) 27 49 rfl Tryz.underlying27 el_entry w1 Y.heap.size P _ (.slice a1 P c1) (by rfl) ho1.out (.slice (some ⟨Y.drew.heap.size, 0, none⟩) 1 1) 1 (enRow x).toList (by rfl) (row1_of (Ext.row hb1'.out (heap_alloc_new Y.drew _))) (en_all x) (by omega) (by omega) hs1 ?_); (intro v2 w6 ho5 hb6; have ho6 := Lib.hid ho5; have hZ6 : Ext Y w6 := Below.trans hZ1 hb6; clear ho5 hb6; obtain ⟨a2, c2, rfl, hq2⟩ := ho6.out.form; clear hq2)) | fail)
                  all_goals
                    go_wp2_with fail
                    go_meet
                    exact ⟨a2, c2, rfl, Lib.hid (by rw [List.flatMap_append]; exact ho6.out), hZ6⟩
                case rest =>
                  obtain ⟨a1, c1, rfl, ho1, hZ1⟩ := hcut
                  have hdr := Lib.hid (hDr.out wc hZ1)
                  have hs1 := hZ1.size
                  obtain ⟨k0, _⟩ := hS.out wc hZ1
                  have hin : Hid (insL L x = (aheadL L x.mark ++ [x]) ++ restL L x.mark) := Lib.hid (by unfold insL; simp)
                  have hm2 : Hid (m + 1 = (insL L x).length) := Lib.hid (by rw [ins_length, ← hm.out])
                  have hend : Hid (∀ (w6 : World) (a2 : Option Addr) (c2 : Nat), Ext Y w6 → OwnC w6 Y.heap.size 49 4 (.slice a2 (m + 1) c2) (m + 1) ((insL L x).flatMap enL) → RPutE base w rb L x t Z (.returned (.int .i64 0)) (w6.setCell ⟨rb, 0, none⟩ (.slice a2 (m + 1) c2))) := Lib.hid (fun w6 a2 c2 hE6 ho => rput_new h'.out (hEY.trans hE6) hpc.out hpl.out hm2.out (own_mono ho hsY))
                  by_cases hck : oc = P
                  · have hdr2 : Hid (RowIs wc 4 (.slice oa 0 0) 0 ((restL L x.mark).flatMap enL)) := Lib.hid (by
                      have h := hdr.out
                      rw [show m - P = 0 by omega, show oc - P = 0 by omega] at h
                      unfold tailAddr at h
                      rw [if_pos hck] at h
                      exact h)
                    have hmP : oc + 1 + 0 = m + 1 := by omega
                    have hmP' := Lib.hid hmP
                    subst hck
                    clear hmP hdr hDr hTk
                    go_wp2_with (first | (refine wpList_append_cs (by rfl) (.tmp 81) (.tmp 87) 27 49 (by rfl) Tryz.underlying27 el_entry wc Y.heap.size (oc + 1) _ (.slice a1 (oc + 1) c1) (by rfl) ho1.out (.slice oa 0 0) 0 _ (by rfl) hdr2.out (enl_all _) (by omega) (by omega) hs1 ?_; go_loud (intro v2 w6 ho5 hb6; rw [hmP'.out, ← List.flatMap_append, ← hin.out] at ho5; have hZ6 : Ext Y w6 := Below.trans hZ1 hb6; have ho6 := Lib.hid ho5; have k6 := (hS.out w6 hZ6).1; have z6 := hrow.out w6 hZ6; clear ho5 hb6; obtain ⟨a2, c2, rfl, hq2⟩ := ho6.out.form; clear hq2)) | fail)
                    go_ret
                    exact hend.out _ _ _ hZ6 ho6.out
                  · have hta : tailAddr oa oc P 4 = Option.map (fun x => x.add (P * 4)) oa := by unfold tailAddr; rw [if_neg hck]
                    have hdr2 := hdr.out
                    rw [hta] at hdr2
                    have hdr3 := Lib.hid hdr2
                    have hmP' : Hid (P + 1 + (m - P) = m + 1) := Lib.hid (by omega)
                    clear hta hdr2 hdr hDr hTk
                    go_wp2_with (first | (refine wpList_append_cs (by rfl) (.tmp 81) (.tmp 87) 27 49 (by rfl) Tryz.underlying27 el_entry wc Y.heap.size (P + 1) _ (.slice a1 (P + 1) c1) (by rfl) ho1.out (.slice (Option.map (fun x => x.add (P * 4)) oa) (m - P) (oc - P)) (m - P) _ (by rfl) hdr3.out (enl_all _) (by omega) (by omega) hs1 ?_; go_loud (intro v2 w6 ho5 hb6; rw [hmP'.out, ← List.flatMap_append, ← hin.out] at ho5; have hZ6 : Ext Y w6 := Below.trans hZ1 hb6; have ho6 := Lib.hid ho5; have k6 := (hS.out w6 hZ6).1; have z6 := hrow.out w6 hZ6; clear ho5 hb6; obtain ⟨a2, c2, rfl, hq2⟩ := ho6.out.form; clear hq2)) | fail)
                    go_ret
                    exact hend.out _ _ _ hZ6 ho6.out
end
end Go.Proofs.YtfcpnkalcijflaaGreatDoor
