/- The document's state: keep. No condition. -/
import Derived.Test.YthageoibkeebhaaGreatDoorRn2
namespace Go.Proofs.YthageoibkeebhaaGreatDoor
open Go.RowKit
set_option maxRecDepth 100000
set_option maxHeartbeats 4000000
def saRow (x : Sa) (va : Option Addr) (vn vc : Nat) : Array Value := #[.int .u8 (x.cl : Int), .int .u32 (x.num : Int), .int .i64 x.e, .bool x.yes, .slice va vn vc]
theorem saRow_one (x : Sa) (va : Option Addr) (vn vc : Nat) : (saRow x va vn vc).all (·.oneCell') = true := by kernel_rfl
theorem sa_cells {x : Sa} {va : Option Addr} {vn vc : Nat} (h : x.v = .slice va vn vc) : x.cells = (saRow x va vn vc).toList := by unfold Sa.cells saRow; rw [h]
theorem sa_all {x : Sa} (h : ∃ a n c, x.v = .slice a n c) : ∀ u ∈ x.cells, u.oneCell' = true := fun u hu => by
  obtain ⟨a, n, c, h⟩ := h
  rw [sa_cells h] at hu
  exact Array.all_eq_true_iff_forall_mem.1 (saRow_one x a n c) u (by simpa using hu)
theorem sas_all {l : List Sa} (h : ∀ x ∈ l, ∃ a n c, x.v = .slice a n c) : ∀ u ∈ l.flatMap Sa.cells, u.oneCell' = true := fun u hu => by
  obtain ⟨x, hx, hu⟩ := List.mem_flatMap.1 hu
  exact sa_all (h x hx) u hu
theorem own_sl {w : World} {base : Nat} {e : TypeId} {z n : Nat} {v : Value} {xs : List Value} (h : OwnC w base e z v n xs) : ∃ a n c, v = .slice a n c := by
  obtain ⟨a, c, hv, _⟩ := h.form
  exact ⟨a, n, c, hv⟩
theorem el_said' : ElemIs Tryz.prog 87 5 48 := el_said
theorem sas_cut (l : List Sa) (k : Nat) : (l.flatMap Sa.cells).drop (k * 5) = (l.drop k).flatMap Sa.cells ∧ (l.flatMap Sa.cells).take (k * 5) = (l.take k).flatMap Sa.cells := by
  induction l generalizing k with
  | nil => simp
  | cons x r ih =>
    cases k with
    | zero => simp
    | succ k =>
      have hx : (Sa.cells x).length = 5 := rfl
      rw [List.flatMap_cons, List.drop_succ_cons, List.take_succ_cons, List.flatMap_cons, show (k + 1) * 5 = (Sa.cells x).length + k * 5 by rw [hx]; omega, List.drop_length_add_append, List.take_length_add_append, (ih k).1, (ih k).2]
      exact ⟨rfl, rfl⟩
theorem sas_range {w : World} {l : List Sa} {b off : Nat} (hd : ∀ i, i < l.length * 5 → w.cell? ⟨b, off + i, none⟩ = (l.flatMap Sa.cells)[i]?) {k : Nat} {x : Sa} (h : l[k]? = some x) : w.rangeAt b (off + k * 5) x.cells := fun r v hv => by
  have hr : r < 5 := (List.getElem?_eq_some_iff.1 hv).1
  have hk : k < l.length := (List.getElem?_eq_some_iff.1 h).1
  rw [Nat.add_assoc, hd (k * 5 + r) (by omega), flatMap_at Sa.cells 5 (by decide) (fun _ => rfl) l k x h r hr _ rfl]; exact hv
theorem keepS_mem {l : List Sa} {x p : Sa} (h : p ∈ keepS l x) : p = x ∨ p ∈ l := by
  unfold keepS at h
  rcases List.mem_append.1 h with h | h
  · exact .inr ((List.takeWhile_sublist _).subset h)
  · rcases List.mem_cons.1 h with h | h
    · exact .inl h
    · refine .inr ((List.dropWhile_sublist (lessS x.cl)).subset ?_)
      unfold pastS at h
      split at h
      · cases h
      · rename_i r q heq
        rw [heq]
        split at h
        · exact List.mem_cons_of_mem _ h
        · exact h
theorem run_sa_append {w : World} {g : Nat} {x : Sa} {va : Option Addr} {vn vc : Nat} (h : w.heap[g]? = some (.cells (saRow x va vn vc) 87 (0, 0))) : RowIs w 5 (.slice (some ⟨g, 0, none⟩) 1 1) 1 (saRow x va vn vc).toList :=
  OwnC.row (base := 0) (e := 87) ⟨rfl, .inr ⟨g, 1, saRow x va vn vc, rfl, Nat.zero_le _, h, Nat.le_refl _, by unfold maxLen; omega, Nat.le_refl _, rfl⟩⟩
theorem step_append_cs {P : Program} {ops : Array Oper} {o : Oper} {a : Act} {K : Act → World → Prop} {Q : Exit → Act → World → Prop} {E : Prop} (hg : Region.wanted o (yielded ops a.tmps) = true) (s x : Operand) (t e : TypeId)
    (ho : o.op = .call { callee := .builtin .append, args := #[s, x], argTypes := #[t, t] }) (ht : P.underlying t = some (.slice e)) {size bytes : Nat} (hel : ElemIs P e size bytes)
    (w : World) (base n : Nat) (xs : List Value) (v : Value) (hs : a.eval s = v) (hown : OwnC w base e size v n xs) (xv : Value) (m : Nat) (news : List Value)
    (hx : a.eval x = xv) (hr : RowIs w size xv m news) (h1 : ∀ u ∈ news, u.oneCell' = true) (hn : n + m < 9223372036854775807) (hb : (n + m) * bytes ≤ 140737488355328) (hbase : base ≤ w.heap.size)
    (h : ∀ v' w', OwnC w' base e size v' (n + m) (xs ++ news) → Below base w w' → K (a.put o.dst v') w') : if Region.wanted o (yielded ops a.tmps) = true then Oper.wp P o a w K Q else E := by
  rw [if_pos hg]
  exact wp_append_cs s x t e ho ht hel w base n xs v hs hown xv m news hx hr h1 hn hb hbase h
section
variable {base st : Nat} {w : World} {rows : List Rw} {sd : List Sa}
theorem ref_said (h : RefM base w st rows sd) {w6 : World} (hE : Ext w w6) {sd' : List Sa} (hsd : ∀ p ∈ sd', OwnC w6 base 84 2 p.v p.rows.length (p.rows.flatMap rwL)) {a2 : Option Addr} {c2 n : Nat} (hn : n = sd'.length) (ho : OwnC w6 w.heap.size 87 5 (.slice a2 n c2) n (sd'.flatMap Sa.cells)) : ChE base w st rows sd' (.returned (.tuple #[])) (w6.setCell ⟨st, 1, none⟩ (.slice a2 n c2)) := by
  subst hn
  obtain ⟨ra, rc, sa, sc, h1, h2, h3, h4, h5⟩ := h
  have hst := (Array.getElem?_eq_some_iff.1 h1).1
  have hr6 := hE.row h1
  have hO6 : OffB (fun k => k = st) w6 (w6.setCell ⟨st, 1, none⟩ (.slice a2 sd'.length c2)) := OffB.setCell (B := fun k => k = st) (OffB.refl _) (p := ⟨st, 1, none⟩) rfl _
  have hO : OffB (fun k => k = st) w (w6.setCell ⟨st, 1, none⟩ (.slice a2 sd'.length c2)) := (OffB.of_ext hE).trans hO6
  have hno : ∀ {e : TypeId} {z n : Nat} {v : Value} {xs : List Value}, e ≠ 112 → OwnC w6 base e z v n xs → OwnC (w6.setCell ⟨st, 1, none⟩ (.slice a2 sd'.length c2)) base e z v n xs := fun he hw => hw.offB hO6 (fun q hq hB => by
    obtain ⟨c, hc⟩ := own_ty hw hq
    have hB : q = st := hB
    rw [hB, hr6] at hc
    injection hc with hc
    injection hc with _ hc
    exact he hc.symm)
  have hb : base ≤ w.heap.size := by omega
  refine ⟨rfl, hO.below (fun k hk => by rw [hk]; exact h2) hb, hO, ra, rc, a2, c2, ?_, h2, hno (by decide) (h3.ext hE), hno (by decide) (ho.weak hb), fun p hp => hno (by decide) (hsd p hp)⟩
  rw [setCell_eq_setRow _ _ _ _ _ _ _ hr6, setRow_heap _ _ _ _ _ _ hr6]
  rfl
theorem RefM.vals (h : RefM base w st rows sd) : ∀ p ∈ sd, OwnC w base 84 2 p.v p.rows.length (p.rows.flatMap rwL) := by
  obtain ⟨ra, rc, sa, sc, h1, h2, h3, h4, h5⟩ := h
  exact h5
theorem keepR_any (h : RefM base w st rows sd) (hl : sd.length ≤ 1000000) (x : Sa) (va : Option Addr) (vn vc : Nat) (hxv : x.v = .slice va vn vc) (hxo : OwnC w base 84 2 x.v x.rows.length (x.rows.flatMap rwL)) : Calls Tryz.prog 49 #[.pointer (some ⟨st, 0, none⟩), .agg (saRow x va vn vc)] w (ChE base w st rows (keepS sd x)) := by
  obtain ⟨ra, rc, sa, sc, hcell, _, hR, _, ⟨hmc, hcx⟩⟩ := h.sees
  obtain ⟨X, hX⟩ : ∃ X, X = w.heap.size := ⟨_, rfl⟩
  obtain ⟨V, hV⟩ : ∃ W, W = w.alloc (.cells (saRow x va vn vc) 87) := ⟨_, rfl⟩
  have hE0 : Ext w V := by rw [hV]; exact (Ext.refl _).alloc _
  have hxr : Hid (∀ W, Ext V W → W.cell? ⟨X, 0, none⟩ = some (.int .u8 (x.cl : Int)) ∧ W.cell? ⟨X, 1, none⟩ = some (.int .u32 (x.num : Int)) ∧ W.cell? ⟨X, 2, none⟩ = some (.int .i64 x.e) ∧ W.cell? ⟨X, 3, none⟩ = some (.bool x.yes) ∧ W.cell? ⟨X, 4, none⟩ = some (.slice va vn vc)) := Lib.hid (fun W hE => by
    have h1 : W.heap[X]? = some (.cells (saRow x va vn vc) 87 (0, 0)) := hE.row (by rw [hV, hX]; exact heap_alloc_new w _)
    exact ⟨by rw [cell_of_row _ _ _ _ _ _ h1]; rfl, by rw [cell_of_row _ _ _ _ _ _ h1]; rfl, by rw [cell_of_row _ _ _ _ _ _ h1]; rfl, by rw [cell_of_row _ _ _ _ _ _ h1]; rfl, by rw [cell_of_row _ _ _ _ _ _ h1]; rfl⟩)
  obtain ⟨m, hm0⟩ : ∃ n, n = sd.length := ⟨_, rfl⟩
  rw [← hm0] at hcell hR hmc hl
  have hm := Lib.hid hm0
  have hc' : Hid (∀ W, Ext w W → W.cell? ⟨st, 1, none⟩ = some (.slice sa m sc) ∧ W.frozen? ⟨st, 1, none⟩ = false) := Lib.hid (fun W hE => ⟨(hcell W hE).2.1, (hcell W hE).2.2.2⟩)
  have hR' := Lib.hid hR
  have hvs' : Hid (∀ p ∈ sd, ∃ a n c, p.v = .slice a n c) := Lib.hid (fun p hp => own_sl (h.vals p hp))
  have hnew : Hid (∀ W, Ext w W → ∀ p ∈ keepS sd x, OwnC W base 84 2 p.v p.rows.length (p.rows.flatMap rwL)) := Lib.hid (fun W hE p hp => by
    rcases keepS_mem hp with rfl | hp
    · exact hxo.ext hE
    · exact (h.vals p hp).ext hE)
  have h' := Lib.hid h
  have hV' := Lib.hid hV
  have hX' := Lib.hid hX
  obtain ⟨P, hP⟩ : ∃ P, P = (sd.takeWhile (lessS x.cl)).length := ⟨_, rfl⟩
  have hPm : P ≤ m := by rw [hP, hm.out]; exact tw_le _ _
  have hP' := Lib.hid hP
  have hxv' := Lib.hid hxv
  clear hcell hR h hV hX hm0 hP hxo hxv
  unfold saRow at hV' ⊢
  go_enter Tryz.func49, Tryz.ntmps49
  go_upto_block 0 with fail
  rw [← hV'.out, ← hX'.out]
  go_cut [5] from 6 to 27 (fun t wx => t = .int .i64 (P : Int) ∧ Ext V wx)
  case first =>
    go_wp2_with fail
    go_loopw [5] (fun t wr => ∃ j : Nat, t = .int .i64 j ∧ j ≤ P ∧ Ext V wr) (fun t _ => m - (intOf t).toNat)
    case atStart => exact ⟨0, rfl, by omega, Ext.refl _⟩
    case round =>
      obtain ⟨j, rfl, hj, hEj⟩ := hrel
      have hwj := hE0.trans hEj
      have c1 := (hc'.out wr hwj).1
      have c2 := (hxr.out wr hEj).1
      by_cases hjm : j < m
      · have hji : (j : Int) < (m : Int) := by omega
        obtain ⟨y, hy⟩ : ∃ y, sd[j]? = some y := ⟨_, List.getElem?_eq_getElem (by rw [← hm.out]; exact hjm)⟩
        obtain ⟨ob, oo, hat⟩ := (hR'.out wr hwj).at
        obtain ⟨rfl, _, hdy⟩ := hat (by omega)
        have p := sas_range (by rw [← hm.out]; exact hdy) hy 0 (.int .u8 (y.cl : Int)) rfl
        rw [Nat.add_zero] at p
        have hy' := Lib.hid hy
        clear hat hdy hy
        go_upto_region 3 with fail
        refine bqRegion (Ext wr) (by kernel_rfl) (by kernel_rfl) (Ext.refl _).drew ?_
        iterate 4 (refine bqStep (fun K hK => ?_); go_simp; first | (refine hK _ ?_; clear hK K) | (refine ⟨_, fun _ _ => rfl, hK _ ?_⟩; clear hK K))
        refine bqCell (by rfl) 23 _ (by rfl) st (1) (by rfl) _ (fun w' h => h.cell c1) _ Tryz.underlying23 rfl ?_
        simp only [Act.put, List.setIfInBounds_toArray, List.set_cons_zero, List.set_cons_succ]
        iterate 6 (refine bqStep (fun K hK => ?_); go_simp; first | (refine hK _ ?_; clear hK K) | (refine ⟨_, fun _ _ => rfl, hK _ ?_⟩; clear hK K))
        refine bqCell (by rfl) 23 _ (by rfl) st (1) (by rfl) _ (fun w' h => h.cell c1) _ Tryz.underlying23 rfl ?_
        simp only [Act.put, List.setIfInBounds_toArray, List.set_cons_zero, List.set_cons_succ]
        iterate 3 (refine bqStep (fun K hK => ?_); go_simp; first | (refine hK _ ?_; clear hK K) | (refine ⟨_, fun _ _ => rfl, hK _ ?_⟩; clear hK K))
        refine bqCell (by rfl) 5 _ (by rfl) ob (oo + j * 5) (by rfl) _ (fun w' h => h.cell p) _ Tryz.underlying5 rfl ?_
        simp only [Act.put, List.setIfInBounds_toArray, List.set_cons_zero, List.set_cons_succ]
        iterate 1 (refine bqStep (fun K hK => ?_); go_simp; first | (refine hK _ ?_; clear hK K) | (refine ⟨_, fun _ _ => rfl, hK _ ?_⟩; clear hK K))
        refine bqCell (by rfl) 5 _ (by rfl) X (0) (by rfl) _ (fun w' h => h.cell c2) _ Tryz.underlying5 rfl ?_
        simp only [Act.put, List.setIfInBounds_toArray, List.set_cons_zero, List.set_cons_succ]
        iterate 2 (refine bqStep (fun K hK => ?_); go_simp; first | (refine hK _ ?_; clear hK K) | (refine ⟨_, fun _ _ => rfl, hK _ ?_⟩; clear hK K))
        refine bqNil (fun w5 hE5 => ?_)
        have hE6 := hEj.trans hE5
        clear p c1 c2
        by_cases hlt2 : y.cl < x.cl
        · have hli : (y.cl : Int) < (x.cl : Int) := by omega
          have hd0 : decide ((y.cl : Int) < (x.cl : Int)) = true := decide_eq_true hli
          have hjP : j + 1 ≤ P := by
            rcases Nat.lt_or_ge j P with h | h
            · exact h
            · have h1 := tw_end (lessS x.cl) sd y (by rw [← hP'.out, show P = j by omega]; exact hy'.out)
              unfold lessS at h1
              rw [decide_eq_true hlt2] at h1; cases h1
          go_wp2_with fail
          go_roundw
          case rel => exact ⟨j + 1, by go_num, hjP, hE6⟩
          case measure => simp [intOf]; omega
        · have hli : ¬ (y.cl : Int) < (x.cl : Int) := by omega
          have hd0 : decide ((y.cl : Int) < (x.cl : Int)) = false := decide_eq_false hli
          have hjP : j = P := by
            rcases Nat.lt_or_ge j P with h | h
            · obtain ⟨z, hz, hzl⟩ := tw_at (lessS x.cl) sd j (by rw [← hP'.out]; exact h)
              rw [hy'.out] at hz
              injection hz with hz
              unfold lessS at hzl
              rw [← hz, decide_eq_false hlt2] at hzl; cases hzl
            · omega
          have hjP' := Lib.hid hjP
          clear hjP
          go_wp2_with fail
          go_meet
          exact ⟨by rw [hjP'.out], hE6⟩
      · have hji : ¬ (j : Int) < (m : Int) := by omega
        have hjP : Hid (j = P) := Lib.hid (by omega)
        go_upto_region 3 with fail
        refine bqRegion (Ext wr) (by kernel_rfl) (by kernel_rfl) (Ext.refl _).drew ?_
        iterate 4 (refine bqStep (fun K hK => ?_); go_simp; first | (refine hK _ ?_; clear hK K) | (refine ⟨_, fun _ _ => rfl, hK _ ?_⟩; clear hK K))
        refine bqCell (by rfl) 23 _ (by rfl) st (1) (by rfl) _ (fun w' h => h.cell c1) _ Tryz.underlying23 rfl ?_
        simp only [Act.put, List.setIfInBounds_toArray, List.set_cons_zero, List.set_cons_succ]
        iterate 3 (refine bqStep (fun K hK => ?_); go_simp; first | (refine hK _ ?_; clear hK K) | (refine ⟨_, fun _ _ => rfl, hK _ ?_⟩; clear hK K))
        iterate 11 (refine bqSkip (by rfl) ?_; simp only [Act.put, List.setIfInBounds_toArray, List.set_cons_zero, List.set_cons_succ])
        iterate 1 (refine bqStep (fun K hK => ?_); go_simp; first | (refine hK _ ?_; clear hK K) | (refine ⟨_, fun _ _ => rfl, hK _ ?_⟩; clear hK K))
        refine bqNil (fun w5 hE5 => ?_)
        go_wp2_with fail
        go_meet
        exact ⟨by rw [hjP.out], hEj.trans hE5⟩
  case rest =>
    obtain ⟨rfl, hE7⟩ := hcut
    obtain ⟨Y, hY⟩ : ∃ Y, Hid (wc = Y) := ⟨wc, Lib.hid rfl⟩
    have hEY : Ext V Y := by rw [← hY.out]; exact hE7
    have hwY : Ext w Y := hE0.trans hEY
    have hsY := hwY.size
    have hPc : P ≤ sc := by omega
    have htw := Lib.hid (tw_take (lessS x.cl) sd)
    have hTk : Hid (∀ W, Ext Y W → RowIs W 5 (.slice sa P sc) P ((sd.takeWhile (lessS x.cl)).flatMap Sa.cells)) := Lib.hid (fun W hE => by
      have h2 := (hR'.out W (hwY.trans hE)).take hPm
      rw [(sas_cut sd P).2] at h2
      have h3 := htw.out.1
      rw [← hP'.out] at h3
      rw [h3] at h2
      exact h2)
    have hS : Hid (∀ W, Ext Y W → W.cell? ⟨st, 1, none⟩ = some (.slice sa m sc) ∧ W.cell? ⟨X, 0, none⟩ = some (.int .u8 (x.cl : Int)) ∧ W.cell? ⟨X, 1, none⟩ = some (.int .u32 (x.num : Int)) ∧ W.cell? ⟨X, 2, none⟩ = some (.int .i64 x.e) ∧ W.cell? ⟨X, 3, none⟩ = some (.bool x.yes) ∧ W.cell? ⟨X, 4, none⟩ = some (.slice va vn vc)) := Lib.hid (fun W hE => ⟨(hc'.out W (hwY.trans hE)).1, hxr.out W (hEY.trans hE)⟩)
    have hF : Hid (∀ W, Ext Y W → W.frozen? ⟨st, 1, none⟩ = false) := Lib.hid (fun W hE => (hc'.out W (hwY.trans hE)).2)
    have hsa : Hid (∀ u ∈ (sd.takeWhile (lessS x.cl)).flatMap Sa.cells, u.oneCell' = true) := Lib.hid (sas_all fun p hp => hvs'.out p ((List.takeWhile_sublist _).subset hp))
    have hxa : Hid (∀ u ∈ (saRow x va vn vc).toList, u.oneCell' = true) := Lib.hid (by rw [← sa_cells hxv'.out]; exact sa_all ⟨_, _, _, hxv'.out⟩)
    go_upto_region 5 with fail
    go_cut [4] from 28 to 38 (fun v wx => ∃ a1 c1, v = .slice a1 (P + 1) c1 ∧ Hid (OwnC wx Y.heap.size 87 5 (.slice a1 (P + 1) c1) (P + 1) ((sd.takeWhile (lessS x.cl) ++ [x]).flatMap Sa.cells)) ∧ Ext Y wx)
    case first =>
      rw [hY.out]
      go_region_held3 (fun w' => w'.cell? ⟨st, 1, none⟩ = some (.slice sa m sc) ∧ w'.cell? ⟨X, 0, none⟩ = some (.int .u8 (x.cl : Int)) ∧ w'.cell? ⟨X, 1, none⟩ = some (.int .u32 (x.num : Int)) ∧ w'.cell? ⟨X, 2, none⟩ = some (.int .i64 x.e) ∧ w'.cell? ⟨X, 3, none⟩ = some (.bool x.yes) ∧ w'.cell? ⟨X, 4, none⟩ = some (.slice va vn vc)) ((refine hS.out _ ?_; first | exact (Ext.refl _).drew | exact (Ext.refl _).drew.alloc _ | exact ((Ext.refl _).alloc _).drew | assumption | exact Ext.alloc (by assumption) _)) (first | ((refine step_append_cs rfl (.tmp 28) (.tmp 34) 23 87 rfl Tryz.underlying23 el_said _ _ 0 [] (.slice none 0 0) (by rfl) (OwnC.nil _ _ _ _) (.slice sa P sc) P _ (by rfl) (hTk.out _ (by first | exact (Ext.refl _).drew | exact (Ext.refl _).drew.alloc _)) hsa.out (by omega) (by omega) (Nat.le_refl _) ?_); (intro v1 w1 hown1 hb1; rw [Nat.zero_add, List.nil_append] at hown1; have hZ1 : Ext Y w1 := (by first | exact (Ext.refl Y).drew.trans hb1 | exact ((Ext.refl Y).drew.alloc _).trans hb1); have ho1 := Lib.hid (OwnC.weak hown1 (base := Y.heap.size) (by first | exact ((Ext.refl Y).drew).size | exact ((Ext.refl Y).drew.alloc _).size)); have hs1 := hZ1.size; have hb1' := Lib.hid hb1; clear hown1 hb1; obtain ⟨a1, c1, rfl, hq1⟩ := ho1.out.form; clear hq1)) | ((refine step_append_c rfl (.tmp 35) (.tmp 37) 23 87 rfl Tryz.underlying23 el_said w1 Y.heap.size P _ (.slice a1 P c1) (by rfl) ho1.out (saRow x va vn vc) (by rfl) (by rfl) hxa.out (by omega) (by omega) hs1 ?_); (intro v2 w6 hA; have ho6 := Lib.hid hA.own; have hZ6 : Ext Y w6 := Below.trans hZ1 hA.below; clear hA; obtain ⟨a2, c2, rfl, hq2⟩ := ho6.out.form; clear hq2)) | ((refine step_append_cs rfl (.tmp 35) (.tmp 37) 23 87 rfl Tryz.underlying23 el_said w1 Y.heap.size P _ (.slice a1 P c1) (by rfl) ho1.out (.slice (some ⟨Y.drew.heap.size, 0, none⟩) 1 1) 1 (saRow x va vn vc).toList (by rfl) (run_sa_append (Ext.row hb1'.out (heap_alloc_new Y.drew _))) hxa.out (by omega) (by omega) hs1 ?_); (intro v2 w6 ho5 hb6; have ho6 := Lib.hid ho5; have hZ6 : Ext Y w6 := Below.trans hZ1 hb6; clear ho5 hb6; obtain ⟨a2, c2, rfl, hq2⟩ := ho6.out.form; clear hq2)) | fail)
      all_goals
        go_wp2_with fail
        go_meet
        exact ⟨a2, c2, rfl, Lib.hid (by rw [List.flatMap_append, List.flatMap_singleton, sa_cells hxv'.out]; exact ho6.out), hZ6⟩
    case rest =>
      obtain ⟨a1, d1, rfl, ho1, hZ1⟩ := hcut
      obtain ⟨Z, hZ⟩ : ∃ Z, Hid (wc = Z) := ⟨wc, Lib.hid rfl⟩
      rw [hZ.out] at ho1 hZ1
      obtain ⟨Q, hQ⟩ : ∃ Q, Q = (match sd[P]? with | none => P | some y => if y.cl = x.cl then P + 1 else P) := ⟨_, rfl⟩
      have hQd : Hid (pastS x.cl (sd.dropWhile (lessS x.cl)) = sd.drop Q) := Lib.hid (by
        have h1 := htw.out.2
        rw [← hP'.out] at h1
        rw [← h1]
        cases hy : sd[P]? with
        | none =>
          rw [hy] at hQ
          have hQ : Q = P := hQ
          rw [hQ, List.drop_of_length_le (by have := List.getElem?_eq_none_iff.1 hy; omega)]
          rfl
        | some y =>
          rw [hy] at hQ
          obtain ⟨hlt, he⟩ := List.getElem?_eq_some_iff.1 hy
          rw [List.drop_eq_getElem_cons hlt, he]
          have hQ : Q = if y.cl = x.cl then P + 1 else P := hQ
          unfold pastS
          by_cases hk : y.cl = x.cl
          · rw [if_pos hk] at hQ; rw [hQ]; exact if_pos hk
          · rw [if_neg hk] at hQ; rw [hQ, List.drop_eq_getElem_cons hlt, he]; exact if_neg hk)
      have hQm : Q ≤ m := by
        cases hy : sd[P]? with
        | none =>
          rw [hy] at hQ
          have hQ : Q = P := hQ
          omega
        | some y =>
          rw [hy] at hQ
          have hlt := (List.getElem?_eq_some_iff.1 hy).1
          rw [← hm.out] at hlt
          have hQ : Q = if y.cl = x.cl then P + 1 else P := hQ
          split at hQ <;> omega
      have hQ' := Lib.hid hQ
      clear hQ
      go_upto_region 6 with fail
      go_cut [58] from 39 to 57 (fun t wx => t = .bool (decide (Q ≠ P)) ∧ Ext Z wx)
      case first =>
        have hUc : Ext Z wc := by rw [hZ.out]; exact Ext.refl _
        have hYc := hZ1.trans hUc
        obtain ⟨c1, c2, _⟩ := hS.out wc hYc
        by_cases hjm : P < m
        · have hji : (P : Int) < (m : Int) := by omega
          obtain ⟨y, hy⟩ : ∃ y, sd[P]? = some y := ⟨_, List.getElem?_eq_getElem (by rw [← hm.out]; exact hjm)⟩
          obtain ⟨ob, oo, hat⟩ := (hR'.out wc (hwY.trans hYc)).at
          obtain ⟨rfl, _, hdy⟩ := hat (by omega)
          have p := sas_range (by rw [← hm.out]; exact hdy) hy 0 (.int .u8 (y.cl : Int)) rfl
          rw [Nat.add_zero] at p
          have hQe : Hid (decide (Q ≠ P) = ((y.cl : Int) == (x.cl : Int))) := Lib.hid (by
            have h5 := hQ'.out
            rw [hy] at h5
            have h5 : Q = if y.cl = x.cl then P + 1 else P := h5
            by_cases hk : y.cl = x.cl
            · rw [if_pos hk] at h5; rw [beq_iff_eq.2 (show (y.cl : Int) = (x.cl : Int) by omega)]; exact decide_eq_true (by omega)
            · rw [if_neg hk] at h5; rw [beq_eq_false_iff_ne.2 (show (y.cl : Int) ≠ (x.cl : Int) by omega)]; exact decide_eq_false (by omega))
          clear hat hdy hy
          refine bqRegion (Ext wc) (by kernel_rfl) (by kernel_rfl) (Ext.refl _).drew ?_
          iterate 4 (refine bqStep (fun K hK => ?_); go_simp; first | (refine hK _ ?_; clear hK K) | (refine ⟨_, fun _ _ => rfl, hK _ ?_⟩; clear hK K))
          refine bqCell (by rfl) 23 _ (by rfl) st (1) (by rfl) _ (fun w' h => h.cell c1) _ Tryz.underlying23 rfl ?_
          simp only [Act.put, List.setIfInBounds_toArray, List.set_cons_zero, List.set_cons_succ]
          iterate 6 (refine bqStep (fun K hK => ?_); go_simp; first | (refine hK _ ?_; clear hK K) | (refine ⟨_, fun _ _ => rfl, hK _ ?_⟩; clear hK K))
          refine bqCell (by rfl) 23 _ (by rfl) st (1) (by rfl) _ (fun w' h => h.cell c1) _ Tryz.underlying23 rfl ?_
          simp only [Act.put, List.setIfInBounds_toArray, List.set_cons_zero, List.set_cons_succ]
          iterate 3 (refine bqStep (fun K hK => ?_); go_simp; first | (refine hK _ ?_; clear hK K) | (refine ⟨_, fun _ _ => rfl, hK _ ?_⟩; clear hK K))
          refine bqCell (by rfl) 5 _ (by rfl) ob (oo + P * 5) (by rfl) _ (fun w' h => h.cell p) _ Tryz.underlying5 rfl ?_
          simp only [Act.put, List.setIfInBounds_toArray, List.set_cons_zero, List.set_cons_succ]
          iterate 1 (refine bqStep (fun K hK => ?_); go_simp; first | (refine hK _ ?_; clear hK K) | (refine ⟨_, fun _ _ => rfl, hK _ ?_⟩; clear hK K))
          refine bqCell (by rfl) 5 _ (by rfl) X (0) (by rfl) _ (fun w' h => h.cell c2) _ Tryz.underlying5 rfl ?_
          simp only [Act.put, List.setIfInBounds_toArray, List.set_cons_zero, List.set_cons_succ]
          iterate 2 (refine bqStep (fun K hK => ?_); go_simp; first | (refine hK _ ?_; clear hK K) | (refine ⟨_, fun _ _ => rfl, hK _ ?_⟩; clear hK K))
          refine bqNil (fun w5 hE5 => ?_)
          clear p c1 c2
          go_wp2_with fail
          go_meet
          exact ⟨by rw [hQe.out], hUc.trans hE5⟩
        · have hji : ¬ (P : Int) < (m : Int) := by omega
          have hQ2 : Hid (decide (Q ≠ P) = false) := Lib.hid (by
            have h5 := hQ'.out
            rw [List.getElem?_eq_none (by rw [← hm.out]; omega)] at h5
            have h5 : Q = P := h5
            exact decide_eq_false (by omega))
          refine bqRegion (Ext wc) (by kernel_rfl) (by kernel_rfl) (Ext.refl _).drew ?_
          iterate 4 (refine bqStep (fun K hK => ?_); go_simp; first | (refine hK _ ?_; clear hK K) | (refine ⟨_, fun _ _ => rfl, hK _ ?_⟩; clear hK K))
          refine bqCell (by rfl) 23 _ (by rfl) st (1) (by rfl) _ (fun w' h => h.cell c1) _ Tryz.underlying23 rfl ?_
          simp only [Act.put, List.setIfInBounds_toArray, List.set_cons_zero, List.set_cons_succ]
          iterate 3 (refine bqStep (fun K hK => ?_); go_simp; first | (refine hK _ ?_; clear hK K) | (refine ⟨_, fun _ _ => rfl, hK _ ?_⟩; clear hK K))
          iterate 11 (refine bqSkip (by rfl) ?_; simp only [Act.put, List.setIfInBounds_toArray, List.set_cons_zero, List.set_cons_succ])
          iterate 1 (refine bqStep (fun K hK => ?_); go_simp; first | (refine hK _ ?_; clear hK K) | (refine ⟨_, fun _ _ => rfl, hK _ ?_⟩; clear hK K))
          refine bqNil (fun w5 hE5 => ?_)
          go_wp2_with fail
          go_meet
          exact ⟨by rw [hQ2.out], hUc.trans hE5⟩
      case rest =>
        obtain ⟨rfl, hE8⟩ := hcut
        have hYx := hZ1.trans hE8
        have ho2 := Lib.hid (ho1.out.ext hE8)
        obtain ⟨k0, _⟩ := hS.out wc hYx
        have z0 := hF.out wc hYx
        have hs1 := hYx.size
        have hQc : Q ≤ sc := by omega
        have hdr := Lib.hid (by
          have h2 := (hR'.out wc (hwY.trans hYx)).drop Q
          rw [(sas_cut sd Q).1] at h2
          exact h2)
        obtain ⟨nn, hnn⟩ : ∃ n, n = P + 1 + (m - Q) := ⟨_, rfl⟩
        have hka : Hid (keepS sd x = (sd.takeWhile (lessS x.cl) ++ [x]) ++ sd.drop Q) := Lib.hid (by
          unfold keepS
          rw [hQd.out]
          simp)
        have hfl : Hid (((sd.takeWhile (lessS x.cl) ++ [x]).flatMap Sa.cells) ++ (sd.drop Q).flatMap Sa.cells = (keepS sd x).flatMap Sa.cells) := Lib.hid (by rw [← List.flatMap_append, hka.out])
        have hnl : Hid (nn = (keepS sd x).length) := Lib.hid (by
          rw [hnn, hka.out, List.length_append, List.length_append, List.length_drop, ← hP'.out, ← hm.out]
          rfl)
        have hda : Hid (∀ u ∈ (sd.drop Q).flatMap Sa.cells, u.oneCell' = true) := Lib.hid (sas_all fun p hp => hvs'.out p ((List.drop_sublist _ _).subset hp))
        have hend : Hid (∀ (w6 : World) (a2 : Option Addr) (c2 : Nat), Ext Y w6 → OwnC w6 Y.heap.size 87 5 (.slice a2 nn c2) nn ((keepS sd x).flatMap Sa.cells) → ChE base w st rows (keepS sd x) (.returned (.tuple #[])) (w6.setCell ⟨st, 1, none⟩ (.slice a2 nn c2))) := Lib.hid (fun w6 a2 c2 hE6 ho => ref_said h'.out (hwY.trans hE6) (hnew.out w6 (hwY.trans hE6)) hnl.out (ho.weak hsY))
        have hQPe : Hid (Q = P ∨ Q = P + 1) := Lib.hid (by
          have h5 := hQ'.out
          cases hy : sd[P]? with
          | none => rw [hy] at h5; exact .inl h5
          | some y =>
            rw [hy] at h5
            have h5 : Q = if y.cl = x.cl then P + 1 else P := h5
            split at h5
            · exact .inr h5
            · exact .inl h5)
        by_cases hQP : Q = P
        · have hqd : decide (Q ≠ P) = false := decide_eq_false (by omega)
          rw [hqd]
          subst hQP
          by_cases hck2 : sc = Q
          · have hdr2 : Hid (RowIs wc 5 (.slice sa 0 0) 0 ((sd.drop (Q)).flatMap Sa.cells)) := Lib.hid (by
              have h := hdr.out
              rw [show m - (Q) = 0 by omega, show sc - (Q) = 0 by omega] at h
              unfold tailAddr at h
              rw [if_pos hck2] at h
              exact h)
            have hmP' : Hid (Q + 1 + 0 = nn) := Lib.hid (by omega)
            subst hck2
            clear hdr hTk hnn
            go_wp2_with (first | (refine wpList_append_cs (by rfl) (.tmp 62) (.tmp 68) 23 87 (by rfl) Tryz.underlying23 el_said wc Y.heap.size (sc + 1) _ (.slice a1 (sc + 1) d1) (by rfl) ho2.out (.slice sa 0 0) 0 _ (by rfl) hdr2.out hda.out (by omega) (by omega) hs1 ?_; go_loud (intro v2 w6 ho5 hb6; rw [hfl.out, hmP'.out] at ho5; have hZ6 : Ext Y w6 := Below.trans hYx hb6; have ho6 := Lib.hid ho5; have k6 := (hS.out w6 hZ6).1; have z6 := hF.out w6 hZ6; clear ho5 hb6; obtain ⟨a2, c2, rfl, hq2⟩ := ho6.out.form; clear hq2)) | fail)
            go_end0
            exact hend.out _ _ _ hZ6 ho6.out
          · have hta : tailAddr sa sc (Q) 5 = Option.map (fun x => x.add ((Q) * 5)) sa := by unfold tailAddr; rw [if_neg hck2]
            have hdr2 := hdr.out
            rw [hta] at hdr2
            have hdr3 := Lib.hid hdr2
            have hmP' : Hid (Q + 1 + (m - (Q)) = nn) := Lib.hid (by omega)
            clear hta hdr2 hdr hTk hnn
            go_wp2_with (first | (refine wpList_append_cs (by rfl) (.tmp 62) (.tmp 68) 23 87 (by rfl) Tryz.underlying23 el_said wc Y.heap.size (Q + 1) _ (.slice a1 (Q + 1) d1) (by rfl) ho2.out (.slice (Option.map (fun x => x.add ((Q) * 5)) sa) (m - (Q)) (sc - (Q))) (m - (Q)) _ (by rfl) hdr3.out hda.out (by omega) (by omega) hs1 ?_; go_loud (intro v2 w6 ho5 hb6; rw [hfl.out, hmP'.out] at ho5; have hZ6 : Ext Y w6 := Below.trans hYx hb6; have ho6 := Lib.hid ho5; have k6 := (hS.out w6 hZ6).1; have z6 := hF.out w6 hZ6; clear ho5 hb6; obtain ⟨a2, c2, rfl, hq2⟩ := ho6.out.form; clear hq2)) | fail)
            go_end0
            exact hend.out _ _ _ hZ6 ho6.out
        · have hqd : decide (Q ≠ P) = true := decide_eq_true hQP
          rw [hqd]
          have hQ1 : Q = P + 1 := by rcases hQPe.out with h | h; exact absurd h hQP; exact h
          subst hQ1
          by_cases hck2 : sc = P + 1
          · have hdr2 : Hid (RowIs wc 5 (.slice sa 0 0) 0 ((sd.drop (P + 1)).flatMap Sa.cells)) := Lib.hid (by
              have h := hdr.out
              rw [show m - (P + 1) = 0 by omega, show sc - (P + 1) = 0 by omega] at h
              unfold tailAddr at h
              rw [if_pos hck2] at h
              exact h)
            have hmP' : Hid (P + 1 + 0 = nn) := Lib.hid (by omega)
            subst hck2
            clear hdr hTk hnn
            go_wp2_with (first | (refine wpList_append_cs (by rfl) (.tmp 62) (.tmp 68) 23 87 (by rfl) Tryz.underlying23 el_said wc Y.heap.size (P + 1) _ (.slice a1 (P + 1) d1) (by rfl) ho2.out (.slice sa 0 0) 0 _ (by rfl) hdr2.out hda.out (by omega) (by omega) hs1 ?_; go_loud (intro v2 w6 ho5 hb6; rw [hfl.out, hmP'.out] at ho5; have hZ6 : Ext Y w6 := Below.trans hYx hb6; have ho6 := Lib.hid ho5; have k6 := (hS.out w6 hZ6).1; have z6 := hF.out w6 hZ6; clear ho5 hb6; obtain ⟨a2, c2, rfl, hq2⟩ := ho6.out.form; clear hq2)) | fail)
            go_end0
            exact hend.out _ _ _ hZ6 ho6.out
          · have hta : tailAddr sa sc (P + 1) 5 = Option.map (fun x => x.add ((P + 1) * 5)) sa := by unfold tailAddr; rw [if_neg hck2]
            have hdr2 := hdr.out
            rw [hta] at hdr2
            have hdr3 := Lib.hid hdr2
            have hmP' : Hid (P + 1 + (m - (P + 1)) = nn) := Lib.hid (by omega)
            clear hta hdr2 hdr hTk hnn
            go_wp2_with (first | (refine wpList_append_cs (by rfl) (.tmp 62) (.tmp 68) 23 87 (by rfl) Tryz.underlying23 el_said wc Y.heap.size (P + 1) _ (.slice a1 (P + 1) d1) (by rfl) ho2.out (.slice (Option.map (fun x => x.add ((P + 1) * 5)) sa) (m - (P + 1)) (sc - (P + 1))) (m - (P + 1)) _ (by rfl) hdr3.out hda.out (by omega) (by omega) hs1 ?_; go_loud (intro v2 w6 ho5 hb6; rw [hfl.out, hmP'.out] at ho5; have hZ6 : Ext Y w6 := Below.trans hYx hb6; have ho6 := Lib.hid ho5; have k6 := (hS.out w6 hZ6).1; have z6 := hF.out w6 hZ6; clear ho5 hb6; obtain ⟨a2, c2, rfl, hq2⟩ := ho6.out.form; clear hq2)) | fail)
            go_end0
            exact hend.out _ _ _ hZ6 ho6.out
end
end Go.Proofs.YthageoibkeebhaaGreatDoor
