/- The document's state: twin, change. No condition. -/
import Derived.Test.YthageoibkeebhaaGreatDoorGrO
import Derived.Test.YthageoibkeebhaaGreatDoorGrKit
import Derived.Test.YthageoibkeebhaaGreatDoorTwC
import Derived.Deep.CutBlock
import Derived.Deep.RegionHeld3
namespace Go.Proofs.YthageoibkeebhaaGreatDoor
open Go.RowKit
set_option maxRecDepth 100000
set_option maxHeartbeats 4000000
/-- A reply's twin: its rows in memory of the call's own. -/
def TwinE (i : Int) (b : Bool) (l : List Rw) (w : World) (e : Ending) (w' : World) : Prop := ∃ a cap, e = .returned (.agg (reH i b (.slice a l.length cap))) ∧ OwnC w' w.heap.size 84 2 (.slice a l.length cap) l.length (l.flatMap rwL) ∧ Ext w w'
theorem twinR_any (w : World) (i : Int) (b : Bool) (l : List Rw) (a : Option Addr) (cap : Nat) (hr : RowIs w 2 (.slice a l.length cap) l.length (l.flatMap rwL)) (hn : l.length ≤ 1000000) :
    Calls Tryz.prog 48 #[.agg (reH i b (.slice a l.length cap))] w (TwinE i b l w) := by
  obtain ⟨n, hnn⟩ : ∃ n, n = l.length := ⟨_, rfl⟩
  unfold TwinE
  rw [← hnn] at hr hn ⊢
  have h1 := rws_one l
  obtain ⟨xs, hxs⟩ : ∃ xs, xs = l.flatMap rwL := ⟨_, rfl⟩
  rw [← hxs] at hr h1 ⊢
  obtain ⟨W, hW⟩ : ∃ W, W = (w.alloc (.cells (reH i b (.slice a n cap)) 74)).alloc (.cells zRe 74) := ⟨_, rfl⟩
  have hE : Ext w W := by rw [hW]; exact ((Ext.refl _).alloc _).alloc _
  have hX : W.heap[w.heap.size]? = some (.cells (reH i b (.slice a n cap)) 74 (0, 0)) := by rw [hW]; exact ((Ext.refl _).alloc _).row (heap_alloc_new w _)
  have hR : W.heap[w.heap.size + 1]? = some (.cells zRe 74 (0, 0)) := by
    have h1 := heap_alloc_new (w.alloc (.cells (reH i b (.slice a n cap)) 74)) (.cells zRe 74)
    rw [show (w.alloc (.cells (reH i b (.slice a n cap)) 74)).heap.size = w.heap.size + 1 by simp] at h1
    rw [hW]; exact h1
  have hWs : W.heap.size = w.heap.size + 2 := by rw [hW]; simp
  have hr' := Lib.hid (hr.ext hE)
  have hW' := Lib.hid hW
  have hX' := Lib.hid hX
  have hR' := Lib.hid hR
  clear hW hX hR hr hnn hxs
  unfold reH zRe at hW'
  unfold reH
  go_enter Tryz.func48, Tryz.ntmps48
  go_upto_region 1 with fail
  rw [← hW'.out]
  clear hW'
  obtain ⟨x0, x1, x2⟩ := re_cells hX'.out
  go_upto_region 2 with (first | (at_builtin; go_loud (refine wpList_append_cs (by rfl) (.const (.slice none 0 0)) (.tmp 4) 22 84 (by rfl) Tryz.underlying22 el_row W W.heap.size 0 [] (.slice none 0 0) (by rfl) (OwnC.nil _ _ _ _) (.slice a n cap) n _ (by rfl) hr'.out h1 (by omega) (by omega) (Nat.le_refl _) ?_); go_loud (intro v2 w6 ho5 hb6; rw [Nat.zero_add, List.nil_append] at ho5; have ho6 := Lib.hid ho5; have hZ6 : Ext W w6 := hb6; clear ho5 hb6; obtain ⟨a2, c2, rfl, hq2⟩ := ho6.out.form; have k0 := hZ6.cell x2; have z0 : w6.frozen? ⟨w.heap.size, 2, none⟩ = false := fz (hZ6.row hX'.out))) | fail)
  have hE6 : Ext w w6 := hE.trans hZ6
  have hX6 := hZ6.row hX'.out
  have hR6 := hZ6.row hR'.out
  have hE2 : Ext w (w6.setCell ⟨w.heap.size, 2, none⟩ (.slice a2 n c2)) := hE6.setCell (Nat.le_refl _) _
  have hX2 : (w6.setCell ⟨w.heap.size, 2, none⟩ (.slice a2 n c2)).heap[w.heap.size]? = some (.cells (reH i b (.slice a2 n c2)) 74 (0, 0)) := by simp [World.setCell, Array.getElem?_modify, hX6, reH]
  have hR2 : (w6.setCell ⟨w.heap.size, 2, none⟩ (.slice a2 n c2)).heap[w.heap.size + 1]? = some (.cells zRe 74 (0, 0)) := (Below.heap_setCell _ _ _ _ (by simp)).trans hR6
  have hOf : OffB (· = w.heap.size) w6 (w6.setCell ⟨w.heap.size, 2, none⟩ (.slice a2 n c2)) := OffB.setCell (B := (· = w.heap.size)) (a := w6) (w := w6) (OffB.refl _) (p := ⟨w.heap.size, 2, none⟩) rfl _
  have hown2 := Lib.hid (ho6.out.offB hOf (fun q hq hB => by have h5 := (ho6.out.lt q hq).1; have hB : q = w.heap.size := hB; omega))
  clear hX6 hR6 hE6 hZ6 hE hOf ho6 hq2 x0 x1 x2 k0 z0 hX' hR' hr'
  generalize w6.setCell ⟨w.heap.size, 2, none⟩ (.slice a2 n c2) = W2 at *
  obtain ⟨x0, x1, x2⟩ := re_cells hX2
  go_wp2_with (first | (refine wpList_store_row (by rfl) 74 (.tmp 2) (.tmp 7) (by rfl) (w.heap.size + 1) (reH i b (.slice a2 n c2)) (by rfl) (by rfl) 74 zRe hR2 (by exact info_reply) (by rfl) (reH_one _ _ _ _ _) ?_) | fail)
  have hset : (W2.setRow (w.heap.size + 1) (reH i b (.slice a2 n c2))).heap[w.heap.size + 1]? = some (.cells (reH i b (.slice a2 n c2)) 74 (0, 0)) := by rw [setRow_heap _ _ _ _ _ _ hR2]
  have hEf : Ext w (W2.setRow (w.heap.size + 1) (reH i b (.slice a2 n c2))) := hE2.setRow (by omega) _
  have hOg : OffB (· = w.heap.size + 1) W2 (W2.setRow (w.heap.size + 1) (reH i b (.slice a2 n c2))) := ⟨rfl, rfl, rfl, by simp, fun k _ hq => setRow_other _ _ _ _ hq⟩
  have hown3 := (hown2.out.offB hOg (fun q hq hB => by have h5 := (hown2.out.lt q hq).1; have hB : q = w.heap.size + 1 := hB; omega)).weak (show w.heap.size ≤ W.heap.size by omega)
  generalize W2.setRow (w.heap.size + 1) (reH i b (.slice a2 n c2)) = Wf at *
  obtain ⟨c0, c1, c2'⟩ := re_cells hset
  exact bodyPost_ret (v := .agg (reH i b (.slice a2 n c2))) (by simp [results, Tryz.results48, go_sem, c0, c1, c2', reH]) rfl ⟨a2, c2, rfl, hown3, hEf⟩
theorem rwr_all' (x : Rw) : ∀ u ∈ (rowR x).toList, u.oneCell' = true := fun u hu => Array.all_eq_true_iff_forall_mem.1 (rowR_one x) u (by simpa using hu)
theorem rws_cut (l : List Rw) (k : Nat) : (l.flatMap rwL).drop (k * 2) = (l.drop k).flatMap rwL ∧ (l.flatMap rwL).take (k * 2) = (l.take k).flatMap rwL := by
  induction l generalizing k with
  | nil => simp
  | cons x r ih =>
    cases k with
    | zero => simp
    | succ k =>
      have hx : (rwL x).length = 2 := rfl
      rw [List.flatMap_cons, List.drop_succ_cons, List.take_succ_cons, List.flatMap_cons, show (k + 1) * 2 = (rwL x).length + k * 2 by rw [hx]; omega, List.drop_length_add_append, List.take_length_add_append, (ih k).1, (ih k).2]
      exact ⟨rfl, rfl⟩
theorem tw_at {α : Type} (p : α → Bool) : ∀ (l : List α) (j : Nat), j < (l.takeWhile p).length → ∃ y, l[j]? = some y ∧ p y = true
  | [], j, h => by simp at h
  | x :: l, j, h => by
    rw [List.takeWhile_cons] at h
    split at h
    · rename_i hx
      cases j with
      | zero => exact ⟨x, rfl, hx⟩
      | succ j => exact tw_at p l j (by simpa using h)
    · simp at h
theorem tw_end {α : Type} (p : α → Bool) : ∀ (l : List α) (y : α), l[(l.takeWhile p).length]? = some y → p y = false
  | [], y, h => by simp at h
  | x :: l, y, h => by
    rw [List.takeWhile_cons] at h
    split at h
    · exact tw_end p l y (by simpa using h)
    · rename_i hx
      simp at h
      rw [← h]
      simpa using hx
theorem tw_take {α : Type} (p : α → Bool) (l : List α) : l.take (l.takeWhile p).length = l.takeWhile p ∧ l.drop (l.takeWhile p).length = l.dropWhile p := by
  induction l with
  | nil => exact ⟨rfl, rfl⟩
  | cons x l ih =>
    rw [List.takeWhile_cons, List.dropWhile_cons]
    split
    · rw [List.length_cons, List.take_succ_cons, List.drop_succ_cons, ih.1, ih.2]; exact ⟨rfl, rfl⟩
    · exact ⟨rfl, rfl⟩
theorem tw_le {α : Type} (p : α → Bool) (l : List α) : (l.takeWhile p).length ≤ l.length := (List.takeWhile_sublist p).length_le
section
variable {base st : Nat} {w : World} {rows : List Rw} {sd : List Sa}
def ChE (base : Nat) (w : World) (st : Nat) (rows : List Rw) (sd : List Sa) (e : Ending) (w' : World) : Prop := e = .returned (.tuple #[]) ∧ Below base w w' ∧ OffB (fun k => k = st) w w' ∧ RefM base w' st rows sd
/-- The rows are made anew. -/
theorem ref_rows (h : RefM base w st rows sd) {w6 : World} (hE : Ext w w6) {rows' : List Rw} {a2 : Option Addr} {c2 n : Nat} (hn : n = rows'.length) (ho : OwnC w6 w.heap.size 84 2 (.slice a2 n c2) n (rows'.flatMap rwL)) : ChE base w st rows' sd (.returned (.tuple #[])) (w6.setCell ⟨st, 0, none⟩ (.slice a2 n c2)) := by
  subst hn
  obtain ⟨ra, rc, sa, sc, h1, h2, h3, h4, h5⟩ := h
  have hst := (Array.getElem?_eq_some_iff.1 h1).1
  have hr6 := hE.row h1
  have hO6 : OffB (fun k => k = st) w6 (w6.setCell ⟨st, 0, none⟩ (.slice a2 rows'.length c2)) := OffB.setCell (B := fun k => k = st) (OffB.refl _) (p := ⟨st, 0, none⟩) rfl _
  have hO : OffB (fun k => k = st) w (w6.setCell ⟨st, 0, none⟩ (.slice a2 rows'.length c2)) := (OffB.of_ext hE).trans hO6
  have hno : ∀ {e : TypeId} {z n : Nat} {v : Value} {xs : List Value}, e ≠ 112 → OwnC w6 base e z v n xs → OwnC (w6.setCell ⟨st, 0, none⟩ (.slice a2 rows'.length c2)) base e z v n xs := fun he hw => hw.offB hO6 (fun q hq hB => by
    obtain ⟨c, hc⟩ := own_ty hw hq
    have hB : q = st := hB
    rw [hB, hr6] at hc
    injection hc with hc
    injection hc with _ hc
    exact he hc.symm)
  have hb : base ≤ w.heap.size := by omega
  refine ⟨rfl, hO.below (fun k hk => by rw [hk]; exact h2) hb, hO, a2, c2, sa, sc, ?_, h2, hno (by decide) (ho.weak hb), hno (by decide) (h4.ext hE), fun p hp => hno (by decide) ((h5 p hp).ext hE)⟩
  rw [setCell_eq_setRow _ _ _ _ _ _ _ hr6, setRow_heap _ _ _ _ _ _ hr6]
  rfl
theorem chgR_any (h : RefM base w st rows sd) (hs : ∀ r ∈ rows, r.key.size ≤ 140737488351232) (hl : rows.length ≤ 1000000) (c : Ch) (hc : c.key.size ≤ 140737488351232) : Calls Tryz.prog 47 #[.pointer (some ⟨st, 0, none⟩), .agg (chRow c)] w (ChE base w st (chR rows c) sd) := by
  obtain ⟨ra, rc, sa, sc, hcell, hR, _, ⟨hmc, hcx⟩, _⟩ := h.sees
  obtain ⟨X, hX⟩ : ∃ X, X = w.heap.size := ⟨_, rfl⟩
  obtain ⟨V, hV⟩ : ∃ W, W = w.alloc (.cells (chRow c) 102) := ⟨_, rfl⟩
  have hE0 : Ext w V := by rw [hV]; exact (Ext.refl _).alloc _
  have hxr : Hid (∀ W, Ext V W → W.cell? ⟨X, 0, none⟩ = some (.string c.key) ∧ W.cell? ⟨X, 1, none⟩ = some (.string c.val) ∧ W.cell? ⟨X, 2, none⟩ = some (.bool c.gone)) := Lib.hid (fun W hE => by
    have h1 : W.heap[X]? = some (.cells (chRow c) 102 (0, 0)) := hE.row (by rw [hV, hX]; exact heap_alloc_new w _)
    exact ⟨by rw [cell_of_row _ _ _ _ _ _ h1]; rfl, by rw [cell_of_row _ _ _ _ _ _ h1]; rfl, by rw [cell_of_row _ _ _ _ _ _ h1]; rfl⟩)
  obtain ⟨m, hm0⟩ : ∃ n, n = rows.length := ⟨_, rfl⟩
  rw [← hm0] at hcell hR hmc hl
  have hm := Lib.hid hm0
  have hc' : Hid (∀ W, Ext w W → W.cell? ⟨st, 0, none⟩ = some (.slice ra m rc) ∧ W.frozen? ⟨st, 0, none⟩ = false) := Lib.hid (fun W hE => ⟨(hcell W hE).1, (hcell W hE).2.2.1⟩)
  have hR' := Lib.hid hR
  have hs' := Lib.hid hs
  have h' := Lib.hid h
  have hV' := Lib.hid hV
  have hX' := Lib.hid hX
  obtain ⟨P, hP⟩ : ∃ P, P = (ahK rows c.key).length := ⟨_, rfl⟩
  have hPm : P ≤ m := by rw [hP, hm.out]; exact tw_le _ _
  have hP' := Lib.hid hP
  have hck := hc
  clear hcell hR hs h hV hX hm0 hP hc
  unfold chRow at hV' ⊢
  go_enter Tryz.func47, Tryz.ntmps47
  go_upto_block 0 with fail
  rw [← hV'.out, ← hX'.out]
  go_cut [5] from 6 to 27 (fun t wx => t = .int .i64 (P : Int) ∧ Ext V wx)
  case first =>
    go_wp2_with fail
    go_loopw [5] (fun t wr => ∃ j : Nat, t = .int .i64 j ∧ j ≤ P ∧ Ext V wr) (fun t _ => m - (intOf t).toNat)
    case atStart => exact ⟨0, rfl, by omega, Ext.refl _⟩
    case round =>
      obtain ⟨j, rfl, hj, hEj⟩ := hrel
      have hwj := hE0.trans hEj
      have c1 := (hc'.out wr hwj).1
      have c2 := (hxr.out wr hEj).1
      by_cases hjm : j < m
      · have hji : (j : Int) < (m : Int) := by omega
        obtain ⟨y, hy⟩ : ∃ y, rows[j]? = some y := ⟨_, List.getElem?_eq_getElem (by rw [← hm.out]; exact hjm)⟩
        obtain ⟨ob, oo, hat⟩ := (hR'.out wr hwj).at
        obtain ⟨rfl, _, hdy⟩ := hat (by omega)
        have p := rws_range (by rw [← hm.out]; exact hdy) hy 0 (.string y.key) rfl
        rw [Nat.add_zero] at p
        have hsy := hs'.out y (List.mem_of_getElem? hy)
        have hy' := Lib.hid hy
        clear hat hdy hy
        go_upto_region 3 with fail
        refine bqRegion (Ext wr) (by kernel_rfl) (by kernel_rfl) (Ext.refl _).drew ?_
        iterate 4 (refine bqStep (fun K hK => ?_); go_simp; first | (refine hK _ ?_; clear hK K) | (refine ⟨_, fun _ _ => rfl, hK _ ?_⟩; clear hK K))
        refine bqCell (by rfl) 22 _ (by rfl) st (0) (by rfl) _ (fun w' h => h.cell c1) _ Tryz.underlying22 rfl ?_
        simp only [Act.put, List.setIfInBounds_toArray, List.set_cons_zero, List.set_cons_succ]
        iterate 6 (refine bqStep (fun K hK => ?_); go_simp; first | (refine hK _ ?_; clear hK K) | (refine ⟨_, fun _ _ => rfl, hK _ ?_⟩; clear hK K))
        refine bqCell (by rfl) 22 _ (by rfl) st (0) (by rfl) _ (fun w' h => h.cell c1) _ Tryz.underlying22 rfl ?_
        simp only [Act.put, List.setIfInBounds_toArray, List.set_cons_zero, List.set_cons_succ]
        iterate 3 (refine bqStep (fun K hK => ?_); go_simp; first | (refine hK _ ?_; clear hK K) | (refine ⟨_, fun _ _ => rfl, hK _ ?_⟩; clear hK K))
        refine bqCell (by rfl) 9 _ (by rfl) ob (oo + j * 2) (by rfl) _ (fun w' h => h.cell p) _ Tryz.underlying9 rfl ?_
        simp only [Act.put, List.setIfInBounds_toArray, List.set_cons_zero, List.set_cons_succ]
        iterate 1 (refine bqStep (fun K hK => ?_); go_simp; first | (refine hK _ ?_; clear hK K) | (refine ⟨_, fun _ _ => rfl, hK _ ?_⟩; clear hK K))
        refine bqCell (by rfl) 9 _ (by rfl) X (0) (by rfl) _ (fun w' h => h.cell c2) _ Tryz.underlying9 rfl ?_
        simp only [Act.put, List.setIfInBounds_toArray, List.set_cons_zero, List.set_cons_succ]
        refine bqStep (fun K hK => ?_)
        go_simp
        refine ⟨_, fun w' hw => calls_ext hw (less_any w' y.key c.key hsy), hK _ ?_⟩
        clear hK K
        iterate 1 (refine bqStep (fun K hK => ?_); go_simp; first | (refine hK _ ?_; clear hK K) | (refine ⟨_, fun _ _ => rfl, hK _ ?_⟩; clear hK K))
        refine bqNil (fun w5 hE5 => ?_)
        have hE6 := hEj.trans hE5
        clear p c1 c2
        cases hlt2 : Op.bytesLess y.key.toList c.key.toList with
        | true =>
          have hjP : j + 1 ≤ P := by
            rcases Nat.lt_or_ge j P with h | h
            · exact h
            · have h1 := tw_end (lessR c.key) rows y (by show rows[(ahK rows c.key).length]? = _; rw [← hP'.out, show P = j by omega]; exact hy'.out)
              unfold lessR at h1
              rw [hlt2] at h1; cases h1
          clear hlt2
          go_wp2_with fail
          go_roundw
          case rel => exact ⟨j + 1, by go_num, hjP, hE6⟩
          case measure => simp [intOf]; omega
        | false =>
          have hjP : j = P := by
            rcases Nat.lt_or_ge j P with h | h
            · obtain ⟨z, hz, hzl⟩ := tw_at (lessR c.key) rows j (by show j < (ahK rows c.key).length; rw [← hP'.out]; exact h)
              rw [hy'.out] at hz
              injection hz with hz
              unfold lessR at hzl
              rw [← hz, hlt2] at hzl; cases hzl
            · omega
          have hjP' := Lib.hid hjP
          clear hlt2 hjP
          go_wp2_with fail
          go_meet
          exact ⟨by rw [hjP'.out], hE6⟩
      · have hji : ¬ (j : Int) < (m : Int) := by omega
        have hjP : Hid (j = P) := Lib.hid (by omega)
        go_upto_region 3 with fail
        refine bqRegion (Ext wr) (by kernel_rfl) (by kernel_rfl) (Ext.refl _).drew ?_
        iterate 4 (refine bqStep (fun K hK => ?_); go_simp; first | (refine hK _ ?_; clear hK K) | (refine ⟨_, fun _ _ => rfl, hK _ ?_⟩; clear hK K))
        refine bqCell (by rfl) 22 _ (by rfl) st (0) (by rfl) _ (fun w' h => h.cell c1) _ Tryz.underlying22 rfl ?_
        simp only [Act.put, List.setIfInBounds_toArray, List.set_cons_zero, List.set_cons_succ]
        iterate 3 (refine bqStep (fun K hK => ?_); go_simp; first | (refine hK _ ?_; clear hK K) | (refine ⟨_, fun _ _ => rfl, hK _ ?_⟩; clear hK K))
        iterate 11 (refine bqSkip (by rfl) ?_; simp only [Act.put, List.setIfInBounds_toArray, List.set_cons_zero, List.set_cons_succ])
        iterate 1 (refine bqStep (fun K hK => ?_); go_simp; first | (refine hK _ ?_; clear hK K) | (refine ⟨_, fun _ _ => rfl, hK _ ?_⟩; clear hK K))
        refine bqNil (fun w5 hE5 => ?_)
        go_wp2_with fail
        go_meet
        exact ⟨by rw [hjP.out], hEj.trans hE5⟩
  case rest =>
    obtain ⟨rfl, hE7⟩ := hcut
    obtain ⟨Y, hY⟩ : ∃ Y, Hid (wc = Y) := ⟨wc, Lib.hid rfl⟩
    have hEY : Ext V Y := by rw [← hY.out]; exact hE7
    have hwY : Ext w Y := hE0.trans hEY
    have hsY := hwY.size
    have hPc : P ≤ rc := by omega
    have hTk : Hid (RowIs Y 2 (.slice ra P rc) P ((ahK rows c.key).flatMap rwL)) := Lib.hid (by
      have h2 := (hR'.out Y hwY).take hPm
      rw [(rws_cut rows P).2, hP'.out] at h2
      unfold ahK at h2 ⊢
      rw [(tw_take (lessR c.key) rows).1] at h2
      unfold ahK at hP'
      rw [← hP'.out] at h2
      exact h2)
    have hS : Hid (∀ W, Ext Y W → W.cell? ⟨st, 0, none⟩ = some (.slice ra m rc) ∧ W.frozen? ⟨st, 0, none⟩ = false ∧ W.cell? ⟨X, 0, none⟩ = some (.string c.key) ∧ W.cell? ⟨X, 1, none⟩ = some (.string c.val) ∧ W.cell? ⟨X, 2, none⟩ = some (.bool c.gone)) := Lib.hid (fun W hE => by
      obtain ⟨x0, x1, x2⟩ := hxr.out W (hEY.trans hE)
      exact ⟨(hc'.out W (hwY.trans hE)).1, (hc'.out W (hwY.trans hE)).2, x0, x1, x2⟩)
    obtain ⟨M, hM⟩ : ∃ M, M = ahK rows c.key ++ (if c.gone then [] else [⟨c.key, c.val⟩]) := ⟨_, rfl⟩
    obtain ⟨mm, hmm⟩ : ∃ n, n = M.length := ⟨_, rfl⟩
    have hmmb : mm ≤ m + 1 := by
      rw [hmm, hM, List.length_append, ← hP'.out]
      split <;> simp <;> omega
    have hM' := Lib.hid hM
    have hmm' := Lib.hid hmm
    clear hE7 hM hmm
    rw [hY.out]
    obtain ⟨k0, _, x0, x1, x2⟩ := hS.out Y (Ext.refl _)
    go_upto_region 6 with (first | (at_builtin; go_loud (refine wpList_append_cs (by rfl) (.tmp 28) (.tmp 34) 22 84 (by rfl) Tryz.underlying22 el_row Y Y.heap.size 0 [] (.slice none 0 0) (by rfl) (OwnC.nil _ _ _ _) (.slice ra P rc) P _ (by rfl) hTk.out (rws_one _) (by omega) (by omega) (Nat.le_refl _) ?_); go_loud (intro v2 w6 ho5 hb6; rw [Nat.zero_add, List.nil_append] at ho5; have ho6 := Lib.hid ho5; have hZ6 : Ext Y w6 := hb6; clear ho5 hb6; obtain ⟨a2, c2, rfl, hq2⟩ := ho6.out.form; clear hq2)) | fail)
    clear k0 x0 x1 x2
    obtain ⟨k0, _, x0, x1, x2⟩ := hS.out w6 hZ6
    have hs6 := hZ6.size
    cases hg : c.gone with
    | true =>
      rw [hg] at x2
      have hMe : M = ahK rows c.key := by rw [hM'.out, hg, if_pos rfl, List.append_nil]
      have hme := Lib.hid (show P = mm by rw [hmm'.out, hMe, hP'.out])
      have ho6m : Hid (OwnC w6 Y.heap.size 84 2 (.slice a2 P c2) P (M.flatMap rwL)) := Lib.hid (by rw [hMe]; exact ho6.out)
      clear hg hMe
      go_upto_region 8 with fail
      clear k0 x0 x1 x2 hs6
      obtain ⟨Q, hQ⟩ : ∃ Q, Q = (match rows[P]? with | none => P | some y => if keyEq c.key y then P + 1 else P) := ⟨_, rfl⟩
      have hQd : Hid (pastK c.key (reK rows c.key) = rows.drop Q) := Lib.hid (by
        have h1 := (tw_take (lessR c.key) rows).2
        rw [show (rows.takeWhile (lessR c.key)).length = P from hP'.out.symm] at h1
        show pastK c.key (rows.dropWhile (lessR c.key)) = _
        rw [← h1]
        cases hy : rows[P]? with
        | none =>
          rw [hy] at hQ
          have hQ : Q = P := hQ
          rw [hQ, List.drop_of_length_le (by have := List.getElem?_eq_none_iff.1 hy; omega)]
          rfl
        | some y =>
          rw [hy] at hQ
          obtain ⟨hlt, he⟩ := List.getElem?_eq_some_iff.1 hy
          rw [List.drop_eq_getElem_cons hlt, he]
          have hQ : Q = if keyEq c.key y then P + 1 else P := hQ
          unfold pastK
          cases hk : keyEq c.key y with
          | true => rw [hk, if_pos rfl] at hQ; rw [hQ]; exact if_pos hk
          | false => rw [hk, if_neg (by simp)] at hQ; rw [hQ, List.drop_eq_getElem_cons hlt, he]; exact if_neg (by rw [hk]; simp))
      have hQm : Q ≤ m := by
        cases hy : rows[P]? with
        | none =>
          rw [hy] at hQ
          have hQ : Q = P := hQ
          omega
        | some y =>
          rw [hy] at hQ
          have hlt := (List.getElem?_eq_some_iff.1 hy).1
          rw [← hm.out] at hlt
          have hQ : Q = if keyEq c.key y then P + 1 else P := hQ
          split at hQ <;> omega
      have hQ' := Lib.hid hQ
      clear hQ
      go_cut [66] from 47 to 65 (fun t wx => t = .bool (decide (Q ≠ P)) ∧ Ext w6 wx)
      case first =>
        have hUc : Ext w6 w6 := Ext.refl _
        have hYc := hZ6.trans hUc
        obtain ⟨c1, _, c2, _, _⟩ := hS.out w6 hYc
        by_cases hjm : P < m
        · have hji : (P : Int) < (m : Int) := by omega
          obtain ⟨y, hy⟩ : ∃ y, rows[P]? = some y := ⟨_, List.getElem?_eq_getElem (by rw [← hm.out]; exact hjm)⟩
          obtain ⟨ob, oo, hat⟩ := (hR'.out w6 (hwY.trans hYc)).at
          obtain ⟨rfl, _, hdy⟩ := hat (by omega)
          have p := rws_range (by rw [← hm.out]; exact hdy) hy 0 (.string y.key) rfl
          rw [Nat.add_zero] at p
          have hQe : Hid (decide (Q ≠ P) = (y.key.toList == c.key.toList)) := Lib.hid (by
            have h5 := hQ'.out
            rw [hy] at h5
            have h5 : Q = if keyEq c.key y then P + 1 else P := h5
            show _ = keyEq c.key y
            cases hk : keyEq c.key y with
            | true => rw [hk, if_pos rfl] at h5; exact decide_eq_true (by omega)
            | false => rw [hk, if_neg (by simp)] at h5; exact decide_eq_false (by omega))
          clear hat hdy hy
          refine bqRegion (Ext w6) (by kernel_rfl) (by kernel_rfl) (Ext.refl _).drew ?_
          iterate 4 (refine bqStep (fun K hK => ?_); go_simp; first | (refine hK _ ?_; clear hK K) | (refine ⟨_, fun _ _ => rfl, hK _ ?_⟩; clear hK K))
          refine bqCell (by rfl) 22 _ (by rfl) st (0) (by rfl) _ (fun w' h => h.cell c1) _ Tryz.underlying22 rfl ?_
          simp only [Act.put, List.setIfInBounds_toArray, List.set_cons_zero, List.set_cons_succ]
          iterate 6 (refine bqStep (fun K hK => ?_); go_simp; first | (refine hK _ ?_; clear hK K) | (refine ⟨_, fun _ _ => rfl, hK _ ?_⟩; clear hK K))
          refine bqCell (by rfl) 22 _ (by rfl) st (0) (by rfl) _ (fun w' h => h.cell c1) _ Tryz.underlying22 rfl ?_
          simp only [Act.put, List.setIfInBounds_toArray, List.set_cons_zero, List.set_cons_succ]
          iterate 3 (refine bqStep (fun K hK => ?_); go_simp; first | (refine hK _ ?_; clear hK K) | (refine ⟨_, fun _ _ => rfl, hK _ ?_⟩; clear hK K))
          refine bqCell (by rfl) 9 _ (by rfl) ob (oo + P * 2) (by rfl) _ (fun w' h => h.cell p) _ Tryz.underlying9 rfl ?_
          simp only [Act.put, List.setIfInBounds_toArray, List.set_cons_zero, List.set_cons_succ]
          iterate 1 (refine bqStep (fun K hK => ?_); go_simp; first | (refine hK _ ?_; clear hK K) | (refine ⟨_, fun _ _ => rfl, hK _ ?_⟩; clear hK K))
          refine bqCell (by rfl) 9 _ (by rfl) X (0) (by rfl) _ (fun w' h => h.cell c2) _ Tryz.underlying9 rfl ?_
          simp only [Act.put, List.setIfInBounds_toArray, List.set_cons_zero, List.set_cons_succ]
          iterate 2 (refine bqStep (fun K hK => ?_); go_simp; first | (refine hK _ ?_; clear hK K) | (refine ⟨_, fun _ _ => rfl, hK _ ?_⟩; clear hK K))
          refine bqNil (fun w5 hE5 => ?_)
          clear p c1 c2
          go_wp2_with fail
          go_meet
          exact ⟨by rw [hQe.out], hUc.trans hE5⟩
        · have hji : ¬ (P : Int) < (m : Int) := by omega
          have hQ2 : Hid (decide (Q ≠ P) = false) := Lib.hid (by
            have h5 := hQ'.out
            rw [List.getElem?_eq_none (by rw [← hm.out]; omega)] at h5
            have h5 : Q = P := h5
            exact decide_eq_false (by omega))
          refine bqRegion (Ext w6) (by kernel_rfl) (by kernel_rfl) (Ext.refl _).drew ?_
          iterate 4 (refine bqStep (fun K hK => ?_); go_simp; first | (refine hK _ ?_; clear hK K) | (refine ⟨_, fun _ _ => rfl, hK _ ?_⟩; clear hK K))
          refine bqCell (by rfl) 22 _ (by rfl) st (0) (by rfl) _ (fun w' h => h.cell c1) _ Tryz.underlying22 rfl ?_
          simp only [Act.put, List.setIfInBounds_toArray, List.set_cons_zero, List.set_cons_succ]
          iterate 3 (refine bqStep (fun K hK => ?_); go_simp; first | (refine hK _ ?_; clear hK K) | (refine ⟨_, fun _ _ => rfl, hK _ ?_⟩; clear hK K))
          iterate 11 (refine bqSkip (by rfl) ?_; simp only [Act.put, List.setIfInBounds_toArray, List.set_cons_zero, List.set_cons_succ])
          iterate 1 (refine bqStep (fun K hK => ?_); go_simp; first | (refine hK _ ?_; clear hK K) | (refine ⟨_, fun _ _ => rfl, hK _ ?_⟩; clear hK K))
          refine bqNil (fun w5 hE5 => ?_)
          go_wp2_with fail
          go_meet
          exact ⟨by rw [hQ2.out], hUc.trans hE5⟩
      case rest =>
        obtain ⟨rfl, hE8⟩ := hcut
        have hYx := hZ6.trans hE8
        have ho2 := Lib.hid (ho6m.out.ext hE8)
        obtain ⟨k0, z0, _⟩ := hS.out wc hYx
        have hs1 := hYx.size
        have hQc : Q ≤ rc := by omega
        have hdr := Lib.hid (by
          have h2 := (hR'.out wc (hwY.trans hYx)).drop Q
          rw [(rws_cut rows Q).1] at h2
          exact h2)
        obtain ⟨nn, hnn⟩ : ∃ n, n = mm + (m - Q) := ⟨_, rfl⟩
        have hfl : Hid ((M.flatMap rwL) ++ (rows.drop Q).flatMap rwL = (chR rows c).flatMap rwL) := Lib.hid (by
          rw [← List.flatMap_append]
          unfold chR
          rw [hQd.out, hM'.out])
        have hnl : Hid (nn = (chR rows c).length) := Lib.hid (by
          rw [hnn]
          unfold chR
          rw [hQd.out, ← hM'.out, List.length_append, List.length_drop, ← hmm'.out, ← hm.out])
        have hend : Hid (∀ (w6 : World) (a2 : Option Addr) (c2 : Nat), Ext Y w6 → OwnC w6 Y.heap.size 84 2 (.slice a2 nn c2) nn ((chR rows c).flatMap rwL) → ChE base w st (chR rows c) sd (.returned (.tuple #[])) (w6.setCell ⟨st, 0, none⟩ (.slice a2 nn c2))) := Lib.hid (fun w6 a2 c2 hE6 ho => ref_rows h'.out (hwY.trans hE6) hnl.out (ho.weak hsY))
        have hQPe : Hid (Q = P ∨ Q = P + 1) := Lib.hid (by
          have h5 := hQ'.out
          cases hy : rows[P]? with
          | none => rw [hy] at h5; exact .inl h5
          | some y =>
            rw [hy] at h5
            have h5 : Q = if keyEq c.key y then P + 1 else P := h5
            split at h5
            · exact .inr h5
            · exact .inl h5)
        by_cases hQP : Q = P
        · have hqd : decide (Q ≠ P) = false := decide_eq_false (by omega)
          rw [hqd]
          subst hQP
          by_cases hck2 : rc = Q
          · have hdr2 : Hid (RowIs wc 2 (.slice ra 0 0) 0 ((rows.drop (Q)).flatMap rwL)) := Lib.hid (by
              have h := hdr.out
              rw [show m - (Q) = 0 by omega, show rc - (Q) = 0 by omega] at h
              unfold tailAddr at h
              rw [if_pos hck2] at h
              exact h)
            have hmP' : Hid (Q + 0 = nn) := Lib.hid (by have := hme.out; omega)
            subst hck2
            clear hdr hTk hnn
            go_wp2_with (first | (refine wpList_append_cs (by rfl) (.tmp 70) (.tmp 76) 22 84 (by rfl) Tryz.underlying22 el_row wc Y.heap.size rc _ (.slice a2 rc c2) (by rfl) ho2.out (.slice ra 0 0) 0 _ (by rfl) hdr2.out (rws_one _) (by omega) (by omega) hs1 ?_; go_loud (intro v2 w9 ho5 hb6; rw [hfl.out, hmP'.out] at ho5; have hZ9 : Ext Y w9 := Below.trans hYx hb6; have ho9 := Lib.hid ho5; have k6 := (hS.out w9 hZ9).1; have z6 := (hS.out w9 hZ9).2.1; clear ho5 hb6; obtain ⟨a9, c9, rfl, hq2⟩ := ho9.out.form; clear hq2)) | fail)
            go_end0
            exact hend.out _ _ _ hZ9 ho9.out
          · have hta : tailAddr ra rc (Q) 2 = Option.map (fun x => x.add ((Q) * 2)) ra := by unfold tailAddr; rw [if_neg hck2]
            have hdr2 := hdr.out
            rw [hta] at hdr2
            have hdr3 := Lib.hid hdr2
            have hmP' : Hid (Q + (m - (Q)) = nn) := Lib.hid (by have := hme.out; omega)
            clear hta hdr2 hdr hTk hnn
            go_wp2_with (first | (refine wpList_append_cs (by rfl) (.tmp 70) (.tmp 76) 22 84 (by rfl) Tryz.underlying22 el_row wc Y.heap.size Q _ (.slice a2 Q c2) (by rfl) ho2.out (.slice (Option.map (fun x => x.add ((Q) * 2)) ra) (m - (Q)) (rc - (Q))) (m - (Q)) _ (by rfl) hdr3.out (rws_one _) (by omega) (by omega) hs1 ?_; go_loud (intro v2 w9 ho5 hb6; rw [hfl.out, hmP'.out] at ho5; have hZ9 : Ext Y w9 := Below.trans hYx hb6; have ho9 := Lib.hid ho5; have k6 := (hS.out w9 hZ9).1; have z6 := (hS.out w9 hZ9).2.1; clear ho5 hb6; obtain ⟨a9, c9, rfl, hq2⟩ := ho9.out.form; clear hq2)) | fail)
            go_end0
            exact hend.out _ _ _ hZ9 ho9.out
        · have hqd : decide (Q ≠ P) = true := decide_eq_true hQP
          rw [hqd]
          have hQ1 : Q = P + 1 := by rcases hQPe.out with h | h; exact absurd h hQP; exact h
          subst hQ1
          by_cases hck2 : rc = P + 1
          · have hdr2 : Hid (RowIs wc 2 (.slice ra 0 0) 0 ((rows.drop (P + 1)).flatMap rwL)) := Lib.hid (by
              have h := hdr.out
              rw [show m - (P + 1) = 0 by omega, show rc - (P + 1) = 0 by omega] at h
              unfold tailAddr at h
              rw [if_pos hck2] at h
              exact h)
            have hmP' : Hid (P + 0 = nn) := Lib.hid (by have := hme.out; omega)
            subst hck2
            clear hdr hTk hnn
            go_wp2_with (first | (refine wpList_append_cs (by rfl) (.tmp 70) (.tmp 76) 22 84 (by rfl) Tryz.underlying22 el_row wc Y.heap.size P _ (.slice a2 P c2) (by rfl) ho2.out (.slice ra 0 0) 0 _ (by rfl) hdr2.out (rws_one _) (by omega) (by omega) hs1 ?_; go_loud (intro v2 w9 ho5 hb6; rw [hfl.out, hmP'.out] at ho5; have hZ9 : Ext Y w9 := Below.trans hYx hb6; have ho9 := Lib.hid ho5; have k6 := (hS.out w9 hZ9).1; have z6 := (hS.out w9 hZ9).2.1; clear ho5 hb6; obtain ⟨a9, c9, rfl, hq2⟩ := ho9.out.form; clear hq2)) | fail)
            go_end0
            exact hend.out _ _ _ hZ9 ho9.out
          · have hta : tailAddr ra rc (P + 1) 2 = Option.map (fun x => x.add ((P + 1) * 2)) ra := by unfold tailAddr; rw [if_neg hck2]
            have hdr2 := hdr.out
            rw [hta] at hdr2
            have hdr3 := Lib.hid hdr2
            have hmP' : Hid (P + (m - (P + 1)) = nn) := Lib.hid (by have := hme.out; omega)
            clear hta hdr2 hdr hTk hnn
            go_wp2_with (first | (refine wpList_append_cs (by rfl) (.tmp 70) (.tmp 76) 22 84 (by rfl) Tryz.underlying22 el_row wc Y.heap.size P _ (.slice a2 P c2) (by rfl) ho2.out (.slice (Option.map (fun x => x.add ((P + 1) * 2)) ra) (m - (P + 1)) (rc - (P + 1))) (m - (P + 1)) _ (by rfl) hdr3.out (rws_one _) (by omega) (by omega) hs1 ?_; go_loud (intro v2 w9 ho5 hb6; rw [hfl.out, hmP'.out] at ho5; have hZ9 : Ext Y w9 := Below.trans hYx hb6; have ho9 := Lib.hid ho5; have k6 := (hS.out w9 hZ9).1; have z6 := (hS.out w9 hZ9).2.1; clear ho5 hb6; obtain ⟨a9, c9, rfl, hq2⟩ := ho9.out.form; clear hq2)) | fail)
            go_end0
            exact hend.out _ _ _ hZ9 ho9.out
    | false =>
      rw [hg] at x2
      have hMe : M = ahK rows c.key ++ [⟨c.key, c.val⟩] := by rw [hM'.out, hg, if_neg (by simp)]
      have hme := Lib.hid (show P + 1 = mm by rw [hmm'.out, hMe, List.length_append, hP'.out]; rfl)
      have hMe' := Lib.hid hMe
      have hpb : P ≤ 1000000 := by omega
      clear hg hMe
      go_upto_region 8 with (first | (refine wpList_bs_row (by rfl) (.tmp 44) (by rfl) ⟨c.key, c.val⟩ (by rfl) ?_) | (at_builtin; go_loud (refine wpList_append_c (by rfl) (.tmp 39) (.tmp 45) 22 84 (by rfl) Tryz.underlying22 el_row w6 Y.heap.size P _ (.slice a2 P c2) (by rfl) ho6.out (rowR ⟨c.key, c.val⟩) (by rfl) (by rfl) (rwr_all' _) (by omega) (by omega) hs6 ?_); go_loud (intro v3 w7 hA; have ho7 := Lib.hid hA.own; have hZ7 : Ext Y w7 := Below.trans hZ6 hA.below; clear hA; obtain ⟨a3, c3, rfl, hq3⟩ := ho7.out.form; clear hq3)) | fail)
      have ho7m : Hid (OwnC w7 Y.heap.size 84 2 (.slice a3 (P + 1) c3) (P + 1) (M.flatMap rwL)) := Lib.hid (by rw [hMe'.out, List.flatMap_append]; exact ho7.out)
      clear k0 x0 x1 x2 hs6
      obtain ⟨Q, hQ⟩ : ∃ Q, Q = (match rows[P]? with | none => P | some y => if keyEq c.key y then P + 1 else P) := ⟨_, rfl⟩
      have hQd : Hid (pastK c.key (reK rows c.key) = rows.drop Q) := Lib.hid (by
        have h1 := (tw_take (lessR c.key) rows).2
        rw [show (rows.takeWhile (lessR c.key)).length = P from hP'.out.symm] at h1
        show pastK c.key (rows.dropWhile (lessR c.key)) = _
        rw [← h1]
        cases hy : rows[P]? with
        | none =>
          rw [hy] at hQ
          have hQ : Q = P := hQ
          rw [hQ, List.drop_of_length_le (by have := List.getElem?_eq_none_iff.1 hy; omega)]
          rfl
        | some y =>
          rw [hy] at hQ
          obtain ⟨hlt, he⟩ := List.getElem?_eq_some_iff.1 hy
          rw [List.drop_eq_getElem_cons hlt, he]
          have hQ : Q = if keyEq c.key y then P + 1 else P := hQ
          unfold pastK
          cases hk : keyEq c.key y with
          | true => rw [hk, if_pos rfl] at hQ; rw [hQ]; exact if_pos hk
          | false => rw [hk, if_neg (by simp)] at hQ; rw [hQ, List.drop_eq_getElem_cons hlt, he]; exact if_neg (by rw [hk]; simp))
      have hQm : Q ≤ m := by
        cases hy : rows[P]? with
        | none =>
          rw [hy] at hQ
          have hQ : Q = P := hQ
          omega
        | some y =>
          rw [hy] at hQ
          have hlt := (List.getElem?_eq_some_iff.1 hy).1
          rw [← hm.out] at hlt
          have hQ : Q = if keyEq c.key y then P + 1 else P := hQ
          split at hQ <;> omega
      have hQ' := Lib.hid hQ
      clear hQ
      go_cut [66] from 47 to 65 (fun t wx => t = .bool (decide (Q ≠ P)) ∧ Ext w7 wx)
      case first =>
        have hUc : Ext w7 w7 := Ext.refl _
        have hYc := hZ7.trans hUc
        obtain ⟨c1, _, c2, _, _⟩ := hS.out w7 hYc
        by_cases hjm : P < m
        · have hji : (P : Int) < (m : Int) := by omega
          obtain ⟨y, hy⟩ : ∃ y, rows[P]? = some y := ⟨_, List.getElem?_eq_getElem (by rw [← hm.out]; exact hjm)⟩
          obtain ⟨ob, oo, hat⟩ := (hR'.out w7 (hwY.trans hYc)).at
          obtain ⟨rfl, _, hdy⟩ := hat (by omega)
          have p := rws_range (by rw [← hm.out]; exact hdy) hy 0 (.string y.key) rfl
          rw [Nat.add_zero] at p
          have hQe : Hid (decide (Q ≠ P) = (y.key.toList == c.key.toList)) := Lib.hid (by
            have h5 := hQ'.out
            rw [hy] at h5
            have h5 : Q = if keyEq c.key y then P + 1 else P := h5
            show _ = keyEq c.key y
            cases hk : keyEq c.key y with
            | true => rw [hk, if_pos rfl] at h5; exact decide_eq_true (by omega)
            | false => rw [hk, if_neg (by simp)] at h5; exact decide_eq_false (by omega))
          clear hat hdy hy
          refine bqRegion (Ext w7) (by kernel_rfl) (by kernel_rfl) (Ext.refl _).drew ?_
          iterate 4 (refine bqStep (fun K hK => ?_); go_simp; first | (refine hK _ ?_; clear hK K) | (refine ⟨_, fun _ _ => rfl, hK _ ?_⟩; clear hK K))
          refine bqCell (by rfl) 22 _ (by rfl) st (0) (by rfl) _ (fun w' h => h.cell c1) _ Tryz.underlying22 rfl ?_
          simp only [Act.put, List.setIfInBounds_toArray, List.set_cons_zero, List.set_cons_succ]
          iterate 6 (refine bqStep (fun K hK => ?_); go_simp; first | (refine hK _ ?_; clear hK K) | (refine ⟨_, fun _ _ => rfl, hK _ ?_⟩; clear hK K))
          refine bqCell (by rfl) 22 _ (by rfl) st (0) (by rfl) _ (fun w' h => h.cell c1) _ Tryz.underlying22 rfl ?_
          simp only [Act.put, List.setIfInBounds_toArray, List.set_cons_zero, List.set_cons_succ]
          iterate 3 (refine bqStep (fun K hK => ?_); go_simp; first | (refine hK _ ?_; clear hK K) | (refine ⟨_, fun _ _ => rfl, hK _ ?_⟩; clear hK K))
          refine bqCell (by rfl) 9 _ (by rfl) ob (oo + P * 2) (by rfl) _ (fun w' h => h.cell p) _ Tryz.underlying9 rfl ?_
          simp only [Act.put, List.setIfInBounds_toArray, List.set_cons_zero, List.set_cons_succ]
          iterate 1 (refine bqStep (fun K hK => ?_); go_simp; first | (refine hK _ ?_; clear hK K) | (refine ⟨_, fun _ _ => rfl, hK _ ?_⟩; clear hK K))
          refine bqCell (by rfl) 9 _ (by rfl) X (0) (by rfl) _ (fun w' h => h.cell c2) _ Tryz.underlying9 rfl ?_
          simp only [Act.put, List.setIfInBounds_toArray, List.set_cons_zero, List.set_cons_succ]
          iterate 2 (refine bqStep (fun K hK => ?_); go_simp; first | (refine hK _ ?_; clear hK K) | (refine ⟨_, fun _ _ => rfl, hK _ ?_⟩; clear hK K))
          refine bqNil (fun w5 hE5 => ?_)
          clear p c1 c2
          go_wp2_with fail
          go_meet
          exact ⟨by rw [hQe.out], hUc.trans hE5⟩
        · have hji : ¬ (P : Int) < (m : Int) := by omega
          have hQ2 : Hid (decide (Q ≠ P) = false) := Lib.hid (by
            have h5 := hQ'.out
            rw [List.getElem?_eq_none (by rw [← hm.out]; omega)] at h5
            have h5 : Q = P := h5
            exact decide_eq_false (by omega))
          refine bqRegion (Ext w7) (by kernel_rfl) (by kernel_rfl) (Ext.refl _).drew ?_
          iterate 4 (refine bqStep (fun K hK => ?_); go_simp; first | (refine hK _ ?_; clear hK K) | (refine ⟨_, fun _ _ => rfl, hK _ ?_⟩; clear hK K))
          refine bqCell (by rfl) 22 _ (by rfl) st (0) (by rfl) _ (fun w' h => h.cell c1) _ Tryz.underlying22 rfl ?_
          simp only [Act.put, List.setIfInBounds_toArray, List.set_cons_zero, List.set_cons_succ]
          iterate 3 (refine bqStep (fun K hK => ?_); go_simp; first | (refine hK _ ?_; clear hK K) | (refine ⟨_, fun _ _ => rfl, hK _ ?_⟩; clear hK K))
          iterate 11 (refine bqSkip (by rfl) ?_; simp only [Act.put, List.setIfInBounds_toArray, List.set_cons_zero, List.set_cons_succ])
          iterate 1 (refine bqStep (fun K hK => ?_); go_simp; first | (refine hK _ ?_; clear hK K) | (refine ⟨_, fun _ _ => rfl, hK _ ?_⟩; clear hK K))
          refine bqNil (fun w5 hE5 => ?_)
          go_wp2_with fail
          go_meet
          exact ⟨by rw [hQ2.out], hUc.trans hE5⟩
      case rest =>
        obtain ⟨rfl, hE8⟩ := hcut
        have hYx := hZ7.trans hE8
        have ho2 := Lib.hid (ho7m.out.ext hE8)
        obtain ⟨k0, z0, _⟩ := hS.out wc hYx
        have hs1 := hYx.size
        have hQc : Q ≤ rc := by omega
        have hdr := Lib.hid (by
          have h2 := (hR'.out wc (hwY.trans hYx)).drop Q
          rw [(rws_cut rows Q).1] at h2
          exact h2)
        obtain ⟨nn, hnn⟩ : ∃ n, n = mm + (m - Q) := ⟨_, rfl⟩
        have hfl : Hid ((M.flatMap rwL) ++ (rows.drop Q).flatMap rwL = (chR rows c).flatMap rwL) := Lib.hid (by
          rw [← List.flatMap_append]
          unfold chR
          rw [hQd.out, hM'.out])
        have hnl : Hid (nn = (chR rows c).length) := Lib.hid (by
          rw [hnn]
          unfold chR
          rw [hQd.out, ← hM'.out, List.length_append, List.length_drop, ← hmm'.out, ← hm.out])
        have hend : Hid (∀ (w6 : World) (a2 : Option Addr) (c2 : Nat), Ext Y w6 → OwnC w6 Y.heap.size 84 2 (.slice a2 nn c2) nn ((chR rows c).flatMap rwL) → ChE base w st (chR rows c) sd (.returned (.tuple #[])) (w6.setCell ⟨st, 0, none⟩ (.slice a2 nn c2))) := Lib.hid (fun w6 a2 c2 hE6 ho => ref_rows h'.out (hwY.trans hE6) hnl.out (ho.weak hsY))
        have hQPe : Hid (Q = P ∨ Q = P + 1) := Lib.hid (by
          have h5 := hQ'.out
          cases hy : rows[P]? with
          | none => rw [hy] at h5; exact .inl h5
          | some y =>
            rw [hy] at h5
            have h5 : Q = if keyEq c.key y then P + 1 else P := h5
            split at h5
            · exact .inr h5
            · exact .inl h5)
        by_cases hQP : Q = P
        · have hqd : decide (Q ≠ P) = false := decide_eq_false (by omega)
          rw [hqd]
          subst hQP
          by_cases hck2 : rc = Q
          · have hdr2 : Hid (RowIs wc 2 (.slice ra 0 0) 0 ((rows.drop (Q)).flatMap rwL)) := Lib.hid (by
              have h := hdr.out
              rw [show m - (Q) = 0 by omega, show rc - (Q) = 0 by omega] at h
              unfold tailAddr at h
              rw [if_pos hck2] at h
              exact h)
            have hmP' : Hid (Q + 1 + 0 = nn) := Lib.hid (by have := hme.out; omega)
            subst hck2
            clear hdr hTk hnn
            go_wp2_with (first | (refine wpList_append_cs (by rfl) (.tmp 70) (.tmp 76) 22 84 (by rfl) Tryz.underlying22 el_row wc Y.heap.size (rc + 1) _ (.slice a3 (rc + 1) c3) (by rfl) ho2.out (.slice ra 0 0) 0 _ (by rfl) hdr2.out (rws_one _) (by omega) (by omega) hs1 ?_; go_loud (intro v2 w9 ho5 hb6; rw [hfl.out, hmP'.out] at ho5; have hZ9 : Ext Y w9 := Below.trans hYx hb6; have ho9 := Lib.hid ho5; have k6 := (hS.out w9 hZ9).1; have z6 := (hS.out w9 hZ9).2.1; clear ho5 hb6; obtain ⟨a9, c9, rfl, hq2⟩ := ho9.out.form; clear hq2)) | fail)
            go_end0
            exact hend.out _ _ _ hZ9 ho9.out
          · have hta : tailAddr ra rc (Q) 2 = Option.map (fun x => x.add ((Q) * 2)) ra := by unfold tailAddr; rw [if_neg hck2]
            have hdr2 := hdr.out
            rw [hta] at hdr2
            have hdr3 := Lib.hid hdr2
            have hmP' : Hid (Q + 1 + (m - (Q)) = nn) := Lib.hid (by have := hme.out; omega)
            clear hta hdr2 hdr hTk hnn
            go_wp2_with (first | (refine wpList_append_cs (by rfl) (.tmp 70) (.tmp 76) 22 84 (by rfl) Tryz.underlying22 el_row wc Y.heap.size (Q + 1) _ (.slice a3 (Q + 1) c3) (by rfl) ho2.out (.slice (Option.map (fun x => x.add ((Q) * 2)) ra) (m - (Q)) (rc - (Q))) (m - (Q)) _ (by rfl) hdr3.out (rws_one _) (by omega) (by omega) hs1 ?_; go_loud (intro v2 w9 ho5 hb6; rw [hfl.out, hmP'.out] at ho5; have hZ9 : Ext Y w9 := Below.trans hYx hb6; have ho9 := Lib.hid ho5; have k6 := (hS.out w9 hZ9).1; have z6 := (hS.out w9 hZ9).2.1; clear ho5 hb6; obtain ⟨a9, c9, rfl, hq2⟩ := ho9.out.form; clear hq2)) | fail)
            go_end0
            exact hend.out _ _ _ hZ9 ho9.out
        · have hqd : decide (Q ≠ P) = true := decide_eq_true hQP
          rw [hqd]
          have hQ1 : Q = P + 1 := by rcases hQPe.out with h | h; exact absurd h hQP; exact h
          subst hQ1
          by_cases hck2 : rc = P + 1
          · have hdr2 : Hid (RowIs wc 2 (.slice ra 0 0) 0 ((rows.drop (P + 1)).flatMap rwL)) := Lib.hid (by
              have h := hdr.out
              rw [show m - (P + 1) = 0 by omega, show rc - (P + 1) = 0 by omega] at h
              unfold tailAddr at h
              rw [if_pos hck2] at h
              exact h)
            have hmP' : Hid (P + 1 + 0 = nn) := Lib.hid (by have := hme.out; omega)
            subst hck2
            clear hdr hTk hnn
            go_wp2_with (first | (refine wpList_append_cs (by rfl) (.tmp 70) (.tmp 76) 22 84 (by rfl) Tryz.underlying22 el_row wc Y.heap.size (P + 1) _ (.slice a3 (P + 1) c3) (by rfl) ho2.out (.slice ra 0 0) 0 _ (by rfl) hdr2.out (rws_one _) (by omega) (by omega) hs1 ?_; go_loud (intro v2 w9 ho5 hb6; rw [hfl.out, hmP'.out] at ho5; have hZ9 : Ext Y w9 := Below.trans hYx hb6; have ho9 := Lib.hid ho5; have k6 := (hS.out w9 hZ9).1; have z6 := (hS.out w9 hZ9).2.1; clear ho5 hb6; obtain ⟨a9, c9, rfl, hq2⟩ := ho9.out.form; clear hq2)) | fail)
            go_end0
            exact hend.out _ _ _ hZ9 ho9.out
          · have hta : tailAddr ra rc (P + 1) 2 = Option.map (fun x => x.add ((P + 1) * 2)) ra := by unfold tailAddr; rw [if_neg hck2]
            have hdr2 := hdr.out
            rw [hta] at hdr2
            have hdr3 := Lib.hid hdr2
            have hmP' : Hid (P + 1 + (m - (P + 1)) = nn) := Lib.hid (by have := hme.out; omega)
            clear hta hdr2 hdr hTk hnn
            go_wp2_with (first | (refine wpList_append_cs (by rfl) (.tmp 70) (.tmp 76) 22 84 (by rfl) Tryz.underlying22 el_row wc Y.heap.size (P + 1) _ (.slice a3 (P + 1) c3) (by rfl) ho2.out (.slice (Option.map (fun x => x.add ((P + 1) * 2)) ra) (m - (P + 1)) (rc - (P + 1))) (m - (P + 1)) _ (by rfl) hdr3.out (rws_one _) (by omega) (by omega) hs1 ?_; go_loud (intro v2 w9 ho5 hb6; rw [hfl.out, hmP'.out] at ho5; have hZ9 : Ext Y w9 := Below.trans hYx hb6; have ho9 := Lib.hid ho5; have k6 := (hS.out w9 hZ9).1; have z6 := (hS.out w9 hZ9).2.1; clear ho5 hb6; obtain ⟨a9, c9, rfl, hq2⟩ := ho9.out.form; clear hq2)) | fail)
            go_end0
            exact hend.out _ _ _ hZ9 ho9.out
end
end Go.Proofs.YthageoibkeebhaaGreatDoor
