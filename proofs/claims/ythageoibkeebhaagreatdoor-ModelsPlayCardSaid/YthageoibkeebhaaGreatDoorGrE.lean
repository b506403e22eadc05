/- Several texts in one: Mod7 Mod8. No condition. -/
import Derived.Test.YthageoibkeebhaaGreatDoorGrC
import Derived.Test.YthageoibkeebhaaGreatDoorGrD
/- A reply without rows and its twin. No condition. -/
namespace Go.Proofs.YthageoibkeebhaaGreatDoor
open Go.RowKit
set_option maxRecDepth 100000
set_option maxHeartbeats 800000
theorem rw_eql_nil (w : World) (a : Option Addr) (n c n' c' : Nat) : (binOp .eql 22 (.slice a n c) (.slice none n' c')).run Tryz.prog w = .ok (.bool a.isNone) w := Lib.run_eql_slice_nil w _ _ a n c n' c' Tryz.underlying22
theorem clone_none (w : World) : Calls Tryz.prog 113 #[.slice none 0 0] w fun e w' => e = .returned (.slice none 0 0) ∧ w = w' := by
  have q30 := rw_eql_nil
  go_enter Tryz.func113, Tryz.ntmps113
  go_wp2
  go_ret
  exact ⟨rfl, rfl⟩
def reG (i : Int) (b : Bool) : Array Value := #[.int .i64 i, .bool b, .slice none 0 0]
theorem reG_one (i : Int) (b : Bool) : (reG i b).all (·.oneCell') = true := by kernel_rfl
theorem st_twin (w : World) (i : Int) (b : Bool) : Calls Tryz.prog 43 #[.agg (reG i b)] w fun e w' => e = .returned (.agg (reG i b)) ∧ Ext w w' := by
  obtain ⟨W, hW⟩ : ∃ W, W = (w.alloc (.cells (reG i b) 74)).alloc (.cells zRe 74) := ⟨_, rfl⟩
  have hE : Ext w W := by rw [hW]; exact ((Ext.refl _).alloc _).alloc _
  have hX : W.heap[w.heap.size]? = some (.cells (reG i b) 74 (0, 0)) := by rw [hW]; exact ((Ext.refl _).alloc _).row (heap_alloc_new w _)
  have hR : W.heap[w.heap.size + 1]? = some (.cells zRe 74 (0, 0)) := by
    have h1 := heap_alloc_new (w.alloc (.cells (reG i b) 74)) (.cells zRe 74)
    rw [show (w.alloc (.cells (reG i b) 74)).heap.size = w.heap.size + 1 by simp] at h1
    rw [hW]; exact h1
  have hW' := Lib.hid hW
  have hX' := Lib.hid hX
  have hR' := Lib.hid hR
  clear hW hX hR
  unfold reG zRe at hW'
  unfold reG
  go_enter Tryz.func43, Tryz.ntmps43
  go_upto_region 1 with fail
  rw [← hW'.out]
  clear hW'
  obtain ⟨x0, x1, x2⟩ := re_cells hX'.out
  have f2 : W.frozen? ⟨w.heap.size, 2, none⟩ = false := fz hX'.out
  go_upto_region 2 with (first | (go_at_call 113; refine (clone_none _).mono ?_; rintro e w' ⟨rfl, rfl⟩) | fail)
  have hE2 : Ext w (W.setCell ⟨w.heap.size, 2, none⟩ (.slice none 0 0)) := hE.setCell (Nat.le_refl _) _
  have hX2 : (W.setCell ⟨w.heap.size, 2, none⟩ (.slice none 0 0)).heap[w.heap.size]? = some (.cells (reG i b) 74 (0, 0)) := by simp [World.setCell, Array.getElem?_modify, hX'.out, reG]
  have hR2 : (W.setCell ⟨w.heap.size, 2, none⟩ (.slice none 0 0)).heap[w.heap.size + 1]? = some (.cells zRe 74 (0, 0)) := (Below.heap_setCell _ _ _ _ (by simp)).trans hR'.out
  clear hX' hR' x0 x1 x2 f2 hE
  generalize W.setCell ⟨w.heap.size, 2, none⟩ (.slice none 0 0) = W2 at *
  obtain ⟨x0, x1, x2⟩ := re_cells hX2
  go_wp2_with (first | (refine wpList_store_row (by rfl) 74 (.tmp 2) (.tmp 7) (by rfl) (w.heap.size + 1) (reG i b) (by rfl) (by rfl) 74 zRe hR2 (by exact info_reply) (by rfl) (reG_one _ _) ?_) | fail)
  have hset : (W2.setRow (w.heap.size + 1) (reG i b)).heap[w.heap.size + 1]? = some (.cells (reG i b) 74 (0, 0)) := by rw [setRow_heap _ _ _ _ _ _ hR2]
  have hEf : Ext w (W2.setRow (w.heap.size + 1) (reG i b)) := hE2.setRow (by omega) _
  generalize W2.setRow (w.heap.size + 1) (reG i b) = Wf at *
  obtain ⟨c0, c1, c2⟩ := re_cells hset
  exact bodyPost_ret (v := .agg (reG i b)) (by simp [results, Tryz.results43, go_sem, c0, c1, c2, reG]) rfl ⟨rfl, hEf⟩
theorem made_row2 (w : World) (e : TypeId) (size : Nat) : (w.alloc (.cells #[] e)).ownsRow w.heap.size e size (.slice (some ⟨w.heap.size, 0, none⟩) 0 0) 0 [] := World.ownsRow_made w #[] 0 (Nat.le_refl _) (Nat.zero_le _) (by simp)
theorem rws_one (l : List Rw) : ∀ u ∈ l.flatMap rwL, u.oneCell' = true := by
  intro u hu
  obtain ⟨r, _, h⟩ := List.mem_flatMap.1 hu
  simp only [rwL, List.mem_cons, List.not_mem_nil, or_false] at h
  rcases h with rfl | rfl <;> rfl
/-- slices.Clone of rows. -/
theorem clone_rw (w : World) (l : List Rw) (a : Option Addr) (cap : Nat) (hr : RowIs w 2 (.slice a l.length cap) l.length (l.flatMap rwL)) (hn : l.length ≤ 1000000) :
    Calls Tryz.prog 113 #[.slice a l.length cap] w fun e w' => ∃ a' cap', e = .returned (.slice a' l.length cap') ∧ w'.ownsRow w.heap.size 84 2 (.slice a' l.length cap') l.length (l.flatMap rwL) ∧ Ext w w' := by
  have h1 := rws_one l
  generalize l.flatMap rwL = xs at *
  generalize l.length = n at *
  have q30 := rw_eql_nil
  cases a with
  | none =>
    obtain ⟨hl, _, ⟨rfl, a', cap', he, hc⟩ | ⟨b, off, cap', he, _⟩⟩ := hr
    · injection he with e1 _ e3
      subst e1 e3
      obtain rfl := hc rfl
      obtain rfl : xs = [] := List.eq_nil_of_length_eq_zero (by simpa using hl)
      go_enter Tryz.func113, Tryz.ntmps113
      go_wp2
      go_ret
      exact ⟨none, 0, rfl, World.ownsRow_nil _ _ _ _, Ext.refl _⟩
    · injection he with e1; cases e1
  | some ad =>
    have hl := hr.2.1
    go_enter Tryz.func113, Tryz.ntmps113
    go_wp2_with (at_builtin; refine wpList_append_row rfl (.tmp 5) (.tmp 6) 22 84 rfl Tryz.underlying22 el_row (w.alloc (.cells #[] 84)) w.heap.size 0 [] _ (by rfl) (made_row2 w 84 2) (.slice (some ad) n cap) n xs rfl (hr.ext ((Ext.refl w).alloc _)) h1 (by omega) (by omega) (by simp) ?_; intro v' w' hown hb)
    go_ret
    rw [Nat.zero_add, List.nil_append] at hown
    obtain ⟨a', cap', rfl, hc⟩ := own_slice hown
    exact ⟨a', cap', rfl, hown, Below.trans ((Ext.refl w).alloc _) hb⟩
def reH (i : Int) (b : Bool) (v : Value) : Array Value := #[.int .i64 i, .bool b, v]
theorem reH_one (i : Int) (b : Bool) (a : Option Addr) (n c : Nat) : (reH i b (.slice a n c)).all (·.oneCell') = true := by kernel_rfl
/-- A reply's twin: its rows in memory of the call's own. -/
theorem st_twin_rows (w : World) (i : Int) (b : Bool) (l : List Rw) (a : Option Addr) (cap : Nat) (hr : RowIs w 2 (.slice a l.length cap) l.length (l.flatMap rwL)) (hn : l.length ≤ 1000000) :
    Calls Tryz.prog 43 #[.agg (reH i b (.slice a l.length cap))] w fun e w' => ∃ a' cap', e = .returned (.agg (reH i b (.slice a' l.length cap'))) ∧ (RowIs w' 2 (.slice a' l.length cap') l.length (l.flatMap rwL) ∧ OwnC w' w.heap.size 84 2 (.slice a' l.length cap') l.length (l.flatMap rwL)) ∧ Out (fun i => i < w.heap.size) (.slice a' l.length cap') ∧ Ext w w' := by
  obtain ⟨V, hV⟩ : ∃ V, V = reH i b (.slice a l.length cap) := ⟨_, rfl⟩
  obtain ⟨W, hW⟩ : ∃ W, W = (w.alloc (.cells (reH i b (.slice a l.length cap)) 74)).alloc (.cells zRe 74) := ⟨_, rfl⟩
  have hE : Ext w W := by rw [hW]; exact ((Ext.refl _).alloc _).alloc _
  have hX : W.heap[w.heap.size]? = some (.cells (reH i b (.slice a l.length cap)) 74 (0, 0)) := by rw [hW]; exact ((Ext.refl _).alloc _).row (heap_alloc_new w _)
  have hR : W.heap[w.heap.size + 1]? = some (.cells zRe 74 (0, 0)) := by
    have h1 := heap_alloc_new (w.alloc (.cells (reH i b (.slice a l.length cap)) 74)) (.cells zRe 74)
    rw [show (w.alloc (.cells (reH i b (.slice a l.length cap)) 74)).heap.size = w.heap.size + 1 by simp] at h1
    rw [hW]; exact h1
  have hWs : W.heap.size = w.heap.size + 2 := by rw [hW]; simp
  have hr' := Lib.hid (hr.ext hE)
  have hW' := Lib.hid hW
  have hX' := Lib.hid hX
  have hR' := Lib.hid hR
  clear hW hX hR hr hV V
  unfold reH zRe at hW'
  unfold reH
  go_enter Tryz.func43, Tryz.ntmps43
  go_upto_region 1 with fail
  rw [← hW'.out]
  clear hW'
  obtain ⟨x0, x1, x2⟩ := re_cells hX'.out
  go_wp2_with fail
  refine (clone_rw _ l a cap hr'.out hn).mono ?_
  rintro e w1 ⟨a', cap', rfl, hr1, hE1⟩
  have hX1 := Lib.hid (hE1.row hX'.out)
  have hR1 := Lib.hid (hE1.row hR'.out)
  have f2 : w1.frozen? ⟨w.heap.size, 2, none⟩ = false := fz hX1.out
  have y2 := (re_cells hX1.out).2.2
  have hs1 : W.heap.size ≤ w1.heap.size := hE1.size
  clear hX' hR' x0 x1 x2 hr'
  go_upto_region 2 with fail
  have hE2 : Ext w (w1.setCell ⟨w.heap.size, 2, none⟩ (.slice a' l.length cap')) := (hE.trans hE1).setCell (Nat.le_refl _) _
  have hX2 : (w1.setCell ⟨w.heap.size, 2, none⟩ (.slice a' l.length cap')).heap[w.heap.size]? = some (.cells (reH i b (.slice a' l.length cap')) 74 (0, 0)) := by simp [World.setCell, Array.getElem?_modify, hX1.out, reH]
  have hR2 : (w1.setCell ⟨w.heap.size, 2, none⟩ (.slice a' l.length cap')).heap[w.heap.size + 1]? = some (.cells zRe 74 (0, 0)) := (Below.heap_setCell _ _ _ _ (by simp)).trans hR1.out
  have hOf : OffB (· = w.heap.size) w1 (w1.setCell ⟨w.heap.size, 2, none⟩ (.slice a' l.length cap')) := OffB.setCell (B := (· = w.heap.size)) (a := w1) (w := w1) (OffB.refl _) (p := ⟨w.heap.size, 2, none⟩) rfl _
  have hrow := (RowIs.of_own hr1).off (Out.of_own hr1 (fun k hk => by omega)) hOf
  have hs2 : w1.heap.size ≤ (w1.setCell ⟨w.heap.size, 2, none⟩ (.slice a' l.length cap')).heap.size := hOf.size
  have hO1 := Out.of_own (B := (· = w.heap.size + 1)) hr1 (fun k hk => by omega)
  have hO0 := Out.of_own (B := (· < w.heap.size)) hr1 (fun k hk => by omega)
  have hown2 := (OwnC.of_own hr1).offB hOf (fun q hq hB => by have h5 := (hr1.lt q hq).1; have hB : q = w.heap.size := hB; omega)
  clear hX1 hR1 f2 y2 hE hE1 hr1 hOf
  generalize w1.setCell ⟨w.heap.size, 2, none⟩ (.slice a' l.length cap') = W2 at *
  obtain ⟨x0, x1, x2⟩ := re_cells hX2
  go_wp2_with (first | (refine wpList_store_row (by rfl) 74 (.tmp 2) (.tmp 7) (by rfl) (w.heap.size + 1) (reH i b (.slice a' l.length cap')) (by rfl) (by rfl) 74 zRe hR2 (by exact info_reply) (by rfl) (reH_one _ _ _ _ _) ?_) | fail)
  have hset : (W2.setRow (w.heap.size + 1) (reH i b (.slice a' l.length cap'))).heap[w.heap.size + 1]? = some (.cells (reH i b (.slice a' l.length cap')) 74 (0, 0)) := by rw [setRow_heap _ _ _ _ _ _ hR2]
  have hEf : Ext w (W2.setRow (w.heap.size + 1) (reH i b (.slice a' l.length cap'))) := hE2.setRow (by omega) _
  have hOg : OffB (· = w.heap.size + 1) W2 (W2.setRow (w.heap.size + 1) (reH i b (.slice a' l.length cap'))) := ⟨rfl, rfl, rfl, by simp, fun k _ hq => setRow_other _ _ _ _ hq⟩
  have hrow2 := hrow.off hO1 hOg
  have hown3 := (hown2.offB hOg (fun q hq hB => by have h5 := (hown2.lt q hq).1; have hB : q = w.heap.size + 1 := hB; omega)).weak (show w.heap.size ≤ W.heap.size by omega)
  generalize W2.setRow (w.heap.size + 1) (reH i b (.slice a' l.length cap')) = Wf at *
  obtain ⟨c0, c1, c2⟩ := re_cells hset
  exact bodyPost_ret (v := .agg (reH i b (.slice a' l.length cap'))) (by simp [results, Tryz.results43, go_sem, c0, c1, c2, reH]) rfl ⟨a', cap', rfl, ⟨hrow2, hown3⟩, hO0, hEf⟩
end Go.Proofs.YthageoibkeebhaaGreatDoor

/- The table of the state's answers: kinds to functions. No condition. -/
namespace Go.Proofs.YthageoibkeebhaaGreatDoor
open Go.RowKit Go.Maps Go.WideMaps
set_option maxRecDepth 100000
set_option maxHeartbeats 800000
/-- A function without captures, as an element of a map: its number. -/
def rdF : Value → Option (DataW Unit × List MemPlace)
  | .func (.func g) ⟨[]⟩ ⟨[]⟩ => some (.lit (.int .u64 (g : Int)), [])
  | .nilFunc => some (.lit (.bool false), [])
  | _ => none
theorem rdF_inv {v : Value} {g : Nat} {ps : List MemPlace} (h : rdF v = some (.lit (.int .u64 (g : Int)), ps)) : v = .func (.func g) #[] #[] := by
  unfold rdF at h
  split at h
  · simp at h
    obtain ⟨h, _⟩ := h
    have := Int.ofNat.inj h
    rw [this]
  · simp at h
  · cases h
theorem keyed8 : Keyed Tryz.prog 63 := int_keyed Tryz.underlying63
theorem look8 {W : World} {mb n : Nat} {D : DataW Unit} (h : W.ownsMap Tryz.prog 63 rdF mb n D) {e : TypeId} (ht : Tryz.prog.underlying 118 = some (.map 63 e)) (hz : (zeroValue e).run Tryz.prog W = .ok .nilFunc W) (k : Int) (hk : (Lit.int .u8 k).wf = true) (f : Nat) (hat : D.atKey (.int .u8 k) (.lit (.bool false)) = .lit (.int .u64 (f : Int))) :
    (Instr.lookup 118 (.map (some mb)) (.int .u8 k) false).run Tryz.prog W = .ok (.func (.func f) #[] #[]) W := by
  obtain ⟨v, ps, hrun, hv⟩ := h.lookup keyed8 ht hz (zd := .lit (.bool false)) (zp := []) rfl (keyOf_int_mk Tryz.underlying63 hk)
  rw [hat] at hv
  rw [hrun, rdF_inv hv]
/-- The functions by their kinds. -/
def kindF : List (Int × Nat) := [(1, 146), (2, 147), (3, 100), (4, 146), (5, 148), (6, 149)]
theorem st_replies (w : World) : Calls Tryz.prog 103 #[] w fun e w' => ∃ mb, e = .returned (.map (some mb)) ∧ Ext w w' ∧ ∀ W, Ext w' W → ∀ p ∈ kindF, (Instr.lookup 118 (.map (some mb)) (.int .u8 p.1) false).run Tryz.prog W = .ok (.func (.func p.2) #[] #[]) W := by
  have hmm := @run_makeMap Tryz.prog
  obtain ⟨w1, r1, o1, g1⟩ := (World.ownsMap_made w Tryz.prog 63 rdF).update keyed8 Tryz.underlying118 (by unfold maxLen; omega) (keyOf_int_mk Tryz.underlying63 (a := 1) rfl) (val := .func (.func 146) #[] #[]) (d := .lit (.int .u64 146)) (ps := []) rfl
  obtain ⟨w2, r2, o2, g2⟩ := o1.update keyed8 Tryz.underlying118 (by unfold maxLen; omega) (keyOf_int_mk Tryz.underlying63 (a := 2) rfl) (val := .func (.func 147) #[] #[]) (d := .lit (.int .u64 147)) (ps := []) rfl
  obtain ⟨w3, r3, o3, g3⟩ := o2.update keyed8 Tryz.underlying118 (by unfold maxLen; omega) (keyOf_int_mk Tryz.underlying63 (a := 3) rfl) (val := .func (.func 100) #[] #[]) (d := .lit (.int .u64 100)) (ps := []) rfl
  obtain ⟨w4, r4, o4, g4⟩ := o3.update keyed8 Tryz.underlying118 (by unfold maxLen; omega) (keyOf_int_mk Tryz.underlying63 (a := 4) rfl) (val := .func (.func 146) #[] #[]) (d := .lit (.int .u64 146)) (ps := []) rfl
  obtain ⟨w5, r5, o5, g5⟩ := o4.update keyed8 Tryz.underlying118 (by unfold maxLen; omega) (keyOf_int_mk Tryz.underlying63 (a := 5) rfl) (val := .func (.func 148) #[] #[]) (d := .lit (.int .u64 148)) (ps := []) rfl
  obtain ⟨w6, r6, o6, g6⟩ := o5.update keyed8 Tryz.underlying118 (by unfold maxLen; omega) (keyOf_int_mk Tryz.underlying63 (a := 6) rfl) (val := .func (.func 149) #[] #[]) (d := .lit (.int .u64 149)) (ps := []) rfl
  have hg : Ext w w6 := by
    have hs : (w.alloc (.map #[] 0)).heap.size = w.heap.size + 1 := by simp
    have h1 := g1.size; have h2 := g2.size; have h3 := g3.size; have h4 := g4.size; have h5 := g5.size; have h6 := g6.size
    refine Below.trans ((Ext.refl w).alloc (.map #[] 0)) ⟨?_, ?_, ?_, by omega, fun k hk => ?_⟩
    · rw [g6.os, g5.os, g4.os, g3.os, g2.os, g1.os]
    · rw [g6.tape, g5.tape, g4.tape, g3.tape, g2.tape, g1.tape]
    · rw [g6.output, g5.output, g4.output, g3.output, g2.output, g1.output]
    · have hne : some k ≠ some w.heap.size := fun e => by injection e; omega
      rw [g6.block k (by omega) hne, g5.block k (by omega) hne, g4.block k (by omega) hne, g3.block k (by omega) hne, g2.block k (by omega) hne, g1.block k (by omega) hne]
  have o6' := Lib.hid o6
  have hg' := Lib.hid hg
  clear o1 o2 o3 o4 o5 o6 g1 g2 g3 g4 g5 g6 hg
  go_enter Tryz.func103, Tryz.ntmps103
  go_wp2
  go_ret
  refine ⟨_, rfl, hg'.out, fun W hW p hp => ?_⟩
  have o7 := o6'.out.kept (grown_of_ext hW) (by simp)
  simp only [kindF, List.mem_cons, List.not_mem_nil, or_false] at hp
  rcases hp with rfl | rfl | rfl | rfl | rfl | rfl
  all_goals exact look8 o7 Tryz.underlying118 (by kernel_rfl) _ rfl _ rfl
end Go.Proofs.YthageoibkeebhaaGreatDoor
