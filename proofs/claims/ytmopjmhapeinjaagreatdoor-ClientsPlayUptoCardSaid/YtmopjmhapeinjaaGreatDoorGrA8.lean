/- Several texts in one: Cli2 Cli3. No condition. -/
import Derived.Test.YtmopjmhapeinjaaGreatDoorGrA7
import Derived.Test.YtmopjmhapeinjaaGreatDoorGrA4
import Derived.Deep.QuietTactic
import Derived.BigQuiet
/- A client's Waits and Ask. No condition. -/
namespace Go.Proofs.YtmopjmhapeinjaaGreatDoor
open Go.RowKit
theorem waits_idle (w : World) (c : Nat) (id num : Int) (h : ClAt w c id num none) (h1 : 1 ≤ id) : Calls Tryz.prog 24 #[.pointer (some ⟨c, 0, none⟩)] w fun e w' => e = .returned (.tuple #[.int .u32 0, .bool false]) ∧ w = w' := by
  obtain ⟨c0, c1, c2, cf⟩ := h.cells
  clear cf
  go_enter Tryz.func24, Tryz.ntmps24
  go_wp2_with fail
  refine (there_any _ c id num _ h h1).mono ?_
  rintro e w' ⟨rfl, rfl⟩
  go_wp2
  go_ret2
  exact ⟨rfl, rfl⟩
theorem waits_waits (w : World) (c : Nat) (id num : Int) (g : Addr) (h : ClAt w c id num (some g)) (h1 : 1 ≤ id) : Calls Tryz.prog 24 #[.pointer (some ⟨c, 0, none⟩)] w fun e w' => e = .returned (.tuple #[.int .u32 num, .bool true]) ∧ w = w' := by
  obtain ⟨c0, c1, c2, cf⟩ := h.cells
  clear cf
  go_enter Tryz.func24, Tryz.ntmps24
  go_wp2_with fail
  refine (there_any _ c id num _ h h1).mono ?_
  rintro e w' ⟨rfl, rfl⟩
  go_wp2
  go_ret2
  exact ⟨rfl, rfl⟩
/-- An ask's block. -/
theorem ask_cells {W : World} {g : Nat} {x : Ak} {v : Value} (h : W.heap[g]? = some (.cells (x.row v) 50 (0, 0))) : W.rangeAt g 0 (x.row v).toList ∧ W.cell? ⟨g, 7, none⟩ = some v ∧ W.frozen? ⟨g, 7, none⟩ = false := by
  refine ⟨fun r u hu => ?_, ?_, ?_⟩
  · rw [Nat.zero_add, cell_of_row _ _ r _ 50 (0, 0) h, ← hu]; simp
  · rw [cell_of_row _ _ 7 _ 50 (0, 0) h]; rfl
  · unfold World.frozen?; rw [h]; simp
theorem ask_put {W : World} {g : Nat} {x : Ak} {v : Value} (h : W.heap[g]? = some (.cells (x.row v) 50 (0, 0))) (v' : Value) : (W.setCell ⟨g, 7, none⟩ v').heap[g]? = some (.cells (x.row v') 50 (0, 0)) := by
  rw [setCell_eq_setRow _ _ _ _ _ _ _ h, setRow_heap _ _ _ _ _ _ h]; rfl
theorem OffB.trans_new {B : Nat → Prop} {a w : World} (h : OffB B a w) {p : Addr} (hp : a.heap.size ≤ p.block) (u : Value) : OffB B a (w.setCell p u) :=
  ⟨h.os, h.tape, h.output, by simpa using h.size, fun k hk hn => by rw [Below.heap_setCell w p u k (by omega)]; exact h.block k hk hn⟩
def lvB (lv : Int) : Bool := lv == 1 || lv == 2
set_option maxRecDepth 100000 in
set_option maxHeartbeats 1000000 in
theorem cask_arg (w : World) (c : Nat) (id num : Int) (p : Option Addr) (x : Ak) (a : Option Addr) (cap : Nat) (lv : Int) (h : ClAt w c id num p) (h1 : 1 ≤ id) (hx : ChsAt w x.chs a cap) (hs : x.small) (hb : (x.okB && lvB lv) = false) :
    Calls Tryz.prog 9 #[.pointer (some ⟨c, 0, none⟩), .agg (x.row (.slice a x.chs.length cap)), .int .u8 lv] w fun e w' => e = .returned (.tuple #[.int .u32 0, .int .i64 1]) ∧ Ext w w' := by
  have hb' := Lib.hid hb
  clear hb
  obtain ⟨W, hW⟩ : ∃ W, W = w.alloc (.cells (x.row (.slice a x.chs.length cap)) 50) := ⟨_, rfl⟩
  have hE : Ext w W := by rw [hW]; exact (Ext.refl w).alloc _
  have hbx : W.heap[w.heap.size]? = some (.cells (x.row (.slice a x.chs.length cap)) 50 (0, 0)) := by rw [hW]; exact heap_alloc_new _ _
  obtain ⟨hrg, _, _⟩ := ask_cells hbx
  have hcl := h.ext hE
  have hW' := Lib.hid hW
  clear hW hbx
  unfold Ak.row at hW' hrg ⊢
  go_enter Tryz.func9, Tryz.ntmps9
  go_wp2_with fail
  rw [← hW'.out]
  clear hW'
  refine (there_any _ c id num _ hcl h1).mono ?_
  rintro e w' ⟨rfl, rfl⟩
  go_wp2_with (first | (refine wpList_load_mid (by rfl) 50 (.tmp 4) (by rfl) w.heap.size 0 (by rfl) (x.row (.slice a x.chs.length cap)).toList _ hrg Tryz.underlying50 rfl (by rw [ask_len]; exact info_ask) ?_) | fail)
  refine (check_any _ x a cap (hx.ext hE) hs).mono ?_
  rintro e w1 ⟨rfl, hE1⟩
  have hE2 := hE.trans hE1
  cases hok : x.okB
  · have hok' := Lib.hid hok
    clear hok
    go_wp2_with fail
    go_ret2
    exact ⟨rfl, hE2⟩
  · have hlv : lvB lv = false := by have := hb'.out; rw [hok] at this; simpa using this
    have l1 : ¬ lv = 1 := by unfold lvB at hlv; simp at hlv; exact hlv.1
    have l2 : ¬ lv = 2 := by unfold lvB at hlv; simp at hlv; exact hlv.2
    have hok' := Lib.hid hok
    clear hok hlv
    go_wp2_with fail
    go_ret2
    exact ⟨rfl, hE2⟩
set_option maxRecDepth 100000 in
set_option maxHeartbeats 1000000 in
theorem cask_state (w : World) (c : Nat) (id num : Int) (p : Addr) (x : Ak) (a : Option Addr) (cap : Nat) (lv : Int) (h : ClAt w c id num (some p)) (h1 : 1 ≤ id) (hx : ChsAt w x.chs a cap) (hs : x.small) (hok : x.okB = true) (hlv : lv = 1 ∨ lv = 2) :
    Calls Tryz.prog 9 #[.pointer (some ⟨c, 0, none⟩), .agg (x.row (.slice a x.chs.length cap)), .int .u8 lv] w fun e w' => e = .returned (.tuple #[.int .u32 0, .int .i64 9]) ∧ Ext w w' := by
  obtain ⟨W, hW⟩ : ∃ W, W = w.alloc (.cells (x.row (.slice a x.chs.length cap)) 50) := ⟨_, rfl⟩
  have hE : Ext w W := by rw [hW]; exact (Ext.refl w).alloc _
  have hbx : W.heap[w.heap.size]? = some (.cells (x.row (.slice a x.chs.length cap)) 50 (0, 0)) := by rw [hW]; exact heap_alloc_new _ _
  obtain ⟨hrg, _, _⟩ := ask_cells hbx
  have hcl := h.ext hE
  have hW' := Lib.hid hW
  have hok' := Lib.hid hok
  clear hW hbx hok
  unfold Ak.row at hW' hrg ⊢
  rcases hlv with rfl | rfl
  all_goals
    go_enter Tryz.func9, Tryz.ntmps9
    go_wp2_with fail
    rw [← hW'.out]
    clear hW'
    refine (there_any _ c id num _ hcl h1).mono ?_
    rintro e w' ⟨rfl, rfl⟩
    go_wp2_with (first | (refine wpList_load_mid (by rfl) 50 (.tmp 4) (by rfl) w.heap.size 0 (by rfl) (x.row (.slice a x.chs.length cap)).toList _ hrg Tryz.underlying50 rfl (by rw [ask_len]; exact info_ask) ?_) | fail)
    refine (check_any _ x a cap (hx.ext hE) hs).mono ?_
    rw [hok'.out]
    rintro e w1 ⟨rfl, hE1⟩
    have hE2 := hE.trans hE1
    obtain ⟨c0, c1, c2, cf⟩ := (hcl.ext hE1).cells
    go_wp2_with fail
    go_ret2
    exact ⟨rfl, hE2⟩
theorem run_build_asked (x : Ak) (v : Value) (lv : Int) (w : World) : (Instr.build 95 #[(0, .agg (x.row v)), (1, .int .u8 lv)]).run Tryz.prog w = .ok (.agg ((x.row v).push (.int .u8 lv))) w := by kernel_rfl
theorem wpList_build_asked {ops : Array Oper} {rest : List Oper} {o : Oper} {a : Act} {Q : Exit → Act → World → Prop} {w : World} (hgd : o.guard = none) (p q : Operand) (ho : o.op = .build 95 #[(0, p), (1, q)]) (x : Ak) (v : Value) (lv : Int) (hp : a.eval p = .agg (x.row v)) (hq : a.eval q = .int .u8 lv)
    (h : wpList Tryz.prog ops Q rest (a.put o.dst (.agg ((x.row v).push (.int .u8 lv)))) w) : wpList Tryz.prog ops Q (o :: rest) a w := by
  refine wpList_plain hgd fun K hK => ?_
  unfold Oper.wp execOp
  simp only [ho, hp, hq, List.map_toArray, List.map_cons, List.map_nil, Sem.run_bind, Result.andThen_ok, run_build_asked, Sem.run_pure]
  exact hK _ _ h
/-- What Ask leaves: the client waits. -/
def AskedNow (w : World) (c : Nat) (id num : Int) (x : Ak) (lv : Int) (w' : World) : Prop := ∃ g a cap, ClAt w' c id num (some ⟨g, 0, none⟩) ∧ WaAt w' g x lv a cap ∧ w.heap.size ≤ g ∧ ((∀ q, a = some q → w.heap.size ≤ q.block) ∧ OwnC w' w.heap.size 93 3 (.slice a x.chs.length cap) x.chs.length (x.chs.flatMap Ch.cells)) ∧ OffB (fun k => k = c) w w'
set_option maxRecDepth 100000 in
set_option maxHeartbeats 1000000 in
theorem cask_ok1 (w : World) (c : Nat) (id num : Int) (x : Ak) (a : Option Addr) (cap : Nat) (h : ClAt w c id num none) (h1 : 1 ≤ id) (hn0 : 0 ≤ num) (hn : num < 4294967295) (hx : ChsAt w x.chs a cap) (hs : x.small) (hok : x.okB = true) (hac : ∀ w', OffB (fun k => k = c) w w' → ChsAt w' x.chs a cap) :
    Calls Tryz.prog 9 #[.pointer (some ⟨c, 0, none⟩), .agg (x.row (.slice a x.chs.length cap)), .int .u8 1] w fun e w' => e = .returned (.tuple #[.int .u32 (num + 1), .int .i64 0]) ∧ AskedNow w c id (num + 1) x 1 w' := by
  obtain ⟨W, hW⟩ : ∃ W, W = w.alloc (.cells (x.row (.slice a x.chs.length cap)) 50) := ⟨_, rfl⟩
  have hE : Ext w W := by rw [hW]; exact (Ext.refl w).alloc _
  have hbx : W.heap[w.heap.size]? = some (.cells (x.row (.slice a x.chs.length cap)) 50 (0, 0)) := by rw [hW]; exact heap_alloc_new _ _
  obtain ⟨hrg, _, _⟩ := ask_cells hbx
  have hcl := h.ext hE
  have hcw : c < w.heap.size := (Array.getElem?_eq_some_iff.1 h).1
  have hW' := Lib.hid hW
  have hok' := Lib.hid hok
  have e1 : IntKind.u32.wrap (num + 1) = num + 1 := by rw [IntKind.wrap_u32]; omega
  clear hW hok
  unfold Ak.row at hW' hrg ⊢
  all_goals
    go_enter Tryz.func9, Tryz.ntmps9
    go_wp2_with fail
    rw [← hW'.out]
    clear hW'
    refine (there_any _ c id num _ hcl h1).mono ?_
    rintro e w' ⟨rfl, rfl⟩
    go_wp2_with (first | (refine wpList_load_mid (by rfl) 50 (.tmp 4) (by rfl) w.heap.size 0 (by rfl) (x.row (.slice a x.chs.length cap)).toList _ hrg Tryz.underlying50 rfl (by rw [ask_len]; exact info_ask) ?_) | fail)
    refine (check_any _ x a cap (hx.ext hE) hs).mono ?_
    rw [hok'.out]
    rintro e w1 ⟨rfl, hE1⟩
    have hcl1 := hcl.ext hE1
    have hcl2 := hcl1.put1 (num + 1)
    have hO2 : OffB (fun k => k = c) w (w1.setCell ⟨c, 1, none⟩ (.int .u32 (num + 1))) := OffB.setCell (B := fun k => k = c) (.of_ext (hE.trans hE1)) rfl _
    have hbx2 : (w1.setCell ⟨c, 1, none⟩ (.int .u32 (num + 1))).heap[w.heap.size]? = some (.cells (x.row (.slice a x.chs.length cap)) 50 (0, 0)) := by
      rw [Below.heap_setCell w1 ⟨c, 1, none⟩ _ w.heap.size (by simp; omega)]; exact hE1.row hbx
    have hx2 : ChsAt (w1.setCell ⟨c, 1, none⟩ (.int .u32 (num + 1))) x.chs a cap := hac _ hO2
    have hc2 : c ≠ w.heap.size := by omega
    obtain ⟨c0, c1, c2, cf⟩ := hcl1.cells
    have cf1 := cf 1
    obtain ⟨_, g7, f7⟩ := ask_cells hbx2
    clear cf
    go_wp2_with fail
    generalize w1.setCell ⟨c, 1, none⟩ (.int .u32 (num + 1)) = w2 at *
    refine (clone_ch w2 x.chs a cap hx2).mono ?_
    rintro e w3 ⟨a3, cap3, rfl, hcap3, hown3, hE3⟩
    have hbx3 := hE3.row hbx2
    obtain ⟨_, g7', f7'⟩ := ask_cells hbx3
    have hb4 := ask_put hbx3 (.slice a3 x.chs.length cap3)
    obtain ⟨hrg4, _, _⟩ := ask_cells hb4
    have hw2 : w.heap.size < w2.heap.size := (Array.getElem?_eq_some_iff.1 hbx2).1
    have hown4 : (w3.setCell ⟨w.heap.size, 7, none⟩ (.slice a3 x.chs.length cap3)).ownsRow w2.heap.size 93 3 (.slice a3 x.chs.length cap3) x.chs.length (x.chs.flatMap Ch.cells) := ownsRow_setCell_below hown3 hw2 _
    have hcl4 : ClAt (w3.setCell ⟨w.heap.size, 7, none⟩ (.slice a3 x.chs.length cap3)) c id (num + 1) none := by
      have := hcl2.ext hE3
      unfold ClAt at this ⊢
      rw [Below.heap_setCell w3 ⟨w.heap.size, 7, none⟩ _ c (by simp; omega)]; exact this
    have hO4 : OffB (fun k => k = c) w (w3.setCell ⟨w.heap.size, 7, none⟩ (.slice a3 x.chs.length cap3)) := (hO2.trans (.of_ext hE3)).trans_new (p := ⟨w.heap.size, 7, none⟩) (Nat.le_refl _) _
    clear hb4 c0 c1 c2 cf1 g7 f7 hcl hcl1 hcl2
    go_wp2_with (first | (refine wpList_load_mid (by rfl) 50 (.tmp 4) (by rfl) w.heap.size 0 (by rfl) (x.row (.slice a3 x.chs.length cap3)).toList _ hrg4 Tryz.underlying50 rfl (by rw [ask_len]; exact info_ask) ?_; generalize w3.setCell ⟨w.heap.size, 7, none⟩ (.slice a3 x.chs.length cap3) = w4 at *) | (refine wpList_build_asked (by rfl) (.tmp 42) (.tmp 43) (by rfl) x (.slice a3 x.chs.length cap3) 1 (by rfl) (by rfl) ?_; go_loud (have hcl5 := hcl4.ext ((Ext.refl w4).alloc (.cells ((x.row (.slice a3 x.chs.length cap3)).push (.int .u8 1)) 95)); obtain ⟨_, d1, d2, df⟩ := hcl5.cells; have df2 := df 2; clear df; have hp5 := hcl5.put2 (some ⟨w4.heap.size, 0, none⟩); obtain ⟨_, p1, _, _⟩ := hp5.cells)) | fail)
    have hO5 : OffB (fun k => k = c) w ((w4.alloc (.cells ((x.row (.slice a3 x.chs.length cap3)).push (.int .u8 1)) 95)).setCell ⟨c, 2, none⟩ (.pointer (some ⟨w4.heap.size, 0, none⟩))) := OffB.setCell (B := fun k => k = c) (hO4.trans (.of_ext ((Ext.refl w4).alloc _))) rfl _
    have hA : ((w4.alloc (.cells ((x.row (.slice a3 x.chs.length cap3)).push (.int .u8 1)) 95)).setCell ⟨c, 2, none⟩ (.pointer (some ⟨w4.heap.size, 0, none⟩))).heap[w4.heap.size]? = some (.cells ((x.row (.slice a3 x.chs.length cap3)).push (.int .u8 1)) 95 (0, 0)) := by
      rw [Below.heap_setCell _ ⟨c, 2, none⟩ _ w4.heap.size (by have := (Array.getElem?_eq_some_iff.1 hcl4).1; simp; omega)]
      exact heap_alloc_new _ _
    have hR5 : RowIs ((w4.alloc (.cells ((x.row (.slice a3 x.chs.length cap3)).push (.int .u8 1)) 95)).setCell ⟨c, 2, none⟩ (.pointer (some ⟨w4.heap.size, 0, none⟩))) 3 (.slice a3 x.chs.length cap3) x.chs.length (x.chs.flatMap Ch.cells) := by
      have h5 : OffB (fun k => k = c) w4 ((w4.alloc (.cells ((x.row (.slice a3 x.chs.length cap3)).push (.int .u8 1)) 95)).setCell ⟨c, 2, none⟩ (.pointer (some ⟨w4.heap.size, 0, none⟩))) := OffB.setCell (B := fun k => k = c) (.of_ext ((Ext.refl w4).alloc _)) rfl _
      exact (RowIs.of_own hown4).off (Out.of_own hown4 (fun k hk => by subst hk; omega)) h5
    have hw4 : w.heap.size ≤ w4.heap.size := hO4.size
    have h5o : OffB (fun k => k = c) w4 ((w4.alloc (.cells ((x.row (.slice a3 x.chs.length cap3)).push (.int .u8 1)) 95)).setCell ⟨c, 2, none⟩ (.pointer (some ⟨w4.heap.size, 0, none⟩))) := OffB.setCell (B := fun k => k = c) (.of_ext ((Ext.refl w4).alloc _)) rfl _
    have hown6 := ((OwnC.of_own hown4).offB h5o (fun q hq (hB : q = c) => by have := ((OwnC.of_own hown4).lt q hq).1; omega)).mono (show w.heap.size ≤ w2.heap.size by omega)
    go_ret2
    refine ⟨rfl, w4.heap.size, a3, cap3, hp5, ⟨hA, hR5, hx.2⟩, hw4, ⟨fun q hq => ?_, hown6⟩, hO5⟩
    subst hq
    obtain ⟨_, ⟨h0, _⟩ | ⟨gg, cap, cur, h0, hg, _⟩⟩ := hown4
    · injection h0 with h0; cases h0
    · injection h0 with h0; injection h0 with h0; subst h0; simp; omega
set_option maxRecDepth 100000 in
set_option maxHeartbeats 1000000 in
theorem cask_ok2 (w : World) (c : Nat) (id num : Int) (x : Ak) (a : Option Addr) (cap : Nat) (h : ClAt w c id num none) (h1 : 1 ≤ id) (hn0 : 0 ≤ num) (hn : num < 4294967295) (hx : ChsAt w x.chs a cap) (hs : x.small) (hok : x.okB = true) (hac : ∀ w', OffB (fun k => k = c) w w' → ChsAt w' x.chs a cap) :
    Calls Tryz.prog 9 #[.pointer (some ⟨c, 0, none⟩), .agg (x.row (.slice a x.chs.length cap)), .int .u8 2] w fun e w' => e = .returned (.tuple #[.int .u32 (num + 1), .int .i64 0]) ∧ AskedNow w c id (num + 1) x 2 w' := by
  obtain ⟨W, hW⟩ : ∃ W, W = w.alloc (.cells (x.row (.slice a x.chs.length cap)) 50) := ⟨_, rfl⟩
  have hE : Ext w W := by rw [hW]; exact (Ext.refl w).alloc _
  have hbx : W.heap[w.heap.size]? = some (.cells (x.row (.slice a x.chs.length cap)) 50 (0, 0)) := by rw [hW]; exact heap_alloc_new _ _
  obtain ⟨hrg, _, _⟩ := ask_cells hbx
  have hcl := h.ext hE
  have hcw : c < w.heap.size := (Array.getElem?_eq_some_iff.1 h).1
  have hW' := Lib.hid hW
  have hok' := Lib.hid hok
  have e1 : IntKind.u32.wrap (num + 1) = num + 1 := by rw [IntKind.wrap_u32]; omega
  clear hW hok
  unfold Ak.row at hW' hrg ⊢
  all_goals
    go_enter Tryz.func9, Tryz.ntmps9
    go_wp2_with fail
    rw [← hW'.out]
    clear hW'
    refine (there_any _ c id num _ hcl h1).mono ?_
    rintro e w' ⟨rfl, rfl⟩
    go_wp2_with (first | (refine wpList_load_mid (by rfl) 50 (.tmp 4) (by rfl) w.heap.size 0 (by rfl) (x.row (.slice a x.chs.length cap)).toList _ hrg Tryz.underlying50 rfl (by rw [ask_len]; exact info_ask) ?_) | fail)
    refine (check_any _ x a cap (hx.ext hE) hs).mono ?_
    rw [hok'.out]
    rintro e w1 ⟨rfl, hE1⟩
    have hcl1 := hcl.ext hE1
    have hcl2 := hcl1.put1 (num + 1)
    have hO2 : OffB (fun k => k = c) w (w1.setCell ⟨c, 1, none⟩ (.int .u32 (num + 1))) := OffB.setCell (B := fun k => k = c) (.of_ext (hE.trans hE1)) rfl _
    have hbx2 : (w1.setCell ⟨c, 1, none⟩ (.int .u32 (num + 1))).heap[w.heap.size]? = some (.cells (x.row (.slice a x.chs.length cap)) 50 (0, 0)) := by
      rw [Below.heap_setCell w1 ⟨c, 1, none⟩ _ w.heap.size (by simp; omega)]; exact hE1.row hbx
    have hx2 : ChsAt (w1.setCell ⟨c, 1, none⟩ (.int .u32 (num + 1))) x.chs a cap := hac _ hO2
    have hc2 : c ≠ w.heap.size := by omega
    obtain ⟨c0, c1, c2, cf⟩ := hcl1.cells
    have cf1 := cf 1
    obtain ⟨_, g7, f7⟩ := ask_cells hbx2
    clear cf
    go_wp2_with fail
    generalize w1.setCell ⟨c, 1, none⟩ (.int .u32 (num + 1)) = w2 at *
    refine (clone_ch w2 x.chs a cap hx2).mono ?_
    rintro e w3 ⟨a3, cap3, rfl, hcap3, hown3, hE3⟩
    have hbx3 := hE3.row hbx2
    obtain ⟨_, g7', f7'⟩ := ask_cells hbx3
    have hb4 := ask_put hbx3 (.slice a3 x.chs.length cap3)
    obtain ⟨hrg4, _, _⟩ := ask_cells hb4
    have hw2 : w.heap.size < w2.heap.size := (Array.getElem?_eq_some_iff.1 hbx2).1
    have hown4 : (w3.setCell ⟨w.heap.size, 7, none⟩ (.slice a3 x.chs.length cap3)).ownsRow w2.heap.size 93 3 (.slice a3 x.chs.length cap3) x.chs.length (x.chs.flatMap Ch.cells) := ownsRow_setCell_below hown3 hw2 _
    have hcl4 : ClAt (w3.setCell ⟨w.heap.size, 7, none⟩ (.slice a3 x.chs.length cap3)) c id (num + 1) none := by
      have := hcl2.ext hE3
      unfold ClAt at this ⊢
      rw [Below.heap_setCell w3 ⟨w.heap.size, 7, none⟩ _ c (by simp; omega)]; exact this
    have hO4 : OffB (fun k => k = c) w (w3.setCell ⟨w.heap.size, 7, none⟩ (.slice a3 x.chs.length cap3)) := (hO2.trans (.of_ext hE3)).trans_new (p := ⟨w.heap.size, 7, none⟩) (Nat.le_refl _) _
    clear hb4 c0 c1 c2 cf1 g7 f7 hcl hcl1 hcl2
    go_wp2_with (first | (refine wpList_load_mid (by rfl) 50 (.tmp 4) (by rfl) w.heap.size 0 (by rfl) (x.row (.slice a3 x.chs.length cap3)).toList _ hrg4 Tryz.underlying50 rfl (by rw [ask_len]; exact info_ask) ?_; generalize w3.setCell ⟨w.heap.size, 7, none⟩ (.slice a3 x.chs.length cap3) = w4 at *) | (refine wpList_build_asked (by rfl) (.tmp 42) (.tmp 43) (by rfl) x (.slice a3 x.chs.length cap3) 2 (by rfl) (by rfl) ?_; go_loud (have hcl5 := hcl4.ext ((Ext.refl w4).alloc (.cells ((x.row (.slice a3 x.chs.length cap3)).push (.int .u8 2)) 95)); obtain ⟨_, d1, d2, df⟩ := hcl5.cells; have df2 := df 2; clear df; have hp5 := hcl5.put2 (some ⟨w4.heap.size, 0, none⟩); obtain ⟨_, p1, _, _⟩ := hp5.cells)) | fail)
    have hO5 : OffB (fun k => k = c) w ((w4.alloc (.cells ((x.row (.slice a3 x.chs.length cap3)).push (.int .u8 2)) 95)).setCell ⟨c, 2, none⟩ (.pointer (some ⟨w4.heap.size, 0, none⟩))) := OffB.setCell (B := fun k => k = c) (hO4.trans (.of_ext ((Ext.refl w4).alloc _))) rfl _
    have hA : ((w4.alloc (.cells ((x.row (.slice a3 x.chs.length cap3)).push (.int .u8 2)) 95)).setCell ⟨c, 2, none⟩ (.pointer (some ⟨w4.heap.size, 0, none⟩))).heap[w4.heap.size]? = some (.cells ((x.row (.slice a3 x.chs.length cap3)).push (.int .u8 2)) 95 (0, 0)) := by
      rw [Below.heap_setCell _ ⟨c, 2, none⟩ _ w4.heap.size (by have := (Array.getElem?_eq_some_iff.1 hcl4).1; simp; omega)]
      exact heap_alloc_new _ _
    have hR5 : RowIs ((w4.alloc (.cells ((x.row (.slice a3 x.chs.length cap3)).push (.int .u8 2)) 95)).setCell ⟨c, 2, none⟩ (.pointer (some ⟨w4.heap.size, 0, none⟩))) 3 (.slice a3 x.chs.length cap3) x.chs.length (x.chs.flatMap Ch.cells) := by
      have h5 : OffB (fun k => k = c) w4 ((w4.alloc (.cells ((x.row (.slice a3 x.chs.length cap3)).push (.int .u8 2)) 95)).setCell ⟨c, 2, none⟩ (.pointer (some ⟨w4.heap.size, 0, none⟩))) := OffB.setCell (B := fun k => k = c) (.of_ext ((Ext.refl w4).alloc _)) rfl _
      exact (RowIs.of_own hown4).off (Out.of_own hown4 (fun k hk => by subst hk; omega)) h5
    have hw4 : w.heap.size ≤ w4.heap.size := hO4.size
    have h5o : OffB (fun k => k = c) w4 ((w4.alloc (.cells ((x.row (.slice a3 x.chs.length cap3)).push (.int .u8 2)) 95)).setCell ⟨c, 2, none⟩ (.pointer (some ⟨w4.heap.size, 0, none⟩))) := OffB.setCell (B := fun k => k = c) (.of_ext ((Ext.refl w4).alloc _)) rfl _
    have hown6 := ((OwnC.of_own hown4).offB h5o (fun q hq (hB : q = c) => by have := ((OwnC.of_own hown4).lt q hq).1; omega)).mono (show w.heap.size ≤ w2.heap.size by omega)
    go_ret2
    refine ⟨rfl, w4.heap.size, a3, cap3, hp5, ⟨hA, hR5, hx.2⟩, hw4, ⟨fun q hq => ?_, hown6⟩, hO5⟩
    subst hq
    obtain ⟨_, ⟨h0, _⟩ | ⟨gg, cap, cur, h0, hg, _⟩⟩ := hown4
    · injection h0 with h0; cases h0
    · injection h0 with h0; injection h0 with h0; subst h0; simp; omega
theorem cask_ok (w : World) (c : Nat) (id num : Int) (x : Ak) (a : Option Addr) (cap : Nat) (lv : Int) (h : ClAt w c id num none) (h1 : 1 ≤ id) (hn0 : 0 ≤ num) (hn : num < 4294967295) (hx : ChsAt w x.chs a cap) (hs : x.small) (hok : x.okB = true) (hlv : lv = 1 ∨ lv = 2) (hac : ∀ w', OffB (fun k => k = c) w w' → ChsAt w' x.chs a cap) :
    Calls Tryz.prog 9 #[.pointer (some ⟨c, 0, none⟩), .agg (x.row (.slice a x.chs.length cap)), .int .u8 lv] w fun e w' => e = .returned (.tuple #[.int .u32 (num + 1), .int .i64 0]) ∧ AskedNow w c id (num + 1) x lv w' := by
  rcases hlv with rfl | rfl
  · exact cask_ok1 w c id num x a cap h h1 hn0 hn hx hs hok hac
  · exact cask_ok2 w c id num x a cap h h1 hn0 hn hx hs hok hac
end Go.Proofs.YtmopjmhapeinjaaGreatDoor
/- A client's Came. No condition. -/
namespace Go.Proofs.YtmopjmhapeinjaaGreatDoor
open Go.RowKit
structure Mg where
  say : Int
  fr : Int
  to : Int
  ep : Int
  lv : Int
  num : Int
  ix : Int
  sure : Int
def Mg.row (m : Mg) (v8 v9 v10 v11 v12 v13 v14 v15 : Value) : Array Value := #[.int .u8 m.say, .int .u8 m.fr, .int .u8 m.to, .int .u32 m.ep, .int .u8 m.lv, .int .u32 m.num, .int .u64 m.ix, .int .u64 m.sure, v8, v9, v10, v11, v12, v13, v14, v15]
theorem Mg.cells {W : World} {g : Nat} {m : Mg} {v8 v9 v10 v11 v12 v13 v14 v15 : Value} (h : W.heap[g]? = some (.cells (m.row v8 v9 v10 v11 v12 v13 v14 v15) 63 (0, 0))) :
    W.cell? ⟨g, 0, none⟩ = some (.int .u8 m.say) ∧ W.cell? ⟨g, 2, none⟩ = some (.int .u8 m.to) ∧ W.cell? ⟨g, 4, none⟩ = some (.int .u8 m.lv) ∧ W.cell? ⟨g, 5, none⟩ = some (.int .u32 m.num) := by
  refine ⟨?_, ?_, ?_, ?_⟩ <;> (rw [cell_of_row _ _ _ _ 63 (0, 0) h]; rfl)
theorem ext_drewN {a w : World} (h : Ext a w) (n : Nat) : Ext a (w.drewN n) := h.trans ⟨rfl, rfl, rfl, Nat.le_refl _, fun _ _ => rfl⟩
set_option maxRecDepth 100000 in
set_option maxHeartbeats 1000000 in
theorem came_idle (w : World) (c : Nat) (id num : Int) (m : Mg) (v8 v9 v10 v11 v12 v13 v14 v15 : Value) (h : ClAt w c id num none) (h1 : 1 ≤ id) (h8 : id ≤ 8) (hs : m.say = 2) (ht : m.to = 16 + id) :
    Calls Tryz.prog 20 #[.pointer (some ⟨c, 0, none⟩), .agg (m.row v8 v9 v10 v11 v12 v13 v14 v15)] w fun e w' => e = .returned (.tuple #[.bool false, .int .i64 0]) ∧ Ext w w' := by
  obtain ⟨W, hW⟩ : ∃ W, W = w.alloc (.cells (m.row v8 v9 v10 v11 v12 v13 v14 v15) 63) := ⟨_, rfl⟩
  have hE : Ext w W := by rw [hW]; exact (Ext.refl w).alloc _
  have hbx : W.heap[w.heap.size]? = some (.cells (m.row v8 v9 v10 v11 v12 v13 v14 v15) 63 (0, 0)) := by rw [hW]; exact heap_alloc_new _ _
  have hcl := h.ext hE
  obtain ⟨c0, c1, c2, cf⟩ := hcl.cells
  obtain ⟨m0, m2, m4, m5⟩ := Mg.cells hbx
  rw [hs] at m0
  rw [ht] at m2
  have e1 : IntKind.u8.wrap (16 + id) = 16 + id := by rw [IntKind.wrap_u8]; omega
  have hW' := Lib.hid hW
  clear hW hbx cf hs ht
  unfold Mg.row at hW' ⊢
  go_enter Tryz.func20, Tryz.ntmps20
  go_wp2_with fail
  rw [← hW'.out]
  clear hW'
  refine (there_any _ c id num _ hcl h1).mono ?_
  rintro e w' ⟨rfl, rfl⟩
  go_wp2_with fail
  go_quiet (fail)
  go_wp2_with fail
  go_quiet (fail)
  go_wp2_with fail
  go_ret2
  exact ⟨rfl, ext_drewN (ext_drewN hE _) _⟩
set_option maxRecDepth 100000 in
set_option maxHeartbeats 1000000 in
theorem came_yes (w : World) (c g : Nat) (id num : Int) (x : Ak) (lv : Int) (ga : Option Addr) (gc : Nat) (m : Mg) (v8 v9 v10 v11 v12 v13 v14 v15 : Value) (h : ClAt w c id num (some ⟨g, 0, none⟩)) (hg : WaAt w g x lv ga gc) (h1 : 1 ≤ id) (h8 : id ≤ 8) (hs : m.say = 2) (ht : m.to = 16 + id) (hn : m.num = num) (hl : m.lv = lv) :
    Calls Tryz.prog 20 #[.pointer (some ⟨c, 0, none⟩), .agg (m.row v8 v9 v10 v11 v12 v13 v14 v15)] w fun e w' => e = .returned (.tuple #[.bool true, .int .i64 0]) ∧ ClAt w' c id num none ∧ OffB (fun k => k = c) w w' := by
  obtain ⟨W, hW⟩ : ∃ W, W = w.alloc (.cells (m.row v8 v9 v10 v11 v12 v13 v14 v15) 63) := ⟨_, rfl⟩
  have hE : Ext w W := by rw [hW]; exact (Ext.refl w).alloc _
  have hbx : W.heap[w.heap.size]? = some (.cells (m.row v8 v9 v10 v11 v12 v13 v14 v15) 63 (0, 0)) := by rw [hW]; exact heap_alloc_new _ _
  have hcl := h.ext hE
  obtain ⟨c0, c1, c2, cf⟩ := hcl.cells
  obtain ⟨m0, m2, m4, m5⟩ := Mg.cells hbx
  rw [hs] at m0
  rw [ht] at m2
  rw [hl] at m4
  rw [hn] at m5
  obtain ⟨_, g8⟩ := (hg.ext hE).cells
  have cf2 := cf 2
  have e1 : IntKind.u8.wrap (16 + id) = 16 + id := by rw [IntKind.wrap_u8]; omega
  have hW' := Lib.hid hW
  clear hW hbx cf hs ht hn hl
  unfold Mg.row at hW' ⊢
  go_enter Tryz.func20, Tryz.ntmps20
  go_wp2_with fail
  rw [← hW'.out]
  clear hW'
  refine (there_any _ c id num _ hcl h1).mono ?_
  rintro e w' ⟨rfl, rfl⟩
  go_wp2_with fail
  go_quiet (fail)
  rename Nat => n1
  go_wp2_with fail
  go_quiet (fail)
  rename Nat => n2
  go_wp2_with fail
  go_ret2
  have hE2 := ext_drewN (Ext.refl W) (n1 + n2)
  exact ⟨rfl, (hcl.ext hE2).put2 none, OffB.setCell (B := fun k => k = c) (.of_ext (hE.trans hE2)) rfl _⟩
set_option maxRecDepth 100000 in
set_option maxHeartbeats 1000000 in
theorem came_no (w : World) (c g : Nat) (id num : Int) (x : Ak) (lv : Int) (ga : Option Addr) (gc : Nat) (m : Mg) (v8 v9 v10 v11 v12 v13 v14 v15 : Value) (h : ClAt w c id num (some ⟨g, 0, none⟩)) (hg : WaAt w g x lv ga gc) (h1 : 1 ≤ id) (h8 : id ≤ 8) (hs : m.say = 2) (ht : m.to = 16 + id) (hn : m.num ≠ num ∨ m.lv ≠ lv) :
    Calls Tryz.prog 20 #[.pointer (some ⟨c, 0, none⟩), .agg (m.row v8 v9 v10 v11 v12 v13 v14 v15)] w fun e w' => e = .returned (.tuple #[.bool false, .int .i64 0]) ∧ Ext w w' := by
  obtain ⟨W, hW⟩ : ∃ W, W = w.alloc (.cells (m.row v8 v9 v10 v11 v12 v13 v14 v15) 63) := ⟨_, rfl⟩
  have hE : Ext w W := by rw [hW]; exact (Ext.refl w).alloc _
  have hbx : W.heap[w.heap.size]? = some (.cells (m.row v8 v9 v10 v11 v12 v13 v14 v15) 63 (0, 0)) := by rw [hW]; exact heap_alloc_new _ _
  have hcl := h.ext hE
  obtain ⟨c0, c1, c2, cf⟩ := hcl.cells
  obtain ⟨m0, m2, m4, m5⟩ := Mg.cells hbx
  rw [hs] at m0
  rw [ht] at m2
  obtain ⟨_, g8⟩ := (hg.ext hE).cells
  have e1 : IntKind.u8.wrap (16 + id) = 16 + id := by rw [IntKind.wrap_u8]; omega
  have hW' := Lib.hid hW
  clear hW hbx cf hs ht
  unfold Mg.row at hW' ⊢
  by_cases hn1 : m.num = num
  · have hl1 : ¬ m.lv = lv := by rcases hn with hn | hn; exact absurd hn1 hn; exact hn
    rw [hn1] at m5
    clear hn hn1
    go_enter Tryz.func20, Tryz.ntmps20
    go_wp2_with fail
    rw [← hW'.out]
    clear hW'
    refine (there_any _ c id num _ hcl h1).mono ?_
    rintro e w' ⟨rfl, rfl⟩
    go_wp2_with fail
    go_quiet (fail)
    go_wp2_with fail
    go_quiet (fail)
    go_wp2_with fail
    go_ret2
    exact ⟨rfl, ext_drewN (ext_drewN hE _) _⟩
  · clear hn
    go_enter Tryz.func20, Tryz.ntmps20
    go_wp2_with fail
    rw [← hW'.out]
    clear hW'
    refine (there_any _ c id num _ hcl h1).mono ?_
    rintro e w' ⟨rfl, rfl⟩
    go_wp2_with fail
    go_quiet (fail)
    go_wp2_with fail
    go_quiet (fail)
    go_wp2_with fail
    go_ret2
    exact ⟨rfl, ext_drewN (ext_drewN hE _) _⟩
end Go.Proofs.YtmopjmhapeinjaaGreatDoor
