/- A client's Waits and Ask. No condition. -/
import Derived.Test.YtdkhcamckjidcaaCli
namespace Go.Proofs.Ytdkhcamckjidcaa
open Go.RowKit
theorem waits_idle (w : World) (c : Nat) (id num : Int) (h : ClAt w c id num none) (h1 : 1 ≤ id) : Calls Try.prog 24 #[.pointer (some ⟨c, 0, none⟩)] w fun e w' => e = .returned (.tuple #[.int .u32 0, .bool false]) ∧ w = w' := by
  obtain ⟨c0, c1, c2, cf⟩ := h.cells
  clear cf
  go_enter Try.func24, Try.ntmps24
  go_wp2_with fail
  refine (there_any _ c id num _ h h1).mono ?_
  rintro e w' ⟨rfl, rfl⟩
  go_wp2
  go_ret2
  exact ⟨rfl, rfl⟩
theorem waits_waits (w : World) (c : Nat) (id num : Int) (g : Addr) (h : ClAt w c id num (some g)) (h1 : 1 ≤ id) : Calls Try.prog 24 #[.pointer (some ⟨c, 0, none⟩)] w fun e w' => e = .returned (.tuple #[.int .u32 num, .bool true]) ∧ w = w' := by
  obtain ⟨c0, c1, c2, cf⟩ := h.cells
  clear cf
  go_enter Try.func24, Try.ntmps24
  go_wp2_with fail
  refine (there_any _ c id num _ h h1).mono ?_
  rintro e w' ⟨rfl, rfl⟩
  go_wp2
  go_ret2
  exact ⟨rfl, rfl⟩
/-- An ask's block. -/
theorem ask_cells {W : World} {g : Nat} {x : Ak} {v : Value} (h : W.heap[g]? = some (.cells (x.row v) 32 (0, 0))) : W.rangeAt g 0 (x.row v).toList ∧ W.cell? ⟨g, 7, none⟩ = some v ∧ W.frozen? ⟨g, 7, none⟩ = false := by
  refine ⟨fun r u hu => ?_, ?_, ?_⟩
  · rw [Nat.zero_add, cell_of_row _ _ r _ 32 (0, 0) h, ← hu]; simp
  · rw [cell_of_row _ _ 7 _ 32 (0, 0) h]; rfl
  · unfold World.frozen?; rw [h]; simp
theorem ask_put {W : World} {g : Nat} {x : Ak} {v : Value} (h : W.heap[g]? = some (.cells (x.row v) 32 (0, 0))) (v' : Value) : (W.setCell ⟨g, 7, none⟩ v').heap[g]? = some (.cells (x.row v') 32 (0, 0)) := by
  rw [setCell_eq_setRow _ _ _ _ _ _ _ h, setRow_heap _ _ _ _ _ _ h]; rfl
theorem OffB.trans_new {B : Nat → Prop} {a w : World} (h : OffB B a w) {p : Addr} (hp : a.heap.size ≤ p.block) (u : Value) : OffB B a (w.setCell p u) :=
  ⟨h.os, h.tape, h.output, by simpa using h.size, fun k hk hn => by rw [Below.heap_setCell w p u k (by omega)]; exact h.block k hk hn⟩
def lvB (lv : Int) : Bool := lv == 1 || lv == 2
set_option maxRecDepth 100000 in
set_option maxHeartbeats 1000000 in
theorem cask_arg (w : World) (c : Nat) (id num : Int) (p : Option Addr) (x : Ak) (a : Option Addr) (cap : Nat) (lv : Int) (h : ClAt w c id num p) (h1 : 1 ≤ id) (hx : ChsAt w x.chs a cap) (hs : x.small) (hb : (x.okB && lvB lv) = false) :
    Calls Try.prog 19 #[.pointer (some ⟨c, 0, none⟩), .agg (x.row (.slice a x.chs.length cap)), .int .u8 lv] w fun e w' => e = .returned (.tuple #[.int .u32 0, .int .i64 1]) ∧ Ext w w' := by
  have hb' := Lib.hid hb
  clear hb
  obtain ⟨W, hW⟩ : ∃ W, W = w.alloc (.cells (x.row (.slice a x.chs.length cap)) 32) := ⟨_, rfl⟩
  have hE : Ext w W := by rw [hW]; exact (Ext.refl w).alloc _
  have hbx : W.heap[w.heap.size]? = some (.cells (x.row (.slice a x.chs.length cap)) 32 (0, 0)) := by rw [hW]; exact heap_alloc_new _ _
  obtain ⟨hrg, _, _⟩ := ask_cells hbx
  have hcl := h.ext hE
  have hW' := Lib.hid hW
  clear hW hbx
  unfold Ak.row at hW' hrg ⊢
  go_enter Try.func19, Try.ntmps19
  go_wp2_with fail
  rw [← hW'.out]
  clear hW'
  refine (there_any _ c id num _ hcl h1).mono ?_
  rintro e w' ⟨rfl, rfl⟩
  go_wp2_with (first | (refine wpList_load_mid (by rfl) 32 (.tmp 4) (by rfl) w.heap.size 0 (by rfl) (x.row (.slice a x.chs.length cap)).toList _ hrg Try.underlying32 rfl (by rw [ask_len]; exact info_ask) ?_) | fail)
  refine (check_any _ x a cap (hx.ext hE) hs).mono ?_
  rintro e w1 ⟨rfl, hE1⟩
  have hE2 := hE.trans hE1
  cases hok : x.okB
  · have hok' := Lib.hid hok
    clear hok
    go_wp2_with fail
    go_ret2
    exact ⟨rfl, hE2⟩
  · have hlv : lvB lv = false := by have := hb'.out; rw [hok] at this; simpa using this
    have l1 : ¬ lv = 1 := by unfold lvB at hlv; simp at hlv; exact hlv.1
    have l2 : ¬ lv = 2 := by unfold lvB at hlv; simp at hlv; exact hlv.2
    have hok' := Lib.hid hok
    clear hok hlv
    go_wp2_with fail
    go_ret2
    exact ⟨rfl, hE2⟩
set_option maxRecDepth 100000 in
set_option maxHeartbeats 1000000 in
theorem cask_state (w : World) (c : Nat) (id num : Int) (p : Addr) (x : Ak) (a : Option Addr) (cap : Nat) (lv : Int) (h : ClAt w c id num (some p)) (h1 : 1 ≤ id) (hx : ChsAt w x.chs a cap) (hs : x.small) (hok : x.okB = true) (hlv : lv = 1 ∨ lv = 2) :
    Calls Try.prog 19 #[.pointer (some ⟨c, 0, none⟩), .agg (x.row (.slice a x.chs.length cap)), .int .u8 lv] w fun e w' => e = .returned (.tuple #[.int .u32 0, .int .i64 9]) ∧ Ext w w' := by
  obtain ⟨W, hW⟩ : ∃ W, W = w.alloc (.cells (x.row (.slice a x.chs.length cap)) 32) := ⟨_, rfl⟩
  have hE : Ext w W := by rw [hW]; exact (Ext.refl w).alloc _
  have hbx : W.heap[w.heap.size]? = some (.cells (x.row (.slice a x.chs.length cap)) 32 (0, 0)) := by rw [hW]; exact heap_alloc_new _ _
  obtain ⟨hrg, _, _⟩ := ask_cells hbx
  have hcl := h.ext hE
  have hW' := Lib.hid hW
  have hok' := Lib.hid hok
  clear hW hbx hok
  unfold Ak.row at hW' hrg ⊢
  rcases hlv with rfl | rfl
  all_goals
    go_enter Try.func19, Try.ntmps19
    go_wp2_with fail
    rw [← hW'.out]
    clear hW'
    refine (there_any _ c id num _ hcl h1).mono ?_
    rintro e w' ⟨rfl, rfl⟩
    go_wp2_with (first | (refine wpList_load_mid (by rfl) 32 (.tmp 4) (by rfl) w.heap.size 0 (by rfl) (x.row (.slice a x.chs.length cap)).toList _ hrg Try.underlying32 rfl (by rw [ask_len]; exact info_ask) ?_) | fail)
    refine (check_any _ x a cap (hx.ext hE) hs).mono ?_
    rw [hok'.out]
    rintro e w1 ⟨rfl, hE1⟩
    have hE2 := hE.trans hE1
    obtain ⟨c0, c1, c2, cf⟩ := (hcl.ext hE1).cells
    go_wp2_with fail
    go_ret2
    exact ⟨rfl, hE2⟩
theorem run_build_asked (x : Ak) (v : Value) (lv : Int) (w : World) : (Instr.build 86 #[(0, .agg (x.row v)), (1, .int .u8 lv)]).run Try.prog w = .ok (.agg ((x.row v).push (.int .u8 lv))) w := by kernel_rfl
theorem wpList_build_asked {ops : Array Oper} {rest : List Oper} {o : Oper} {a : Act} {Q : Exit → Act → World → Prop} {w : World} (hgd : o.guard = none) (p q : Operand) (ho : o.op = .build 86 #[(0, p), (1, q)]) (x : Ak) (v : Value) (lv : Int) (hp : a.eval p = .agg (x.row v)) (hq : a.eval q = .int .u8 lv)
    (h : wpList Try.prog ops Q rest (a.put o.dst (.agg ((x.row v).push (.int .u8 lv)))) w) : wpList Try.prog ops Q (o :: rest) a w := by
  refine wpList_plain hgd fun K hK => ?_
  unfold Oper.wp execOp
  simp only [ho, hp, hq, List.map_toArray, List.map_cons, List.map_nil, Sem.run_bind, Result.andThen_ok, run_build_asked, Sem.run_pure]
  exact hK _ _ h
/-- What Ask leaves: the client waits. -/
def AskedNow (w : World) (c : Nat) (id num : Int) (x : Ak) (lv : Int) (w' : World) : Prop := ∃ g a cap, ClAt w' c id num (some ⟨g, 0, none⟩) ∧ WaAt w' g x lv a cap ∧ w.heap.size ≤ g ∧ (∀ q, a = some q → w.heap.size ≤ q.block) ∧ OffB (fun k => k = c) w w'
set_option maxRecDepth 100000 in
set_option maxHeartbeats 1000000 in
theorem cask_ok1 (w : World) (c : Nat) (id num : Int) (x : Ak) (a : Option Addr) (cap : Nat) (h : ClAt w c id num none) (h1 : 1 ≤ id) (hn0 : 0 ≤ num) (hn : num < 4294967295) (hx : ChsAt w x.chs a cap) (hs : x.small) (hok : x.okB = true) (hac : ∀ w', OffB (fun k => k = c) w w' → ChsAt w' x.chs a cap) :
    Calls Try.prog 19 #[.pointer (some ⟨c, 0, none⟩), .agg (x.row (.slice a x.chs.length cap)), .int .u8 1] w fun e w' => e = .returned (.tuple #[.int .u32 (num + 1), .int .i64 0]) ∧ AskedNow w c id (num + 1) x 1 w' := by
  obtain ⟨W, hW⟩ : ∃ W, W = w.alloc (.cells (x.row (.slice a x.chs.length cap)) 32) := ⟨_, rfl⟩
  have hE : Ext w W := by rw [hW]; exact (Ext.refl w).alloc _
  have hbx : W.heap[w.heap.size]? = some (.cells (x.row (.slice a x.chs.length cap)) 32 (0, 0)) := by rw [hW]; exact heap_alloc_new _ _
  obtain ⟨hrg, _, _⟩ := ask_cells hbx
  have hcl := h.ext hE
  have hcw : c < w.heap.size := (Array.getElem?_eq_some_iff.1 h).1
  have hW' := Lib.hid hW
  have hok' := Lib.hid hok
  have e1 : IntKind.u32.wrap (num + 1) = num + 1 := by rw [IntKind.wrap_u32]; omega
  clear hW hok
  unfold Ak.row at hW' hrg ⊢
  all_goals
    go_enter Try.func19, Try.ntmps19
    go_wp2_with fail
    rw [← hW'.out]
    clear hW'
    refine (there_any _ c id num _ hcl h1).mono ?_
    rintro e w' ⟨rfl, rfl⟩
    go_wp2_with (first | (refine wpList_load_mid (by rfl) 32 (.tmp 4) (by rfl) w.heap.size 0 (by rfl) (x.row (.slice a x.chs.length cap)).toList _ hrg Try.underlying32 rfl (by rw [ask_len]; exact info_ask) ?_) | fail)
    refine (check_any _ x a cap (hx.ext hE) hs).mono ?_
    rw [hok'.out]
    rintro e w1 ⟨rfl, hE1⟩
    have hcl1 := hcl.ext hE1
    have hcl2 := hcl1.put1 (num + 1)
    have hO2 : OffB (fun k => k = c) w (w1.setCell ⟨c, 1, none⟩ (.int .u32 (num + 1))) := OffB.setCell (B := fun k => k = c) (.of_ext (hE.trans hE1)) rfl _
    have hbx2 : (w1.setCell ⟨c, 1, none⟩ (.int .u32 (num + 1))).heap[w.heap.size]? = some (.cells (x.row (.slice a x.chs.length cap)) 32 (0, 0)) := by
      rw [Below.heap_setCell w1 ⟨c, 1, none⟩ _ w.heap.size (by simp; omega)]; exact hE1.row hbx
    have hx2 : ChsAt (w1.setCell ⟨c, 1, none⟩ (.int .u32 (num + 1))) x.chs a cap := hac _ hO2
    have hc2 : c ≠ w.heap.size := by omega
    obtain ⟨c0, c1, c2, cf⟩ := hcl1.cells
    have cf1 := cf 1
    obtain ⟨_, g7, f7⟩ := ask_cells hbx2
    clear cf
    go_wp2_with fail
    generalize w1.setCell ⟨c, 1, none⟩ (.int .u32 (num + 1)) = w2 at *
    refine (clone_ch w2 x.chs a cap hx2).mono ?_
    rintro e w3 ⟨a3, cap3, rfl, hcap3, hown3, hE3⟩
    have hbx3 := hE3.row hbx2
    obtain ⟨_, g7', f7'⟩ := ask_cells hbx3
    have hb4 := ask_put hbx3 (.slice a3 x.chs.length cap3)
    obtain ⟨hrg4, _, _⟩ := ask_cells hb4
    have hw2 : w.heap.size < w2.heap.size := (Array.getElem?_eq_some_iff.1 hbx2).1
    have hown4 : (w3.setCell ⟨w.heap.size, 7, none⟩ (.slice a3 x.chs.length cap3)).ownsRow w2.heap.size 77 3 (.slice a3 x.chs.length cap3) x.chs.length (x.chs.flatMap Ch.cells) := ownsRow_setCell_below hown3 hw2 _
    have hcl4 : ClAt (w3.setCell ⟨w.heap.size, 7, none⟩ (.slice a3 x.chs.length cap3)) c id (num + 1) none := by
      have := hcl2.ext hE3
      unfold ClAt at this ⊢
      rw [Below.heap_setCell w3 ⟨w.heap.size, 7, none⟩ _ c (by simp; omega)]; exact this
    have hO4 : OffB (fun k => k = c) w (w3.setCell ⟨w.heap.size, 7, none⟩ (.slice a3 x.chs.length cap3)) := (hO2.trans (.of_ext hE3)).trans_new (p := ⟨w.heap.size, 7, none⟩) (Nat.le_refl _) _
    clear hb4 c0 c1 c2 cf1 g7 f7 hcl hcl1 hcl2
    go_wp2_with (first | (refine wpList_load_mid (by rfl) 32 (.tmp 4) (by rfl) w.heap.size 0 (by rfl) (x.row (.slice a3 x.chs.length cap3)).toList _ hrg4 Try.underlying32 rfl (by rw [ask_len]; exact info_ask) ?_; generalize w3.setCell ⟨w.heap.size, 7, none⟩ (.slice a3 x.chs.length cap3) = w4 at *) | (refine wpList_build_asked (by rfl) (.tmp 42) (.tmp 43) (by rfl) x (.slice a3 x.chs.length cap3) 1 (by rfl) (by rfl) ?_; go_loud (have hcl5 := hcl4.ext ((Ext.refl w4).alloc (.cells ((x.row (.slice a3 x.chs.length cap3)).push (.int .u8 1)) 86)); obtain ⟨_, d1, d2, df⟩ := hcl5.cells; have df2 := df 2; clear df; have hp5 := hcl5.put2 (some ⟨w4.heap.size, 0, none⟩); obtain ⟨_, p1, _, _⟩ := hp5.cells)) | fail)
    have hO5 : OffB (fun k => k = c) w ((w4.alloc (.cells ((x.row (.slice a3 x.chs.length cap3)).push (.int .u8 1)) 86)).setCell ⟨c, 2, none⟩ (.pointer (some ⟨w4.heap.size, 0, none⟩))) := OffB.setCell (B := fun k => k = c) (hO4.trans (.of_ext ((Ext.refl w4).alloc _))) rfl _
    have hA : ((w4.alloc (.cells ((x.row (.slice a3 x.chs.length cap3)).push (.int .u8 1)) 86)).setCell ⟨c, 2, none⟩ (.pointer (some ⟨w4.heap.size, 0, none⟩))).heap[w4.heap.size]? = some (.cells ((x.row (.slice a3 x.chs.length cap3)).push (.int .u8 1)) 86 (0, 0)) := by
      rw [Below.heap_setCell _ ⟨c, 2, none⟩ _ w4.heap.size (by have := (Array.getElem?_eq_some_iff.1 hcl4).1; simp; omega)]
      exact heap_alloc_new _ _
    have hR5 : RowIs ((w4.alloc (.cells ((x.row (.slice a3 x.chs.length cap3)).push (.int .u8 1)) 86)).setCell ⟨c, 2, none⟩ (.pointer (some ⟨w4.heap.size, 0, none⟩))) 3 (.slice a3 x.chs.length cap3) x.chs.length (x.chs.flatMap Ch.cells) := by
      have h5 : OffB (fun k => k = c) w4 ((w4.alloc (.cells ((x.row (.slice a3 x.chs.length cap3)).push (.int .u8 1)) 86)).setCell ⟨c, 2, none⟩ (.pointer (some ⟨w4.heap.size, 0, none⟩))) := OffB.setCell (B := fun k => k = c) (.of_ext ((Ext.refl w4).alloc _)) rfl _
      exact (RowIs.of_own hown4).off (Out.of_own hown4 (fun k hk => by subst hk; omega)) h5
    have hw4 : w.heap.size ≤ w4.heap.size := hO4.size
    go_ret2
    refine ⟨rfl, w4.heap.size, a3, cap3, hp5, ⟨hA, hR5, hx.2⟩, hw4, fun q hq => ?_, hO5⟩
    subst hq
    obtain ⟨_, ⟨h0, _⟩ | ⟨gg, cap, cur, h0, hg, _⟩⟩ := hown4
    · injection h0 with h0; cases h0
    · injection h0 with h0; injection h0 with h0; subst h0; simp; omega
set_option maxRecDepth 100000 in
set_option maxHeartbeats 1000000 in
theorem cask_ok2 (w : World) (c : Nat) (id num : Int) (x : Ak) (a : Option Addr) (cap : Nat) (h : ClAt w c id num none) (h1 : 1 ≤ id) (hn0 : 0 ≤ num) (hn : num < 4294967295) (hx : ChsAt w x.chs a cap) (hs : x.small) (hok : x.okB = true) (hac : ∀ w', OffB (fun k => k = c) w w' → ChsAt w' x.chs a cap) :
    Calls Try.prog 19 #[.pointer (some ⟨c, 0, none⟩), .agg (x.row (.slice a x.chs.length cap)), .int .u8 2] w fun e w' => e = .returned (.tuple #[.int .u32 (num + 1), .int .i64 0]) ∧ AskedNow w c id (num + 1) x 2 w' := by
  obtain ⟨W, hW⟩ : ∃ W, W = w.alloc (.cells (x.row (.slice a x.chs.length cap)) 32) := ⟨_, rfl⟩
  have hE : Ext w W := by rw [hW]; exact (Ext.refl w).alloc _
  have hbx : W.heap[w.heap.size]? = some (.cells (x.row (.slice a x.chs.length cap)) 32 (0, 0)) := by rw [hW]; exact heap_alloc_new _ _
  obtain ⟨hrg, _, _⟩ := ask_cells hbx
  have hcl := h.ext hE
  have hcw : c < w.heap.size := (Array.getElem?_eq_some_iff.1 h).1
  have hW' := Lib.hid hW
  have hok' := Lib.hid hok
  have e1 : IntKind.u32.wrap (num + 1) = num + 1 := by rw [IntKind.wrap_u32]; omega
  clear hW hok
  unfold Ak.row at hW' hrg ⊢
  all_goals
    go_enter Try.func19, Try.ntmps19
    go_wp2_with fail
    rw [← hW'.out]
    clear hW'
    refine (there_any _ c id num _ hcl h1).mono ?_
    rintro e w' ⟨rfl, rfl⟩
    go_wp2_with (first | (refine wpList_load_mid (by rfl) 32 (.tmp 4) (by rfl) w.heap.size 0 (by rfl) (x.row (.slice a x.chs.length cap)).toList _ hrg Try.underlying32 rfl (by rw [ask_len]; exact info_ask) ?_) | fail)
    refine (check_any _ x a cap (hx.ext hE) hs).mono ?_
    rw [hok'.out]
    rintro e w1 ⟨rfl, hE1⟩
    have hcl1 := hcl.ext hE1
    have hcl2 := hcl1.put1 (num + 1)
    have hO2 : OffB (fun k => k = c) w (w1.setCell ⟨c, 1, none⟩ (.int .u32 (num + 1))) := OffB.setCell (B := fun k => k = c) (.of_ext (hE.trans hE1)) rfl _
    have hbx2 : (w1.setCell ⟨c, 1, none⟩ (.int .u32 (num + 1))).heap[w.heap.size]? = some (.cells (x.row (.slice a x.chs.length cap)) 32 (0, 0)) := by
      rw [Below.heap_setCell w1 ⟨c, 1, none⟩ _ w.heap.size (by simp; omega)]; exact hE1.row hbx
    have hx2 : ChsAt (w1.setCell ⟨c, 1, none⟩ (.int .u32 (num + 1))) x.chs a cap := hac _ hO2
    have hc2 : c ≠ w.heap.size := by omega
    obtain ⟨c0, c1, c2, cf⟩ := hcl1.cells
    have cf1 := cf 1
    obtain ⟨_, g7, f7⟩ := ask_cells hbx2
    clear cf
    go_wp2_with fail
    generalize w1.setCell ⟨c, 1, none⟩ (.int .u32 (num + 1)) = w2 at *
    refine (clone_ch w2 x.chs a cap hx2).mono ?_
    rintro e w3 ⟨a3, cap3, rfl, hcap3, hown3, hE3⟩
    have hbx3 := hE3.row hbx2
    obtain ⟨_, g7', f7'⟩ := ask_cells hbx3
    have hb4 := ask_put hbx3 (.slice a3 x.chs.length cap3)
    obtain ⟨hrg4, _, _⟩ := ask_cells hb4
    have hw2 : w.heap.size < w2.heap.size := (Array.getElem?_eq_some_iff.1 hbx2).1
    have hown4 : (w3.setCell ⟨w.heap.size, 7, none⟩ (.slice a3 x.chs.length cap3)).ownsRow w2.heap.size 77 3 (.slice a3 x.chs.length cap3) x.chs.length (x.chs.flatMap Ch.cells) := ownsRow_setCell_below hown3 hw2 _
    have hcl4 : ClAt (w3.setCell ⟨w.heap.size, 7, none⟩ (.slice a3 x.chs.length cap3)) c id (num + 1) none := by
      have := hcl2.ext hE3
      unfold ClAt at this ⊢
      rw [Below.heap_setCell w3 ⟨w.heap.size, 7, none⟩ _ c (by simp; omega)]; exact this
    have hO4 : OffB (fun k => k = c) w (w3.setCell ⟨w.heap.size, 7, none⟩ (.slice a3 x.chs.length cap3)) := (hO2.trans (.of_ext hE3)).trans_new (p := ⟨w.heap.size, 7, none⟩) (Nat.le_refl _) _
    clear hb4 c0 c1 c2 cf1 g7 f7 hcl hcl1 hcl2
    go_wp2_with (first | (refine wpList_load_mid (by rfl) 32 (.tmp 4) (by rfl) w.heap.size 0 (by rfl) (x.row (.slice a3 x.chs.length cap3)).toList _ hrg4 Try.underlying32 rfl (by rw [ask_len]; exact info_ask) ?_; generalize w3.setCell ⟨w.heap.size, 7, none⟩ (.slice a3 x.chs.length cap3) = w4 at *) | (refine wpList_build_asked (by rfl) (.tmp 42) (.tmp 43) (by rfl) x (.slice a3 x.chs.length cap3) 2 (by rfl) (by rfl) ?_; go_loud (have hcl5 := hcl4.ext ((Ext.refl w4).alloc (.cells ((x.row (.slice a3 x.chs.length cap3)).push (.int .u8 2)) 86)); obtain ⟨_, d1, d2, df⟩ := hcl5.cells; have df2 := df 2; clear df; have hp5 := hcl5.put2 (some ⟨w4.heap.size, 0, none⟩); obtain ⟨_, p1, _, _⟩ := hp5.cells)) | fail)
    have hO5 : OffB (fun k => k = c) w ((w4.alloc (.cells ((x.row (.slice a3 x.chs.length cap3)).push (.int .u8 2)) 86)).setCell ⟨c, 2, none⟩ (.pointer (some ⟨w4.heap.size, 0, none⟩))) := OffB.setCell (B := fun k => k = c) (hO4.trans (.of_ext ((Ext.refl w4).alloc _))) rfl _
    have hA : ((w4.alloc (.cells ((x.row (.slice a3 x.chs.length cap3)).push (.int .u8 2)) 86)).setCell ⟨c, 2, none⟩ (.pointer (some ⟨w4.heap.size, 0, none⟩))).heap[w4.heap.size]? = some (.cells ((x.row (.slice a3 x.chs.length cap3)).push (.int .u8 2)) 86 (0, 0)) := by
      rw [Below.heap_setCell _ ⟨c, 2, none⟩ _ w4.heap.size (by have := (Array.getElem?_eq_some_iff.1 hcl4).1; simp; omega)]
      exact heap_alloc_new _ _
    have hR5 : RowIs ((w4.alloc (.cells ((x.row (.slice a3 x.chs.length cap3)).push (.int .u8 2)) 86)).setCell ⟨c, 2, none⟩ (.pointer (some ⟨w4.heap.size, 0, none⟩))) 3 (.slice a3 x.chs.length cap3) x.chs.length (x.chs.flatMap Ch.cells) := by
      have h5 : OffB (fun k => k = c) w4 ((w4.alloc (.cells ((x.row (.slice a3 x.chs.length cap3)).push (.int .u8 2)) 86)).setCell ⟨c, 2, none⟩ (.pointer (some ⟨w4.heap.size, 0, none⟩))) := OffB.setCell (B := fun k => k = c) (.of_ext ((Ext.refl w4).alloc _)) rfl _
      exact (RowIs.of_own hown4).off (Out.of_own hown4 (fun k hk => by subst hk; omega)) h5
    have hw4 : w.heap.size ≤ w4.heap.size := hO4.size
    go_ret2
    refine ⟨rfl, w4.heap.size, a3, cap3, hp5, ⟨hA, hR5, hx.2⟩, hw4, fun q hq => ?_, hO5⟩
    subst hq
    obtain ⟨_, ⟨h0, _⟩ | ⟨gg, cap, cur, h0, hg, _⟩⟩ := hown4
    · injection h0 with h0; cases h0
    · injection h0 with h0; injection h0 with h0; subst h0; simp; omega
theorem cask_ok (w : World) (c : Nat) (id num : Int) (x : Ak) (a : Option Addr) (cap : Nat) (lv : Int) (h : ClAt w c id num none) (h1 : 1 ≤ id) (hn0 : 0 ≤ num) (hn : num < 4294967295) (hx : ChsAt w x.chs a cap) (hs : x.small) (hok : x.okB = true) (hlv : lv = 1 ∨ lv = 2) (hac : ∀ w', OffB (fun k => k = c) w w' → ChsAt w' x.chs a cap) :
    Calls Try.prog 19 #[.pointer (some ⟨c, 0, none⟩), .agg (x.row (.slice a x.chs.length cap)), .int .u8 lv] w fun e w' => e = .returned (.tuple #[.int .u32 (num + 1), .int .i64 0]) ∧ AskedNow w c id (num + 1) x lv w' := by
  rcases hlv with rfl | rfl
  · exact cask_ok1 w c id num x a cap h h1 hn0 hn hx hs hok hac
  · exact cask_ok2 w c id num x a cap h h1 hn0 hn hx hs hok hac
end Go.Proofs.Ytdkhcamckjidcaa