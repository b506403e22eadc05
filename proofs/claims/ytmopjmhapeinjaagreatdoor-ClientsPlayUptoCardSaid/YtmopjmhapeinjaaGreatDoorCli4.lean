/- A client's Sends. No condition. -/
import Derived.Test.YtmopjmhapeinjaaGreatDoorGrA8
import Derived.Test.YtmopjmhapeinjaaGreatDoorGrA3
import Derived.Deep.RegionHeld3
namespace Go.Proofs.YtmopjmhapeinjaaGreatDoor
open Go.RowKit
set_option maxRecDepth 100000 in
theorem sends_idle (w : World) (c : Nat) (id num to : Int) (h : ClAt w c id num none) (h1 : 1 ≤ id) : Calls Tryz.prog 13 #[.pointer (some ⟨c, 0, none⟩), .int .u8 to] w fun e w' => e = .returned (.slice none 0 0) ∧ w = w' := by
  obtain ⟨c0, c1, c2, cf⟩ := h.cells
  clear cf
  go_enter Tryz.func13, Tryz.ntmps13
  go_wp2_with fail
  refine (there_any _ c id num _ h h1).mono ?_
  rintro e w' ⟨rfl, rfl⟩
  go_wp2
  go_ret
  exact ⟨rfl, rfl⟩
theorem wpList_store_ask {ops : Array Oper} {rest : List Oper} {o : Oper} {a : Act} {Q : Exit → Act → World → Prop} (hgd : o.guard = none) (p y : Operand) (ho : o.op = .store 50 p y) (w : World) (x : Ak) (ad : Option Addr) (n c : Nat)
    (hx : a.eval p = .pointer (some ⟨w.heap.size, 0, none⟩)) (hy : a.eval y = .agg (x.row (.slice ad n c))) (h : wpList Tryz.prog ops Q rest (a.put o.dst undef) (w.alloc (.cells (x.row (.slice ad n c)) 50))) :
    wpList Tryz.prog ops Q (o :: rest) a (w.alloc (.cells #[.int .u8 0, .string ⟨#[]⟩, .string ⟨#[]⟩, .string ⟨#[]⟩, .bool false, .string ⟨#[]⟩, .int .i64 0, .slice none 0 0] 50)) :=
  wpList_store_whole hgd 50 p y ho w _ (x.row (.slice ad n c)) w.heap.size hx rfl hy info_ask rfl (ask_one _ _ _ _) h
def itemRow (id num : Int) (x : Ak) (v : Value) : Array Value := #[.int .u64 0, .int .u8 id, .int .u32 num, .int .u8 x.kind, .string x.key, .string x.val, .string x.old, .bool x.new, .string x.to, .int .i64 x.many, v]
def msgRow (id to lv num : Int) (v : Value) : Array Value := #[.int .u8 1, .int .u8 (16 + id), .int .u8 to, .int .u32 0, .int .u8 lv, .int .u32 num, .int .u64 0, .int .u64 0, .slice none 0 0, .slice none 0 0, v, .slice none 0 0, .slice none 0 0, .int .i64 0, .bool false, .slice none 0 0]
theorem run_build_item (id num : Int) (x : Ak) (v : Value) (w : World) : (Instr.build 100 #[(1, .int .u8 id), (2, .int .u32 num), (3, .agg (x.row v))]).run Tryz.prog w = .ok (.agg (itemRow id num x v)) w := by kernel_rfl
theorem run_bs_item (id num : Int) (x : Ak) (v : Value) (w : World) : (Instr.buildSlice 57 1 #[(0, .agg (itemRow id num x v))]).run Tryz.prog w = .ok (.slice (some ⟨w.heap.size, 0, none⟩) 1 1) (w.alloc (.cells (itemRow id num x v) 100)) := by kernel_rfl
theorem run_build_msg (id to lv num : Int) (g : Nat) (w : World) : (Instr.build 63 #[(0, .int .u8 1), (1, .int .u8 (16 + id)), (2, .int .u8 to), (4, .int .u8 lv), (5, .int .u32 num), (10, .slice (some ⟨g, 0, none⟩) 1 1)]).run Tryz.prog w = .ok (.agg (msgRow id to lv num (.slice (some ⟨g, 0, none⟩) 1 1))) w := by kernel_rfl
theorem run_bs_msg (id to lv num : Int) (v : Value) (w : World) : (Instr.buildSlice 71 1 #[(0, .agg (msgRow id to lv num v))]).run Tryz.prog w = .ok (.slice (some ⟨w.heap.size, 0, none⟩) 1 1) (w.alloc (.cells (msgRow id to lv num v) 63)) := by kernel_rfl
section
variable {ops : Array Oper} {rest : List Oper} {o : Oper} {a : Act} {Q : Exit → Act → World → Prop} {w : World}
theorem wpList_build_item (hgd : o.guard = none) (p q r : Operand) (ho : o.op = .build 100 #[(1, p), (2, q), (3, r)]) (id num : Int) (x : Ak) (v : Value) (hp : a.eval p = .int .u8 id) (hq : a.eval q = .int .u32 num) (hr : a.eval r = .agg (x.row v))
    (h : wpList Tryz.prog ops Q rest (a.put o.dst (.agg (itemRow id num x v))) w) : wpList Tryz.prog ops Q (o :: rest) a w := by
  refine wpList_plain hgd fun K hK => ?_
  unfold Oper.wp execOp
  simp only [ho, hp, hq, hr, List.map_toArray, List.map_cons, List.map_nil, Sem.run_bind, Result.andThen_ok, run_build_item, Sem.run_pure]
  exact hK _ _ h
theorem wpList_bs_item (hgd : o.guard = none) (p : Operand) (ho : o.op = .buildSlice 57 1 #[(0, p)]) (id num : Int) (x : Ak) (v : Value) (hp : a.eval p = .agg (itemRow id num x v))
    (h : wpList Tryz.prog ops Q rest (a.put o.dst (.slice (some ⟨w.heap.size, 0, none⟩) 1 1)) (w.alloc (.cells (itemRow id num x v) 100))) : wpList Tryz.prog ops Q (o :: rest) a w := by
  refine wpList_plain hgd fun K hK => ?_
  unfold Oper.wp execOp
  simp only [ho, hp, List.map_toArray, List.map_cons, List.map_nil, Sem.run_bind, Result.andThen_ok, run_bs_item, Sem.run_pure]
  exact hK _ _ h
theorem wpList_build_msg (hgd : o.guard = none) (p q r s t : Operand) (ho : o.op = .build 63 #[(0, .const (.int .u8 1)), (1, p), (2, q), (4, r), (5, s), (10, t)]) (id to lv num : Int) (g : Nat) (hp : a.eval p = .int .u8 (16 + id)) (hq : a.eval q = .int .u8 to) (hr : a.eval r = .int .u8 lv) (hs : a.eval s = .int .u32 num) (ht : a.eval t = .slice (some ⟨g, 0, none⟩) 1 1)
    (h : wpList Tryz.prog ops Q rest (a.put o.dst (.agg (msgRow id to lv num (.slice (some ⟨g, 0, none⟩) 1 1)))) w) : wpList Tryz.prog ops Q (o :: rest) a w := by
  refine wpList_plain hgd fun K hK => ?_
  have hc : a.eval (.const (.int .u8 1)) = .int .u8 1 := rfl
  unfold Oper.wp execOp
  simp only [ho, hp, hq, hr, hs, ht, hc, List.map_toArray, List.map_cons, List.map_nil, Sem.run_bind, Result.andThen_ok, run_build_msg, Sem.run_pure]
  exact hK _ _ h
theorem wpList_bs_msg (hgd : o.guard = none) (p : Operand) (ho : o.op = .buildSlice 71 1 #[(0, p)]) (id to lv num : Int) (v : Value) (hp : a.eval p = .agg (msgRow id to lv num v))
    (h : wpList Tryz.prog ops Q rest (a.put o.dst (.slice (some ⟨w.heap.size, 0, none⟩) 1 1)) (w.alloc (.cells (msgRow id to lv num v) 63))) : wpList Tryz.prog ops Q (o :: rest) a w := by
  refine wpList_plain hgd fun K hK => ?_
  unfold Oper.wp execOp
  simp only [ho, hp, List.map_toArray, List.map_cons, List.map_nil, Sem.run_bind, Result.andThen_ok, run_bs_msg, Sem.run_pure]
  exact hK _ _ h
end
/-- What a client sends: one message of one item, in memory of the call's own. -/
def SentAt (base : Nat) (g : Nat) (id num lv to : Int) (x : Ak) (w' : World) : Prop := ∃ gi a, w'.heap[g]? = some (.cells (msgRow id to lv num (.slice (some ⟨gi, 0, none⟩) 1 1)) 63 (0, 0)) ∧ w'.heap[gi]? = some (.cells (itemRow id num x (.slice a x.chs.length x.chs.length)) 100 (0, 0)) ∧ ChsAt w' x.chs a x.chs.length ∧ base ≤ g ∧ base ≤ gi ∧ (∀ q, a = some q → base ≤ q.block) ∧ OwnC w' base 93 3 (.slice a x.chs.length x.chs.length) x.chs.length (x.chs.flatMap Ch.cells)
def Sends (id num lv to : Int) (x : Ak) (w : World) (e : Ending) (w' : World) : Prop := ∃ g, e = .returned (.slice (some ⟨g, 0, none⟩) 1 1) ∧ SentAt w.heap.size g id num lv to x w' ∧ Ext w w'
theorem OwnC.clipn {w : World} {base : Nat} {e : TypeId} {z n cap : Nat} {a : Option Addr} {xs : List Value} (h : OwnC w base e z (.slice a n cap) n xs) : OwnC w base e z (.slice a n n) n xs := by
  obtain ⟨h1, ⟨h2, rfl⟩ | ⟨g, cap', cur, h2, h3, h4, h5, h6, h7, h8⟩⟩ := h
  · injection h2 with h2
    subst h2
    exact ⟨h1, .inl ⟨rfl, rfl⟩⟩
  · injection h2 with h2 _ h9
    subst h2 h9
    exact ⟨h1, .inr ⟨g, n, cur, rfl, h3, h4, Nat.le_refl _, by omega, Nat.le_trans (Nat.mul_le_mul_right _ h5) h7, h8⟩⟩
theorem rowIs_clip {w : World} {size : Nat} {a : Option Addr} {cap n : Nat} {xs : List Value} (h : RowIs w size (.slice a n cap) n xs) : RowIs w size (.slice a n n) n xs := by
  obtain ⟨h1, h2, ⟨h0, a', cap', he, hz⟩ | ⟨b, off, cap', he, hc, hd⟩⟩ := h
  · exact ⟨h1, h2, .inl ⟨h0, a, n, by rw [h0], fun _ => h0⟩⟩
  · injection he with e1 _ e3
    subst e1
    exact ⟨h1, h2, .inr ⟨b, off, n, rfl, Nat.le_refl _, hd⟩⟩
set_option maxRecDepth 100000 in
set_option maxHeartbeats 1000000 in
theorem sends_waits (w : World) (c g : Nat) (id num to : Int) (x : Ak) (lv : Int) (ga : Option Addr) (gc : Nat) (h : ClAt w c id num (some ⟨g, 0, none⟩)) (hg : WaAt w g x lv ga gc) (h1 : 1 ≤ id) (h8 : id ≤ 8) :
    Calls Tryz.prog 13 #[.pointer (some ⟨c, 0, none⟩), .int .u8 to] w (Sends id num lv to x w) := by
  obtain ⟨c0, c1, c2, cf⟩ := h.cells
  obtain ⟨hrg, g8⟩ := hg.cells
  have hx := hg.2
  clear cf
  have e1 : IntKind.u8.wrap (16 + id) = 16 + id := by rw [IntKind.wrap_u8]; omega
  go_enter Tryz.func13, Tryz.ntmps13
  go_wp2_with fail
  refine (there_any _ c id num _ h h1).mono ?_
  rintro e w' ⟨rfl, rfl⟩
  go_wp2_with (first | (refine wpList_load_mid (by rfl) 50 (.tmp 21) (by rfl) g 0 (by rfl) (x.row (.slice ga x.chs.length gc)).toList _ hrg Tryz.underlying50 rfl (by rw [ask_len]; exact info_ask) ?_) | (refine wpList_store_ask (by rfl) (.tmp 5) (.tmp 22) (by rfl) w x ga x.chs.length gc (by rfl) (by rfl) ?_; go_loud (obtain ⟨W2, hW2⟩ : ∃ W2, W2 = w.alloc (.cells (x.row (.slice ga x.chs.length gc)) 50) := ⟨_, rfl⟩; have hb2 : W2.heap[w.heap.size]? = some (.cells (x.row (.slice ga x.chs.length gc)) 50 (0, 0)) := (congrArg (fun z => z.heap[w.heap.size]?) hW2).trans (heap_alloc_new _ _); have k7 := (ask_cells hb2).2.1; have fz := (ask_cells hb2).2.2; have hE2 : Ext w W2 := hW2 ▸ (Ext.refl _).alloc _; rw [← hW2]; clear hW2)) | fail)
  refine (clone_ch W2 x.chs ga gc (hx.ext hE2)).mono ?_
  rintro e W3 ⟨a3, cap3, rfl, hcap3, hown3, hE3⟩
  have hb3 := hE3.row hb2
  obtain ⟨_, k7', f7'⟩ := ask_cells hb3
  go_wp2_with fail
  refine (clip_ch W3 a3 x.chs.length cap3 hcap3).mono ?_
  rintro e w' ⟨rfl, rfl⟩
  have hb4 := ask_put hb3 (.slice a3 x.chs.length x.chs.length)
  have hw2 : w.heap.size < W2.heap.size := (Array.getElem?_eq_some_iff.1 hb2).1
  have hown4 : (W3.setCell ⟨w.heap.size, 7, none⟩ (.slice a3 x.chs.length x.chs.length)).ownsRow W2.heap.size 93 3 (.slice a3 x.chs.length cap3) x.chs.length (x.chs.flatMap Ch.cells) := ownsRow_setCell_below hown3 hw2 _
  have hE4 : Ext w (W3.setCell ⟨w.heap.size, 7, none⟩ (.slice a3 x.chs.length x.chs.length)) := (hE2.trans hE3).setCell (Nat.le_refl _) _
  clear k7 fz hcap3
  go_wp2_with fail
  generalize W3.setCell ⟨w.heap.size, 7, none⟩ (.slice a3 x.chs.length x.chs.length) = W4 at *
  obtain ⟨hrg4, _, _⟩ := ask_cells hb4
  obtain ⟨d0, d1, d2, _⟩ := (h.ext hE4).cells
  obtain ⟨_, d8⟩ := (hg.ext hE4).cells
  have q0 := cell_of_row _ _ 0 _ 50 (0, 0) hb4
  have q1 := cell_of_row _ _ 1 _ 50 (0, 0) hb4
  have q2 := cell_of_row _ _ 2 _ 50 (0, 0) hb4
  have q3 := cell_of_row _ _ 3 _ 50 (0, 0) hb4
  have q4 := cell_of_row _ _ 4 _ 50 (0, 0) hb4
  have q5 := cell_of_row _ _ 5 _ 50 (0, 0) hb4
  have q6 := cell_of_row _ _ 6 _ 50 (0, 0) hb4
  have q7 := cell_of_row _ _ 7 _ 50 (0, 0) hb4
  simp only [Ak.row, List.getElem?_toArray, List.getElem?_cons_zero, List.getElem?_cons_succ] at q0 q1 q2 q3 q4 q5 q6 q7
  clear c0 c1 c2 g8 hrg hb3 k7' f7' hb2 hown3
  have hR4 : ∀ w', Ext W4 w' → w'.cell? ⟨c, 0, none⟩ = some (.int .u8 id) ∧ w'.cell? ⟨c, 1, none⟩ = some (.int .u32 num) ∧ w'.cell? ⟨c, 2, none⟩ = some (.pointer (some ⟨g, 0, none⟩)) ∧ w'.cell? ⟨g, 8, none⟩ = some (.int .u8 lv) ∧ w'.cell? ⟨w.heap.size, 0, none⟩ = some (.int .u8 x.kind) ∧ w'.cell? ⟨w.heap.size, 1, none⟩ = some (.string x.key) ∧ w'.cell? ⟨w.heap.size, 2, none⟩ = some (.string x.val) ∧ w'.cell? ⟨w.heap.size, 3, none⟩ = some (.string x.old) ∧ w'.cell? ⟨w.heap.size, 4, none⟩ = some (.bool x.new) ∧ w'.cell? ⟨w.heap.size, 5, none⟩ = some (.string x.to) ∧ w'.cell? ⟨w.heap.size, 6, none⟩ = some (.int .i64 x.many) ∧ w'.cell? ⟨w.heap.size, 7, none⟩ = some (.slice a3 x.chs.length x.chs.length) := fun w' he => ⟨he.cell d0, he.cell d1, he.cell d2, he.cell d8, he.cell q0, he.cell q1, he.cell q2, he.cell q3, he.cell q4, he.cell q5, he.cell q6, he.cell q7⟩
  have hR4' := Lib.hid hR4
  clear hR4 q0 q1 q2 q3 q4 q5 q6 q7 d0 d1 d2 d8 hrg4
  go_region_held3 (fun w' => w'.cell? ⟨c, 0, none⟩ = some (.int .u8 id) ∧ w'.cell? ⟨c, 1, none⟩ = some (.int .u32 num) ∧ w'.cell? ⟨c, 2, none⟩ = some (.pointer (some ⟨g, 0, none⟩)) ∧ w'.cell? ⟨g, 8, none⟩ = some (.int .u8 lv) ∧ w'.cell? ⟨w.heap.size, 0, none⟩ = some (.int .u8 x.kind) ∧ w'.cell? ⟨w.heap.size, 1, none⟩ = some (.string x.key) ∧ w'.cell? ⟨w.heap.size, 2, none⟩ = some (.string x.val) ∧ w'.cell? ⟨w.heap.size, 3, none⟩ = some (.string x.old) ∧ w'.cell? ⟨w.heap.size, 4, none⟩ = some (.bool x.new) ∧ w'.cell? ⟨w.heap.size, 5, none⟩ = some (.string x.to) ∧ w'.cell? ⟨w.heap.size, 6, none⟩ = some (.int .i64 x.many) ∧ w'.cell? ⟨w.heap.size, 7, none⟩ = some (.slice a3 x.chs.length x.chs.length)) (first | exact hR4'.out _ (Ext.refl _) | exact hR4'.out _ (Ext.refl _).drew | exact hR4'.out _ ((Ext.refl _).alloc _).drew | exact hR4'.out _ (((Ext.refl _).alloc _).alloc _).drew) (first | fail)
  go_wp2_with fail
  rename_i hHeld
  clear hHeld
  have hm : ((W4.alloc (.cells (itemRow id num x (.slice a3 x.chs.length x.chs.length)) 100)).alloc (.cells (msgRow id to lv num (.slice (some ⟨W4.heap.size, 0, none⟩) 1 1)) 63)).drew.heap[W4.heap.size + 1]? = some (.cells (msgRow id to lv num (.slice (some ⟨W4.heap.size, 0, none⟩) 1 1)) 63 (0, 0)) := by
    have := heap_alloc_new (W4.alloc (.cells (itemRow id num x (.slice a3 x.chs.length x.chs.length)) 100)) (.cells (msgRow id to lv num (.slice (some ⟨W4.heap.size, 0, none⟩) 1 1)) 63)
    rw [show (W4.alloc (.cells (itemRow id num x (.slice a3 x.chs.length x.chs.length)) 100)).heap.size = W4.heap.size + 1 by simp] at this
    exact this
  have hi : ((W4.alloc (.cells (itemRow id num x (.slice a3 x.chs.length x.chs.length)) 100)).alloc (.cells (msgRow id to lv num (.slice (some ⟨W4.heap.size, 0, none⟩) 1 1)) 63)).drew.heap[W4.heap.size]? = some (.cells (itemRow id num x (.slice a3 x.chs.length x.chs.length)) 100 (0, 0)) :=
    (((Ext.refl _).alloc _).drew).row (heap_alloc_new W4 _)
  have hE6 : Ext W4 ((W4.alloc (.cells (itemRow id num x (.slice a3 x.chs.length x.chs.length)) 100)).alloc (.cells (msgRow id to lv num (.slice (some ⟨W4.heap.size, 0, none⟩) 1 1)) 63)).drew := (((Ext.refl _).alloc _).alloc _).drew
  have hR6 := (rowIs_clip (RowIs.of_own hown4)).ext hE6
  have hw4 := hE4.size
  go_ret
  refine ⟨W4.heap.size + 1, rfl, ⟨W4.heap.size, a3, hm, hi, ⟨hR6, hx.2⟩, by omega, by omega, fun q hq => ?_, (OwnC.clipn ((OwnC.of_own hown4).ext hE6)).mono (by have := hE2.size; omega)⟩, hE4.trans hE6⟩
  subst hq
  obtain ⟨_, ⟨h0, _⟩ | ⟨gg, cap, cur, h0, hgg, _⟩⟩ := hown4
  · injection h0 with h0; cases h0
  · injection h0 with h0; injection h0 with h0; subst h0; simp; omega
end Go.Proofs.YtmopjmhapeinjaaGreatDoor
