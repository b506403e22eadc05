import Derived.Test.YtdkhcamckjidcaaSuf2
import Derived.StillTailTactics
namespace Go.Proofs.Ytdkhcamckjidcaa
open Go.RowKit
theorem own_slice {w : World} {base : Nat} {e : TypeId} {size : Nat} {v : Value} {n : Nat} {xs : List Value} (h : w.ownsRow base e size v n xs) : ∃ a cap, v = .slice a n cap ∧ n ≤ cap := by
  obtain ⟨_, ⟨h1, h0⟩ | ⟨g, cap, cur, rfl, hb, _, hc, hm, _⟩⟩ := h
  · exact ⟨none, 0, by rw [h1, h0], by omega⟩
  · exact ⟨_, cap, rfl, hc⟩
/-- An address past the blocks that were there. -/
def Fresh (base : Nat) (a : Option Addr) : Prop := ∀ p, a = some p → base ≤ p.block
theorem Fresh.of_own {w : World} {base : Nat} {e : TypeId} {size : Nat} {a : Option Addr} {n cap : Nat} {xs : List Value} (h : w.ownsRow base e size (.slice a n cap) n xs) : Fresh base a := by
  intro p hp
  obtain ⟨_, ⟨h1, _⟩ | ⟨g, cap, cur, h1, hg, _⟩⟩ := h
  · injection h1 with h2; rw [h2] at hp; cases hp
  · injection h1 with h2; rw [h2] at hp; cases hp; exact hg
theorem Fresh.out {B : Nat → Prop} {base : Nat} {a : Option Addr} {n cap : Nat} (h : Fresh base a) (hb : ∀ k, B k → k < base) : Out B (.slice a n cap) := by
  intro p m c hv hB
  injection hv with h1
  have := h p h1
  have := hb _ hB
  omega
theorem Fresh.mono {base base' : Nat} {a : Option Addr} (h : Fresh base a) (hb : base' ≤ base) : Fresh base' a := fun p hp => Nat.le_trans hb (h p hp)
theorem row34 (x : It) (v : Value) : (x.row v).toList.length = 11 := rfl
theorem row_set (x : It) (v v' : Value) : (x.row v).setIfInBounds 10 v' = x.row v' := rfl
theorem row_one (x : It) (a : Option Addr) (n c : Nat) : (x.row (.slice a n c)).all (·.oneCell') = true := by kernel_rfl
theorem row_cells {W : World} {g : Nat} {x : It} {v : Value} (h : W.heap[g]? = some (.cells (x.row v) 34 (0, 0))) : W.cell? ⟨g, 0, none⟩ = some (.int .u64 (x.idx : Int)) ∧ W.cell? ⟨g, 1, none⟩ = some (.int .u8 x.cl) ∧ W.cell? ⟨g, 2, none⟩ = some (.int .u32 x.num) ∧ W.cell? ⟨g, 3, none⟩ = some (.int .u8 x.kind) ∧ W.cell? ⟨g, 4, none⟩ = some (.string x.key) ∧ W.cell? ⟨g, 5, none⟩ = some (.string x.val) ∧ W.cell? ⟨g, 6, none⟩ = some (.string x.old) ∧ W.cell? ⟨g, 7, none⟩ = some (.bool x.new) ∧ W.cell? ⟨g, 8, none⟩ = some (.string x.to) ∧ W.cell? ⟨g, 9, none⟩ = some (.int .i64 x.many) ∧ W.cell? ⟨g, 10, none⟩ = some (v) := by
  refine ⟨?_, ?_, ?_, ?_, ?_, ?_, ?_, ?_, ?_, ?_, ?_⟩ <;> (rw [cell_of_row _ _ _ _ 34 (0, 0) h]; rfl)
set_option maxRecDepth 100000 in
set_option maxHeartbeats 1000000 in
theorem add_ok (w : World) (b f m : Nat) (R : Nat → List Value) (h : SufAt w b f m R) (hm : m < 256) (hf : f + m < 18446744073709551615) (x : It) (a : Option Addr) (n cap : Nat) (hr : RowIs w 3 (.slice a n cap) n (x.chs.flatMap Ch.cells)) (hn : n * 40 ≤ 140737488351232) (hx : x.idx = f + m + 1) :
    Calls Try.prog 10 #[.pointer (some ⟨b, 0, none⟩), .agg (x.row (.slice a n cap))] w fun e w' => e = .returned (.int .i64 0) ∧ ∃ a' cap', SufAt w' b f ((m : Int) + 1) (fun i => if i = (f + m + 1) % 256 then (x.row (.slice a' n cap')).toList else R i) ∧ n ≤ cap' ∧ RowIs w' 3 (.slice a' n cap') n (x.chs.flatMap Ch.cells) ∧ Fresh w.heap.size a' ∧ OffB (fun k => k = b) w w' := by
  unfold It.row
  obtain ⟨W, hW⟩ : ∃ W, W = w.alloc (.cells (x.row (.slice a n cap)) 34) := ⟨_, rfl⟩
  have hE : Ext w W := by rw [hW]; exact (Ext.refl w).alloc _
  have hbx : W.heap[w.heap.size]? = some (.cells (x.row (.slice a n cap)) 34 (0, 0)) := by rw [hW]; exact heap_alloc_new _ _
  have q0 : W.cell? ⟨w.heap.size, 0, none⟩ = some (.int .u64 (x.idx : Int)) := by rw [hW, cell_of_row _ _ 0 _ 34 (0, 0) (heap_alloc_new w _)]; rfl
  have hS : SufAt W b f m R := h.off (B := fun _ => False) (.of_ext hE) id
  have c3 := hS.c3
  have e1 : IntKind.u64.wrap ((f : Int) + (m : Int) + 1) = (f : Int) + (m : Int) + 1 := by rw [IntWalk.u64_in _ (by omega)]
  have e2 : ((x.idx : Int) == (f : Int) + (m : Int) + 1) = true := by rw [beq_iff_eq]; omega
  have hxx := Lib.hid hx
  clear hx
  have c3' := c3
  rw [hW] at c3'
  unfold It.row at hW c3'
  go_enter Try.func10, Try.ntmps10
  go_wp2_with fail
  clear c3'
  rw [← hW]
  clear hW
  refine wp_region_class (Ext W) (by kernel_rfl) (by kernel_rfl) (Ext.refl _).drew ?_
  iterate 1 (refine wpQuiet_step (fun K hK => ?_); go_simp; first | (refine hK _ ?_; clear hK K) | (refine ⟨_, fun _ _ => rfl, hK _ ?_⟩; clear hK K))
  refine wpQuiet_load_cell rfl 22 _ rfl w.heap.size 0 rfl _ (fun w' h => h.cell q0) _ Try.underlying22 rfl ?_
  iterate 1 (refine wpQuiet_step (fun K hK => ?_); go_simp; first | (refine hK _ ?_; clear hK K) | (refine ⟨_, fun _ _ => rfl, hK _ ?_⟩; clear hK K))
  refine wpQuiet_step (fun K hK => ?_)
  go_simp
  refine ⟨_, fun w' hw => (last_any w' b f m R (hS.off (B := fun _ => False) (.of_ext hw) id) (by omega) (by omega)).mono fun _ _ ⟨he, hw'⟩ => ⟨he, hw' ▸ hw.drew⟩, hK _ ?_⟩; clear hK K
  iterate 3 (refine wpQuiet_step (fun K hK => ?_); go_simp; first | (refine hK _ ?_; clear hK K) | (refine ⟨_, fun _ _ => rfl, hK _ ?_⟩; clear hK K))
  refine wpQuiet_nil (fun W2 hW2 => ?_)
  have hS2 : SufAt W2 b f m R := hS.off (B := fun _ => False) (.of_ext hW2) id
  have d1 := hS2.c1
  have hbx2 := hW2.row hbx
  have q10 : W2.cell? ⟨w.heap.size, 10, none⟩ = some (.slice a n cap) := by rw [cell_of_row _ _ 10 _ 34 (0, 0) hbx2]; rfl
  have hm2 : ((m : Int) == 256) = false := by rw [beq_eq_false_iff_ne]; omega
  go_wp2_with fail
  refine (clone_any W2 a n cap _ (hr.ext (hE.trans hW2)) (ch_one _) hn).mono ?_
  rintro e W3 ⟨v', rfl, hown, hE3⟩
  have hbx3 := hE3.row hbx2
  have q10' := hE3.cell q10
  have fz : W3.frozen? ⟨w.heap.size, 10, none⟩ = false := by unfold World.frozen?; rw [hbx3]; simp
  obtain ⟨a', cap', rfl, hcap⟩ := own_slice hown
  go_wp2
  have hlt : w.heap.size < W2.heap.size := Nat.lt_of_lt_of_le (Array.getElem?_eq_some_iff.1 hbx).1 hW2.size
  clear q10' fz q10 hbx2 q0 c3 hbx d1
  obtain ⟨W4, hW4⟩ : ∃ W4, W4 = W3.setCell { block := w.heap.size, off := 10 } (.slice a' n cap') := ⟨_, rfl⟩
  have hEx : Ext w W3 := (hE.trans hW2).trans hE3
  have hE4 : Ext w W4 := by rw [hW4]; exact hEx.setCell (Nat.le_refl _) _
  have hbx4 : W4.heap[w.heap.size]? = some (.cells (x.row (.slice a' n cap')) 34 (0, 0)) := by
    rw [hW4, setCell_eq_setRow _ _ _ _ _ _ _ hbx3, setRow_heap _ _ _ _ _ _ hbx3, row_set]
  have hown4 : W4.ownsRow W2.heap.size 77 3 (.slice a' n cap') n (x.chs.flatMap Ch.cells) := by
    rw [hW4]; exact ownsRow_setCell_below hown hlt _
  have hS4 : SufAt W4 b f m R := h.off (B := fun _ => False) (.of_ext hE4) id
  rw [← hW4]
  clear hW4 hown hbx3
  obtain ⟨q0, q1, q2, q3, q4, q5, q6, q7, q8, q9, q10⟩ := row_cells hbx4
  refine wp_region_still_tail 6 (by kernel_rfl) (by kernel_rfl) ?_
  change wpStill _ _ W4.drew _ _ _
  simp only [List.take_succ_cons, List.take_zero, List.drop_succ_cons, List.drop_zero]
  iterate 3 still_step
  still_call (at_any W4.drew b x.idx)
  iterate 2 still_step
  refine wpStill_nil ?_
  change wpList _ _ _ _ _ W4.drew
  clear q0 q1 q2 q3 q4 q5 q6 q7 q8 q9 q10
  have hm1 : x.idx % 256 < 256 := Nat.mod_lt _ (by decide)
  have hSd : SufAt W4.drew b f m R := hS4.off (B := fun _ => False) (.of_ext ((Ext.refl _).drew)) id
  have hth : W4.drew.there b (2 + x.idx % 256 * 11) 11 := hSd.there _ hm1
  have hEd : OffB (fun k => k = b) w W4.drew := OffB.of_ext hE4.drew
  have hrd : RowIs W4.drew 3 (.slice a' n cap') n (x.chs.flatMap Ch.cells) := (RowIs.of_own hown4).ext (Ext.refl _).drew
  generalize W4.drew = W5 at *
  refine wpList_store_mid rfl 34 _ _ rfl b (2 + x.idx % 256 * 11) (x.row (.slice a' n cap')) rfl rfl hth info34 (row_one _ _ _ _) ?_
  have hS6 := hSd.putR (x.idx % 256) hm1 (x.row (.slice a' n cap')).toList rfl
  have hE6 : OffB (fun k => k = b) W5 (W5.setCells b (2 + x.idx % 256 * 11) (x.row (.slice a' n cap')).toList) := OffB.setCells (B := fun k => k = b) (OffB.refl W5) (b := b) rfl _ _
  generalize W5.setCells b (2 + x.idx % 256 * 11) (x.row (.slice a' n cap')).toList = W6 at *
  have d1 := hS6.c1
  have d2 := hS6.free 1
  have hput := hS6.put1 ((m : Int) + 1)
  have e3 : IntKind.i64.wrap ((m : Int) + 1) = (m : Int) + 1 := by rw [IntWalk.i64_in _ (by omega)]
  have hix : x.idx % 256 = (f + m + 1) % 256 := by rw [hxx.out]
  rw [hix] at hput
  have hE7 := OffB.setCell (p := ⟨b, 1, none⟩) hE6 rfl (.int .i64 ((m : Int) + 1))
  have hfr := Fresh.of_own hown4
  go_wp2
  go_ret
  refine ⟨rfl, a', cap', hput, hcap, hrd.off (hfr.out (fun k hk => by subst hk; exact hS2.lt)) hE7, hfr.mono (Nat.le_of_lt hlt), hEd.trans hE7⟩
end Go.Proofs.Ytdkhcamckjidcaa
