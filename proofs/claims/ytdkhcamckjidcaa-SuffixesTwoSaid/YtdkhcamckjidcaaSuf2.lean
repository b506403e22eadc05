import Derived.Test.YtdkhcamckjidcaaSuf1
namespace Go.Proofs.Ytdkhcamckjidcaa
open Go.RowKit
structure Ch where
  key : ByteArray
  val : ByteArray
  gone : Bool
def Ch.cells (c : Ch) : List Value := [.string c.key, .string c.val, .bool c.gone]
structure It where
  idx : Nat
  cl : Int
  num : Int
  kind : Int
  key : ByteArray
  val : ByteArray
  old : ByteArray
  new : Bool
  to : ByteArray
  many : Int
  chs : List Ch
def It.row (x : It) (v : Value) : Array Value := #[.int .u64 (x.idx : Int), .int .u8 x.cl, .int .u32 x.num, .int .u8 x.kind, .string x.key, .string x.val, .string x.old, .bool x.new, .string x.to, .int .i64 x.many, v]
theorem ch_one (l : List Ch) : ∀ u ∈ l.flatMap Ch.cells, u.oneCell' = true := fun u hu => by
  obtain ⟨c, _, hc⟩ := List.mem_flatMap.1 hu
  simp only [Ch.cells, List.mem_cons, List.not_mem_nil, or_false] at hc
  rcases hc with rfl | rfl | rfl <;> rfl
set_option maxRecDepth 100000 in
set_option maxHeartbeats 1000000 in
theorem add_arg (w : World) (b f m : Nat) (R : Nat → List Value) (h : SufAt w b f m R) (hm : m ≤ 256) (hf : f + m < 18446744073709551615) (x : It) (v : Value) (hx : x.idx ≠ f + m + 1) :
    Calls Try.prog 10 #[.pointer (some ⟨b, 0, none⟩), .agg (x.row v)] w fun e w' => e = .returned (.int .i64 1) ∧ Ext w w' := by
  unfold It.row
  obtain ⟨W, hW⟩ : ∃ W, W = w.alloc (.cells (x.row v) 34) := ⟨_, rfl⟩
  have hE : Ext w W := by rw [hW]; exact (Ext.refl w).alloc _
  have q0 : W.cell? ⟨w.heap.size, 0, none⟩ = some (.int .u64 (x.idx : Int)) := by rw [hW, cell_of_row _ _ 0 _ 34 (0, 0) (heap_alloc_new w _)]; rfl
  have hS : SufAt W b f m R := h.off (B := fun _ => False) (.of_ext hE) id
  have c3 := hS.c3
  have e1 : IntKind.u64.wrap ((f : Int) + (m : Int) + 1) = (f : Int) + (m : Int) + 1 := by rw [IntWalk.u64_in _ (by omega)]
  have e2 : ((x.idx : Int) == (f : Int) + (m : Int) + 1) = false := by rw [beq_eq_false_iff_ne]; omega
  have c3' := c3
  rw [hW] at c3'
  unfold It.row at hW c3'
  go_enter Try.func10, Try.ntmps10
  go_wp2_with fail
  clear c3'
  rw [← hW]
  clear hW
  refine wp_region_class (Ext W) (by kernel_rfl) (by kernel_rfl) (Ext.refl _).drew ?_
  iterate 1 (refine wpQuiet_step (fun K hK => ?_); go_simp; first | (refine hK _ ?_; clear hK K) | (refine ⟨_, fun _ _ => rfl, hK _ ?_⟩; clear hK K))
  refine wpQuiet_load_cell rfl 22 _ rfl w.heap.size 0 rfl _ (fun w' h => h.cell q0) _ Try.underlying22 rfl ?_
  iterate 1 (refine wpQuiet_step (fun K hK => ?_); go_simp; first | (refine hK _ ?_; clear hK K) | (refine ⟨_, fun _ _ => rfl, hK _ ?_⟩; clear hK K))
  refine wpQuiet_step (fun K hK => ?_)
  go_simp
  refine ⟨_, fun w' hw => (last_any w' b f m R (hS.off (B := fun _ => False) (.of_ext hw) id) hm (by omega)).mono fun _ _ ⟨he, hw'⟩ => ⟨he, hw' ▸ hw.drew⟩, hK _ ?_⟩; clear hK K
  iterate 3 (refine wpQuiet_step (fun K hK => ?_); go_simp; first | (refine hK _ ?_; clear hK K) | (refine ⟨_, fun _ _ => rfl, hK _ ?_⟩; clear hK K))
  refine wpQuiet_nil (fun W2 hW2 => ?_)
  go_wp2
  go_ret
  exact ⟨rfl, hE.trans hW2⟩
set_option maxRecDepth 100000 in
set_option maxHeartbeats 1000000 in
theorem add_full (w : World) (b f m : Nat) (R : Nat → List Value) (h : SufAt w b f m R) (hm : m = 256) (hf : f + m < 18446744073709551615) (x : It) (v : Value) (hx : x.idx = f + m + 1) :
    Calls Try.prog 10 #[.pointer (some ⟨b, 0, none⟩), .agg (x.row v)] w fun e w' => e = .returned (.int .i64 6) ∧ Ext w w' := by
  unfold It.row
  obtain ⟨W, hW⟩ : ∃ W, W = w.alloc (.cells (x.row v) 34) := ⟨_, rfl⟩
  have hE : Ext w W := by rw [hW]; exact (Ext.refl w).alloc _
  have q0 : W.cell? ⟨w.heap.size, 0, none⟩ = some (.int .u64 (x.idx : Int)) := by rw [hW, cell_of_row _ _ 0 _ 34 (0, 0) (heap_alloc_new w _)]; rfl
  have hS : SufAt W b f m R := h.off (B := fun _ => False) (.of_ext hE) id
  have c3 := hS.c3
  have e1 : IntKind.u64.wrap ((f : Int) + (m : Int) + 1) = (f : Int) + (m : Int) + 1 := by rw [IntWalk.u64_in _ (by omega)]
  have e2 : ((x.idx : Int) == (f : Int) + (m : Int) + 1) = true := by rw [beq_iff_eq]; omega
  have hm1 : m ≤ 256 := by omega
  have hm2 : ((m : Int) == 256) = true := by rw [beq_iff_eq]; omega
  clear hx hm
  have c3' := c3
  rw [hW] at c3'
  unfold It.row at hW c3'
  go_enter Try.func10, Try.ntmps10
  go_wp2_with fail
  clear c3'
  rw [← hW]
  clear hW
  refine wp_region_class (Ext W) (by kernel_rfl) (by kernel_rfl) (Ext.refl _).drew ?_
  iterate 1 (refine wpQuiet_step (fun K hK => ?_); go_simp; first | (refine hK _ ?_; clear hK K) | (refine ⟨_, fun _ _ => rfl, hK _ ?_⟩; clear hK K))
  refine wpQuiet_load_cell rfl 22 _ rfl w.heap.size 0 rfl _ (fun w' h => h.cell q0) _ Try.underlying22 rfl ?_
  iterate 1 (refine wpQuiet_step (fun K hK => ?_); go_simp; first | (refine hK _ ?_; clear hK K) | (refine ⟨_, fun _ _ => rfl, hK _ ?_⟩; clear hK K))
  refine wpQuiet_step (fun K hK => ?_)
  go_simp
  refine ⟨_, fun w' hw => (last_any w' b f m R (hS.off (B := fun _ => False) (.of_ext hw) id) (by omega) (by omega)).mono fun _ _ ⟨he, hw'⟩ => ⟨he, hw' ▸ hw.drew⟩, hK _ ?_⟩; clear hK K
  iterate 3 (refine wpQuiet_step (fun K hK => ?_); go_simp; first | (refine hK _ ?_; clear hK K) | (refine ⟨_, fun _ _ => rfl, hK _ ?_⟩; clear hK K))
  refine wpQuiet_nil (fun W2 hW2 => ?_)
  have d1 := (hS.off (B := fun _ => False) (.of_ext hW2) id).c1
  go_wp2
  go_ret
  exact ⟨rfl, hE.trans hW2⟩
end Go.Proofs.Ytdkhcamckjidcaa
