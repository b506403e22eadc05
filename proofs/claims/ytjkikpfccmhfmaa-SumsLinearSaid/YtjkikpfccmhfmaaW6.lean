import Derived.Test.YtjkikpfccmhfmaaW5
import Derived.Test.YtjkikpfccmhfmaaKit2
import Derived.ChangeKeysEq
namespace Go.Proofs.Ytjkikpfccmhfmaa
open Go.RowKit
theorem part22 (T : Nat → Nat) (i : Nat) (hi : i < 256) (w : World) : (part 22 (aggOf T) i).run Try.prog w = .ok (.int .u32 ((T i : Nat) : Int)) w := by
  have ha : (isAgg 22).run Try.prog w = .ok false w := by
    unfold isAgg; rw [Sem.run_bind, run_underlying Try.underlying22 w]; rfl
  unfold part
  rw [Sem.run_bind, ha, aggOf_at T i hi]
  simp
theorem index23 (T : Nat → Nat) (c : Nat) (hc : c < 256) (w : World) : (Instr.index 23 (.agg (aggOf T)) (.int .u8 (c : Int))).run Try.prog w = .ok (.int .u32 ((T c : Nat) : Int)) w := by
  have hs : (sizeOf 22).run Try.prog w = .ok 1 w := by
    have h : (Try.prog.info? 22).map (·.size) = some 1 := by kernel_rfl
    cases hq : Try.prog.info? 22 with
    | none => simp [hq] at h
    | some i => simp [hq] at h; simp [sizeOf, typeInfo, hq, h]
  have h1 : (0 : Int) ≤ (c : Int) ∧ (c : Int) < ((256 : Nat) : Int) := by omega
  unfold Instr.index
  simp only [asIntOf, Sem.run_bind, Sem.run_pure, Result.andThen_ok, run_underlying Try.underlying23 w]
  rw [if_pos h1, Sem.run_bind, hs]
  simp only [Result.andThen_ok, Int.toNat_natCast, Nat.mul_one]
  exact part22 T c hc w
theorem info22 : ∃ i, Try.prog.info? 22 = some i := by
  have : (Try.prog.info? 22).isSome = true := by kernel_rfl
  exact Option.isSome_iff_exists.1 this
theorem eqItems_same (T : Nat → Nat) (w : World) : ∀ (is : List Nat), (∀ i ∈ is, i < 256) → (Op.eqItems 9999 22 1 (aggOf T) (aggOf T) is).run Try.prog w = .ok true w
  | [], _ => by simp [Op.eqItems]
  | i :: is, h => by
    have hi : i < 256 := h i (by simp)
    have hp := part22 T (i * 1) (by omega) w
    rw [Nat.mul_one] at hp
    have ih := eqItems_same T w is (fun j hj => h j (by simp [hj]))
    simp only [Op.eqItems, Sem.run_bind, Nat.mul_one, hp, Result.andThen_ok, run_equalIn_int w 9998 22 .u32 .u32 _ _ Try.underlying22]
    simp [ih]
theorem eq23 (T : Nat → Nat) (w : World) : (Op.equalIn 10000 23 (.agg (aggOf T)) (.agg (aggOf T))).run Try.prog w = .ok true w := by
  obtain ⟨i, hi⟩ := info22
  rw [run_equalIn_array w 9999 (aggOf T) (aggOf T) Try.underlying23 hi]
  have hc : Try.prog.cellsOf 22 = 1 := by kernel_rfl
  rw [hc]
  exact eqItems_same T w _ (fun i hi => List.mem_range.1 hi)
theorem eql23 (T : Nat → Nat) (w : World) : (binOp .eql 23 (.agg (aggOf T)) (.agg (aggOf T))).run Try.prog w = .ok (.bool true) w := by
  rw [run_eql_struct, eq23]; rfl
set_option maxRecDepth 100000 in
set_option maxHeartbeats 400000 in
theorem sumsTable_walk (w : World) (a : Int) (o0 : ∃ n, OKC Try.prog w n 5 [.int .u8 a]) :
    Calls Try.prog 3 #[.int .u8 a] w fun e w' => e = .returned (.bool true) ∧ Ext w w' := by
  obtain ⟨c, rfl, hc⟩ : ∃ c : Nat, a = c ∧ c < 256 := by
    obtain ⟨n, h⟩ := o0
    obtain ⟨c, h1, h2⟩ := okc_u8 h
    simp at h1; exact ⟨c, h1, h2⟩
  have hz := zero23
  go_enter Try.func3, Try.ntmps3
  go_wp2_with fail
  refine (table_any w).mono ?_
  rintro e w1 ⟨rfl, hx1⟩
  go_wp2_with (refine wpList_store_tab rfl _ _ rfl _ _ _ rfl rfl rfl ?_)
  clear hz
  obtain ⟨W, hW⟩ : ∃ W, W = w1.alloc (.cells (aggOf Crc.tab) 23) := ⟨_, rfl⟩
  have hT : W.heap[w1.heap.size]? = some (.cells (aggOf Crc.tab) 23 (0, 0)) := by rw [hW]; exact heap_alloc_new _ _
  have hE : Ext w W := by rw [hW]; exact Ext.alloc hx1 _
  rw [← hW]
  clear hW
  have hC : ∀ i, i < 256 → ∀ w', Ext W w' → w'.cell? ⟨w1.heap.size, i, none⟩ = some (.int .u32 (Crc.tab i : Nat)) := fun i hi w' h => h.cell (by rw [cell_of_row W _ i _ 23 _ hT]; exact aggOf_at _ i hi)
  have heq := eql23
  have hix := index23 Crc.tab c hc
  have hc' : (c : Int) < 256 := by omega
  refine wp_region_class (Ext W) (by kernel_rfl) (by kernel_rfl) (Ext.refl _).drew ?_
  refine wpQuiet_load_row rfl 23 _ rfl w1.heap.size rfl 23 (aggOf Crc.tab) (0, 0) _ (fun w' h => h.row hT) Try.underlying23 rfl (by rw [aggOf_size]; exact info23) ?_
  refine wpQuiet_step (fun K hK => ?_)
  go_simp
  refine ⟨_, fun w' h => (refTable_any w').mono fun e w'' ⟨he, hx⟩ => ⟨he, h.trans hx⟩, hK _ ?_⟩; clear hK K
  iterate 4 (refine wpQuiet_step (fun K hK => ?_); go_simp; first | (refine hK _ ?_; clear hK K) | (refine ⟨_, fun _ _ => rfl, hK _ ?_⟩; clear hK K))
  refine wpQuiet_load_cell rfl 22 _ rfl w1.heap.size c rfl _ (fun w' h => hC c hc w' h) _ Try.underlying22 rfl ?_
  refine wpQuiet_step (fun K hK => ?_)
  go_simp
  refine ⟨_, fun w' h => (table_any w').mono fun e w'' ⟨he, hx⟩ => ⟨he, h.trans hx⟩, hK _ ?_⟩; clear hK K
  iterate 5 (refine wpQuiet_step (fun K hK => ?_); go_simp; first | (refine hK _ ?_; clear hK K) | (refine ⟨_, fun _ _ => rfl, hK _ ?_⟩; clear hK K))
  refine wpQuiet_nil (fun w' hw' => ?_)
  go_wp2
  go_ret
  exact ⟨rfl, hE.trans hw'⟩
end Go.Proofs.Ytjkikpfccmhfmaa
