import Derived.Test.YtjkikpfccmhfmaaW6
import Derived.StillTailTactics
namespace Go.Proofs.Ytjkikpfccmhfmaa
open Go.RowKit
def tabOf (L : Nat → Nat) (i : Nat) : Nat := L (i % 4) ^^^ (i / 4 * L ((i + 1) % 4) % 4294967296)
theorem tabOf_ok (L : Nat → Nat) (h : ∀ i, i < 4 → L i < 4294967296) : TOK (tabOf L) := fun i _ =>
  Nat.xor_lt_two_pow (n := 32) (h _ (Nat.mod_lt _ (by decide))) (Nat.mod_lt _ (by decide))
def agg4 (L : Nat → Nat) : Array Value := #[.int .u32 ((L 0 : Nat) : Int), .int .u32 ((L 1 : Nat) : Int), .int .u32 ((L 2 : Nat) : Int), .int .u32 ((L 3 : Nat) : Int)]
theorem agg4_at (L : Nat → Nat) (i : Nat) (h : i < 4) : (agg4 L)[i]? = some (.int .u32 ((L i : Nat) : Int)) := by
  match i, h with
  | 0, _ => rfl
  | 1, _ => rfl
  | 2, _ => rfl
  | 3, _ => rfl
set_option maxRecDepth 100000 in
set_option maxHeartbeats 400000 in
theorem ltable_any (L : Nat → Nat) (hL : ∀ i, i < 4 → L i < 4294967296) (w : World) : Calls Try.prog 16 #[.agg (agg4 L)] w fun e w' => e = .returned (.agg (aggOf (tabOf L))) ∧ Ext w w' := by
  have hz := zero23
  go_enter Try.func16, Try.ntmps16
  go_wp2
  clear hz
  obtain ⟨w0, h0⟩ : ∃ w0, w0 = (w.alloc (.cells (agg4 L) 27)).alloc (.cells Z256 23) := ⟨_, rfl⟩
  have hl0 : ∀ i, i < 4 → w0.cell? ⟨w.heap.size, i, none⟩ = some (.int .u32 ((L i : Nat) : Int)) := fun i hi => by
    rw [h0]; refine Ext.cell ((Ext.refl _).alloc _) ?_
    rw [cell_of_row _ _ i (agg4 L) 27 (0, 0) (heap_alloc_new w _)]; exact agg4_at L i hi
  have hr0 : w0.heap[w.heap.size + 1]? = some (.cells Z256 23 (0, 0)) := by rw [h0]; have := heap_alloc_new (w.alloc (.cells (agg4 L) 27)) (.cells Z256 23); simpa using this
  have hs0 : w0.heap.size = w.heap.size + 1 + 1 := by rw [h0]; simp
  have hE0 : Ext w w0 := by rw [h0]; exact ((Ext.refl _).alloc _).alloc _
  have ht0 : TabRow (tabOf L) 0 (w.heap.size + 1 + 1) (w0.alloc (.cells Z256 23)) := by rw [← hs0]; exact TabRow.start
  rw [← h0]
  have HS0 := Lib.hid hs0
  clear h0 hs0
  go_loopw [4] (fun i wr => ∃ k : Nat, k ≤ 256 ∧ i = .int .i64 k ∧ TabRow (tabOf L) k (w.heap.size + 1 + 1) wr ∧ Ext w0 wr) (fun i _ => 256 - (intOf i).toNat)
  case atStart => exact ⟨0, by omega, rfl, ht0, (Ext.refl _).alloc _⟩
  case round =>
    obtain ⟨k, hk, rfl, hrow, hbel⟩ := hrel
    by_cases hlt : k < 256
    · have m1 : k % 4 < 4 := Nat.mod_lt _ (by decide)
      have m2 : (k + 1) % 4 < 4 := Nat.mod_lt _ (by decide)
      have hl1 := hbel.cell (hl0 (k % 4) m1)
      have hl2 := hbel.cell (hl0 ((k + 1) % 4) m2)
      obtain ⟨v, hv⟩ := hrow.cell k hlt
      have hf := hrow.free k
      have e1 : IntKind.i64.wrap ((k : Int) + 1) = (k : Int) + 1 := by rw [IntWalk.i64_in _ (by omega)]
      have e2 : (k : Int).tmod 4 = ((k % 4 : Nat) : Int) := by rw [Int.tmod_eq_emod_of_nonneg (by omega)]; omega
      have e3 : ((k : Int) + 1).tmod 4 = (((k + 1) % 4 : Nat) : Int) := by rw [Int.tmod_eq_emod_of_nonneg (by omega)]; omega
      have e4 : (k : Int).tdiv 4 = ((k / 4 : Nat) : Int) := by rw [Int.tdiv_eq_ediv_of_nonneg (by omega)]; omega
      have e5 : IntKind.i64.wrap ((k / 4 : Nat) : Int) = ((k / 4 : Nat) : Int) := by rw [IntWalk.i64_in _ (by omega)]
      have e6 : IntKind.u32.wrap ((k / 4 : Nat) : Int) = ((k / 4 : Nat) : Int) := by rw [IntKind.wrap_u32]; omega
      have e7 : IntKind.u32.wrap (((k / 4 : Nat) : Int) * ((L ((k + 1) % 4) : Nat) : Int)) = ((k / 4 * L ((k + 1) % 4) % 4294967296 : Nat) : Int) := by rw [IntKind.wrap_u32]; simp
      have b1 : ((k % 4 : Nat) : Int) < 4 := by omega
      have b2 : (((k + 1) % 4 : Nat) : Int) < 4 := by omega
      generalize hg1 : k % 4 = i1 at *
      generalize hg2 : (k + 1) % 4 = i2 at *
      generalize hg3 : k / 4 = i3 at *
      generalize hg4 : i3 * L i2 % 4294967296 = i4 at *
      have HG := Lib.hid (show L i1 ^^^ i4 = tabOf L k by unfold tabOf; rw [hg1, hg2, hg3, hg4])
      have h4 : i4 < 4294967296 := by rw [← hg4]; exact Nat.mod_lt _ (by decide)
      have e8 := u32_xor_nat (L i1) i4 (hL i1 m1) h4
      have b0 : (k : Int) < 256 := by omega
      clear hg1 hg2 hg3 hg4
      go_wp2
      go_still_tail 16, (by kernel_rfl)
      change wpList _ _ _ _ _ wr.drew
      go_wp2
      go_roundw
      case rel => exact ⟨k + 1, by omega, by go_num, by rw [HG.out]; exact hrow.put hlt, (hbel.setCell (by rw [HS0.out]; exact Nat.le_refl _) _).drew⟩
      case measure => simp [intOf]; omega
    · obtain rfl : k = 256 := by omega
      have hfull := hrow.full
      have hold := hbel.row hr0
      go_wp2_with (first | (refine wpList_load_row rfl 23 _ rfl (w.heap.size + 1 + 1) rfl 23 _ _ _ hfull Try.underlying23 rfl (by rw [aggOf_size]; exact info23) ?_) | (refine wpList_store_row rfl 23 _ _ rfl (w.heap.size + 1) (aggOf (tabOf L)) rfl rfl 23 _ hold (by rw [aggOf_size]; exact info23) (by rw [Z256, aggOf_size, aggOf_size]) (aggOf_one _) ?_))
      have hset := setRow_heap wr (w.heap.size + 1) Z256 (aggOf (tabOf L)) 23 _ hold
      exact bodyPost_ret (v := .agg (aggOf (tabOf L))) (results_cell_row (p := 2) (ty := 23) rfl _ _ (w.heap.size + 1) 23 _ _ _ rfl hset Try.underlying23 rfl (by rw [aggOf_size]; exact info23)) rfl ⟨rfl, (hE0.trans hbel).setRow (by omega) _⟩
end Go.Proofs.Ytjkikpfccmhfmaa
