import Derived.Test.YtjkikpfccmhfmaaW4
namespace Go.Proofs.Ytjkikpfccmhfmaa
open Go.RowKit
theorem stp_odd (n : Nat) (h : n < 4294967296) (e : n % 2 = 1) : bits .xor .u32 ((n : Int) / 2) 2197175160 = ((Crc.stp n : Nat) : Int) := by
  have := u32_xor_nat (n / 2) 2197175160 (by omega) (by decide)
  rw [show ((n : Int) / 2) = ((n / 2 : Nat) : Int) by simp]
  unfold Crc.stp; rw [if_pos e]; exact this
theorem stp_even (n : Nat) (e : ¬ n % 2 = 1) : ((n : Int) / 2) = ((Crc.stp n : Nat) : Int) := by
  rw [show ((n : Int) / 2) = ((n / 2 : Nat) : Int) by simp]
  unfold Crc.stp; rw [if_neg e, Nat.xor_zero]
set_option maxRecDepth 100000 in
set_option maxHeartbeats 400000 in
theorem refTable_any (w : World) : Calls Try.prog 14 #[] w fun e w' => e = .returned (.agg (aggOf Crc.tab)) ∧ Ext w w' := by
  have hz := zero23
  go_enter Try.func14, Try.ntmps14
  go_wp2
  clear hz
  obtain ⟨w0, h0⟩ : ∃ w0, w0 = w.alloc (.cells Z256 23) := ⟨_, rfl⟩
  have hr0 : w0.heap[w.heap.size]? = some (.cells Z256 23 (0, 0)) := by rw [h0]; exact heap_alloc_new _ _
  have hs0 : w0.heap.size = w.heap.size + 1 := by rw [h0]; simp
  have hE0 : Ext w w0 := by rw [h0]; exact (Ext.refl _).alloc _
  have ht0 : TabRow Crc.tab 0 (w.heap.size + 1) (w0.alloc (.cells Z256 23)) := by rw [← hs0]; exact TabRow.start
  rw [← h0]
  have HS0 := Lib.hid hs0
  clear h0 hs0
  go_loopw [2, 3, 4, 5] (fun i _ _ _ wr => ∃ k : Nat, k ≤ 256 ∧ i = .int .i64 k ∧ TabRow Crc.tab k (w.heap.size + 1) wr ∧ Ext w0 wr) (fun i _ _ _ _ => 256 - (intOf i).toNat)
  case atStart => exact ⟨0, by omega, rfl, ht0, (Ext.refl _).alloc _⟩
  case round =>
    obtain ⟨k, hk, rfl, hrow, hbel⟩ := hrel
    by_cases hlt : k < 256
    · go_wp2
      go_loop [3, 4, 5] (fun n i _ => ∃ j : Nat, j ≤ 8 ∧ i = .int .i64 j ∧ n = .int .u32 (Crc.it j k : Nat)) (fun _ i _ => 8 - (intOf i).toNat)
      case atStart => exact ⟨0, by omega, rfl, rfl⟩
      case round =>
        obtain ⟨j, hj, rfl, rfl⟩ := hrel
        by_cases hj8 : j < 8
        · have hx := Crc.it_lt j (Nat.lt_trans hlt (by decide) : k < 2 ^ 32)
          have HI := Lib.hid (it_step j k)
          generalize Crc.it j k = n at *
          by_cases ho : n % 2 = 1
          · have hq : (((n : Int) % 2) == 1) = true := by simp; omega
            have HS := Lib.hid (stp_odd n (by omega) ho)
            clear ho
            go_wp2
            go_round
            case rel => exact ⟨j + 1, by omega, by go_num, by rw [HS.out, HI.out]⟩
            case measure => simp [intOf]; omega
          · have hq : (((n : Int) % 2) == 1) = false := by simp; omega
            have HS := Lib.hid (stp_even n ho)
            clear ho
            go_wp2
            go_round
            case rel => exact ⟨j + 1, by omega, by go_num, by rw [HS.out, HI.out]⟩
            case measure => simp [intOf]; omega
        · obtain rfl : j = 8 := by omega
          obtain ⟨v, hv⟩ := hrow.cell k hlt
          have hf := hrow.free k
          go_wp2
          go_roundw
          case rel => exact ⟨k + 1, by omega, by go_num, hrow.put hlt, hbel.setCell (by rw [HS0.out]; exact Nat.le_refl _) _⟩
          case measure => simp [intOf]; omega
    · obtain rfl : k = 256 := by omega
      have hfull := hrow.full
      have hold := hbel.row hr0
      go_wp2_with (first | (refine wpList_load_row rfl 23 _ rfl (w.heap.size + 1) rfl 23 _ _ _ hfull Try.underlying23 rfl (by rw [aggOf_size]; exact info23) ?_) | (refine wpList_store_row rfl 23 _ _ rfl w.heap.size (aggOf Crc.tab) rfl rfl 23 _ hold (by rw [aggOf_size]; exact info23) (by rw [Z256, aggOf_size, aggOf_size]) (aggOf_one _) ?_))
      have hset := setRow_heap wr w.heap.size Z256 (aggOf Crc.tab) 23 _ hold
      exact bodyPost_ret (v := .agg (aggOf Crc.tab)) (results_cell_row (p := 0) (ty := 23) rfl _ _ w.heap.size 23 _ _ _ rfl hset Try.underlying23 rfl (by rw [aggOf_size]; exact info23)) rfl ⟨rfl, (hE0.trans hbel).setRow (Nat.le_refl _) _⟩
end Go.Proofs.Ytjkikpfccmhfmaa
