import Derived.Test.YtjkikpfccmhfmaaW2
import Derived.Lib.SlBytesConst
namespace Go.Proofs.Ytjkikpfccmhfmaa
open Go.RowKit
theorem wpList_store_tab {ops : Array Oper} {rest : List Oper} {o : Oper} {a : Act} {Q : Exit → Act → World → Prop} (hgd : o.guard = none) (x y : Operand) (ho : o.op = .store 23 x y)
    (T : Nat → Nat) (w : World) (B : Nat) (hx : a.eval x = .pointer (some ⟨B, 0, none⟩)) (hB : w.heap.size = B) (hy : a.eval y = .agg (aggOf T))
    (h : wpList Try.prog ops Q rest (a.put o.dst undef) (w.alloc (.cells (aggOf T) 23))) : wpList Try.prog ops Q (o :: rest) a (w.alloc (.cells Z256 23)) :=
  wpList_store_whole hgd 23 x y ho w Z256 (aggOf T) B hx hB hy (by rw [aggOf_size]; exact info23) (by rw [Z256, aggOf_size, aggOf_size]) (aggOf_one T) h
theorem TabAt.new (T : Nat → Nat) (w : World) : TabAt (w.alloc (.cells (aggOf T) 23)) w.heap.size T := fun i hi => by
  rw [cell_of_row _ _ i (aggOf T) 23 (0, 0) (heap_alloc_new w _)]; exact aggOf_at T i hi
theorem BytesAt.lit (w : World) (bs : List Nat) (n : Nat) (cs : Array Value) (fr : Nat × Nat) (hcs : cs.toList = u8s bs) (hn : n = bs.length) (hb : ∀ c ∈ bs, c < 256) (hl : bs.length ≤ 9223372036854775807) :
    BytesAt (w.alloc (.cells cs 5 fr)) (.slice (some ⟨w.heap.size, 0, none⟩) n n) bs := by
  subst hn
  refine ⟨hb, by simp [u8s], hl, .inr ⟨w.heap.size, 0, bs.length, rfl, Nat.le_refl _, fun i hi => ?_⟩⟩
  rw [Nat.zero_add, cell_of_row _ _ i cs 5 fr (heap_alloc_new w _), ← hcs]
  simp
theorem BytesAt.none (w : World) : BytesAt w (.slice Option.none 0 0) [] := ⟨by simp, RowIs.nil _ _ _ _ (fun _ => rfl)⟩
theorem TOK.zero : TOK (fun _ => 0) := fun _ _ => (by decide : 0 < 4294967296)
theorem k1 : Crc.on Crc.tab 0 [] = 0 := by decide +kernel
theorem k2 : Crc.on Crc.tab 0 [49, 50, 51, 52, 53, 54, 55, 56, 57] = 3808858755 := by decide +kernel
theorem k3 : Crc.on Crc.tab 0 (List.replicate 32 0) = 2324772522 := by decide +kernel
theorem k4 : Crc.on Crc.tab 0 (List.replicate 32 255) = 1655221059 := by decide +kernel
theorem k5 : Crc.on (fun _ => 0) 5 [97, 98] = 4294901760 := by decide +kernel
set_option maxRecDepth 100000 in
set_option maxHeartbeats 400000 in
theorem alive_any (w : World) : Calls Try.prog 22 #[] w fun e w' => e = .returned (.bool true) ∧ Ext w w' := by
  have hz := zero23
  have hb := build23
  have hcv := fun (w : World) (C : Array Value) (n c : Nat) => Lib.run_convert_bytes_const (P := Try.prog) w 26 5 C n c Try.underlying26 Try.underlying5
  have hg : ∀ T i, i < 256 → (aggOf T)[i]? = some (.int .u32 ((T i : Nat) : Int)) := aggOf_at
  have t0 : Crc.tab 0 = 0 := by decide +kernel
  have t1 : Crc.tab 128 = 2197175160 := by decide +kernel
  go_enter Try.func22, Try.ntmps22
  go_wp2_with fail
  refine (table_any w).mono ?_
  rintro e w1 ⟨rfl, hx1⟩
  go_wp2_with (first
    | (refine wpList_store_tab rfl _ _ rfl _ _ _ rfl (by simp) rfl ?_)
    | fail)
  clear hz hb hg t0 t1
  obtain ⟨W, hW⟩ : ∃ W, W = ((w1.alloc (.cells (aggOf Crc.tab) 23)).alloc (.cells (aggOf fun _ => 0) 23)) := ⟨_, rfl⟩
  have hT : TabAt W w1.heap.size Crc.tab := by rw [hW]; exact (TabAt.new _ _).ext ((Ext.refl _).alloc _)
  have hN : TabAt W (w1.heap.size + 1) (fun _ => 0) := by rw [hW]; have := TabAt.new (fun _ => 0) (w1.alloc (.cells (aggOf Crc.tab) 23)); simpa using this
  have hE : Ext w W := by rw [hW]; exact (Ext.alloc hx1 _).alloc _
  rw [← hW]
  clear hW hx1
  refine (of_any w1.heap.size Crc.tab _ [] W hT tab_ok (BytesAt.none _)).mono ?_
  rintro e w2 ⟨rfl, rfl⟩
  rw [k1]
  go_wp2_with fail
  refine (of_any w1.heap.size Crc.tab _ [49, 50, 51, 52, 53, 54, 55, 56, 57] _ (hT.ext ((Ext.refl _).alloc _)) tab_ok (BytesAt.lit W _ 9 _ _ rfl rfl (by decide) (by decide))).mono ?_
  rintro e w2 ⟨rfl, rfl⟩
  rw [k2]
  go_wp2_with fail
  refine (repeat_any 0 32 _ (by decide) (by decide)).mono ?_
  rintro e w3 ⟨v3, rfl, hB3, hE3⟩
  go_wp2_with fail
  have hX3 : Ext W w3 := ((Ext.refl _).alloc _).trans hE3
  refine (of_any w1.heap.size Crc.tab _ _ _ (hT.ext hX3) tab_ok hB3).mono ?_
  rintro e w2 ⟨rfl, rfl⟩
  rw [k3]
  go_wp2_with fail
  refine (repeat_any 255 32 _ (by decide) (by decide)).mono ?_
  rintro e w4 ⟨v4, rfl, hB4, hE4⟩
  go_wp2_with fail
  have hX4 : Ext W w4 := hX3.trans hE4
  refine (of_any w1.heap.size Crc.tab _ _ _ (hT.ext hX4) tab_ok hB4).mono ?_
  rintro e w2 ⟨rfl, rfl⟩
  rw [k4]
  go_wp2_with fail
  refine (of_nil _ _).mono ?_
  rintro e w2 ⟨rfl, rfl⟩
  obtain ⟨w5, h5⟩ : ∃ w5, w5 = w4.alloc (.cells #[Value.int .u8 97] 5 (1, 2)) := ⟨_, rfl⟩
  have hX5 : Ext W w5 := by rw [h5]; exact hX4.alloc _
  rw [← h5]
  clear h5
  go_wp2_with fail
  refine (on_any (w1.heap.size + 1) (fun _ => 0) 5 _ [97, 98] _ (by decide) (by decide) (hN.ext (hX5.alloc _)) TOK.zero (BytesAt.lit w5 _ 2 _ _ rfl rfl (by decide) (by decide))).mono ?_
  rintro e w2 ⟨rfl, rfl⟩
  rw [show Int.toNat 5 = 5 from rfl, k5]
  go_wp2
  go_ret
  exact ⟨rfl, hE.trans (hX5.alloc _)⟩
end Go.Proofs.Ytjkikpfccmhfmaa
