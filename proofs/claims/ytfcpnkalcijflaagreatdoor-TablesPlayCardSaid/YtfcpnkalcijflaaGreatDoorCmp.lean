/- order.Cmp tells cmpM. No condition. -/
import Derived.Test.YtfcpnkalcijflaaGreatDoorMark
import Derived.Test.YtfcpnkalcijflaaGreatDoorKit3
import Derived.Test.YtfcpnkalcijflaaGreatDoorChecked
import Derived.BigQuiet
namespace Go.Proofs.YtfcpnkalcijflaaGreatDoor
open Go.RowKit
def cS (x y : ByteArray) : Int := if Op.bytesLess x.toList y.toList then -1 else if x.toList == y.toList then 0 else 1
def cN (x y : Nat) : Int := if x < y then -1 else if y < x then 1 else 0
theorem ret_int {k : IntKind} {a b : Int} (h : a = b) : Ending.returned (.int k a) = .returned (.int k b) := by rw [h]
theorem nas_any (w : World) (s : ByteArray) : Calls Tryz.prog 102 #[.string s] w fun e w' => e = .returned (.bool false) ∧ w = w' := by
  go_enter Tryz.func102, Tryz.ntmps102
  go_wp2
  go_ret
  exact ⟨rfl, rfl⟩
theorem nau_any (w : World) (x : Int) : Calls Tryz.prog 103 #[.int .u64 x] w fun e w' => e = .returned (.bool false) ∧ w = w' := by
  go_enter Tryz.func103, Tryz.ntmps103
  go_wp2
  go_ret
  exact ⟨rfl, rfl⟩
theorem nab_any (w : World) (x : Int) : Calls Tryz.prog 104 #[.int .u8 x] w fun e w' => e = .returned (.bool false) ∧ w = w' := by
  go_enter Tryz.func104, Tryz.ntmps104
  go_wp2
  go_ret
  exact ⟨rfl, rfl⟩
theorem cps_any (w : World) (x y : ByteArray) : Calls Tryz.prog 95 #[.string x, .string y] w fun e w' => e = .returned (.int .i64 (cS x y)) ∧ w = w' := by
  go_enter Tryz.func95, Tryz.ntmps95
  go_wp2_with fail
  refine (nas_any _ x).mono ?_
  rintro e w' ⟨rfl, rfl⟩
  go_wp2_with fail
  refine (nas_any _ y).mono ?_
  rintro e w' ⟨rfl, rfl⟩
  cases h1 : Op.bytesLess x.toList y.toList
  · cases h2 : x.toList == y.toList
    all_goals
      go_wp2_with fail
      go_ret
      exact ⟨ret_int (by unfold cS; rw [h1, h2]; rfl), rfl⟩
  · go_wp2_with fail
    go_ret
    exact ⟨ret_int (by unfold cS; rw [h1]; rfl), rfl⟩
theorem cpu_any (w : World) (x y : Nat) : Calls Tryz.prog 97 #[.int .u64 (x : Int), .int .u64 (y : Int)] w fun e w' => e = .returned (.int .i64 (cN x y)) ∧ w = w' := by
  go_enter Tryz.func97, Tryz.ntmps97
  go_wp2_with fail
  refine (nau_any _ x).mono ?_
  rintro e w' ⟨rfl, rfl⟩
  go_wp2_with fail
  refine (nau_any _ y).mono ?_
  rintro e w' ⟨rfl, rfl⟩
  by_cases h1 : x < y
  · have h1' : (x : Int) < (y : Int) := by omega
    go_wp2_with fail
    go_ret
    exact ⟨ret_int (by unfold cN; rw [if_pos h1]), rfl⟩
  · have h1' : ¬ (x : Int) < (y : Int) := by omega
    by_cases h2 : y < x
    · have h2' : (y : Int) < (x : Int) := by omega
      go_wp2_with fail
      go_ret
      exact ⟨ret_int (by unfold cN; rw [if_neg h1, if_pos h2]), rfl⟩
    · have h2' : ¬ (y : Int) < (x : Int) := by omega
      go_wp2_with fail
      go_ret
      exact ⟨ret_int (by unfold cN; rw [if_neg h1, if_neg h2]), rfl⟩
theorem cpb_any (w : World) (x y : Nat) : Calls Tryz.prog 99 #[.int .u8 (x : Int), .int .u8 (y : Int)] w fun e w' => e = .returned (.int .i64 (cN x y)) ∧ w = w' := by
  go_enter Tryz.func99, Tryz.ntmps99
  go_wp2_with fail
  refine (nab_any _ x).mono ?_
  rintro e w' ⟨rfl, rfl⟩
  go_wp2_with fail
  refine (nab_any _ y).mono ?_
  rintro e w' ⟨rfl, rfl⟩
  by_cases h1 : x < y
  · have h1' : (x : Int) < (y : Int) := by omega
    go_wp2_with fail
    go_ret
    exact ⟨ret_int (by unfold cN; rw [if_pos h1]), rfl⟩
  · have h1' : ¬ (x : Int) < (y : Int) := by omega
    by_cases h2 : y < x
    · have h2' : (y : Int) < (x : Int) := by omega
      go_wp2_with fail
      go_ret
      exact ⟨ret_int (by unfold cN; rw [if_neg h1, if_pos h2]), rfl⟩
    · have h2' : ¬ (y : Int) < (x : Int) := by omega
      go_wp2_with fail
      go_ret
      exact ⟨ret_int (by unfold cN; rw [if_neg h1, if_neg h2]), rfl⟩
theorem flag_any (w : World) (b : Bool) : Calls Tryz.prog 100 #[.bool b] w fun e w' => e = .returned (.int .u8 ((goneN b : Nat) : Int)) ∧ w = w' := by
  cases b
  all_goals
    go_enter Tryz.func100, Tryz.ntmps100
    go_wp2
    go_ret
    exact ⟨rfl, rfl⟩
/-- A mark's block. -/
def MkAt (w : World) (b : Nat) (m : Mk) : Prop := w.heap[b]? = some (.cells #[.string m.key, .int .u64 (m.seq : Int), .bool m.gone] 47 (0, 0))
theorem MkAt.ext {w w' : World} {b : Nat} {m : Mk} (h : MkAt w b m) (he : Ext w w') : MkAt w' b m := he.row h
theorem MkAt.cells {w : World} {b : Nat} {m : Mk} (h : MkAt w b m) : w.cell? ⟨b, 0, none⟩ = some (.string m.key) ∧ w.cell? ⟨b, 1, none⟩ = some (.int .u64 (m.seq : Int)) ∧ w.cell? ⟨b, 2, none⟩ = some (.bool m.gone) := by
  refine ⟨?_, ?_, ?_⟩ <;> (rw [cell_of_row _ _ _ _ 47 (0, 0) h]; rfl)
theorem cmp1_any (w : World) (a b : Nat) (m n : Mk) (ha : MkAt w a m) (hb : MkAt w b n) : Calls Tryz.prog 94 #[.pointer (some ⟨a, 0, none⟩), .pointer (some ⟨b, 0, none⟩)] w fun e w' => e = .returned (.int .i64 (cS m.key n.key)) ∧ w = w' := by
  obtain ⟨a0, _, _⟩ := ha.cells
  obtain ⟨b0, _, _⟩ := hb.cells
  go_enter Tryz.func94, Tryz.ntmps94
  go_wp2_with fail
  refine (cps_any _ _ _).mono ?_
  rintro e w' ⟨rfl, rfl⟩
  go_wp2
  go_ret
  exact ⟨rfl, rfl⟩
theorem cmp2_any (w : World) (a b : Nat) (m n : Mk) (ha : MkAt w a m) (hb : MkAt w b n) : Calls Tryz.prog 96 #[.pointer (some ⟨a, 0, none⟩), .pointer (some ⟨b, 0, none⟩)] w fun e w' => e = .returned (.int .i64 (cN m.seq n.seq)) ∧ w = w' := by
  obtain ⟨_, a0, _⟩ := ha.cells
  obtain ⟨_, b0, _⟩ := hb.cells
  go_enter Tryz.func96, Tryz.ntmps96
  go_wp2_with fail
  refine (cpu_any _ _ _).mono ?_
  rintro e w' ⟨rfl, rfl⟩
  go_wp2
  go_ret
  exact ⟨rfl, rfl⟩
theorem cmp3_any (w : World) (a b : Nat) (m n : Mk) (ha : MkAt w a m) (hb : MkAt w b n) : Calls Tryz.prog 98 #[.pointer (some ⟨a, 0, none⟩), .pointer (some ⟨b, 0, none⟩)] w fun e w' => e = .returned (.int .i64 (cN (goneN m.gone) (goneN n.gone))) ∧ Ext w w' := by
  obtain ⟨_, _, a0⟩ := ha.cells
  obtain ⟨_, _, b0⟩ := hb.cells
  go_enter Tryz.func98, Tryz.ntmps98
  go_wp2_with fail
  refine wp_region_class (Ext w) (by kernel_rfl) (by kernel_rfl) (Ext.refl _).drew ?_
  iterate 1 (refine wpQuiet_step (fun K hK => ?_); go_simp; first | (refine hK _ ?_; clear hK K) | (refine ⟨_, fun _ _ => rfl, hK _ ?_⟩; clear hK K))
  refine wpQuiet_load_cell (by rfl) 4 _ (by rfl) a 2 (by rfl) _ (fun w' h => h.cell a0) _ Tryz.underlying4 rfl ?_
  refine wpQuiet_step (fun K hK => ?_)
  go_simp
  refine ⟨_, fun w' hw => calls_same hw (flag_any _ _), hK _ ?_⟩; clear hK K
  iterate 1 (refine wpQuiet_step (fun K hK => ?_); go_simp; first | (refine hK _ ?_; clear hK K) | (refine ⟨_, fun _ _ => rfl, hK _ ?_⟩; clear hK K))
  refine wpQuiet_load_cell (by rfl) 4 _ (by rfl) b 2 (by rfl) _ (fun w' h => h.cell b0) _ Tryz.underlying4 rfl ?_
  refine wpQuiet_step (fun K hK => ?_)
  go_simp
  refine ⟨_, fun w' hw => calls_same hw (flag_any _ _), hK _ ?_⟩; clear hK K
  refine wpQuiet_step (fun K hK => ?_)
  go_simp
  refine ⟨_, fun w' hw => calls_same hw (cpb_any _ _ _), hK _ ?_⟩; clear hK K
  iterate 1 (refine wpQuiet_step (fun K hK => ?_); go_simp; first | (refine hK _ ?_; clear hK K) | (refine ⟨_, fun _ _ => rfl, hK _ ?_⟩; clear hK K))
  refine wpQuiet_nil (fun w4 hE4 => ?_)
  go_wp2
  go_ret
  exact ⟨rfl, hE4⟩
theorem c_eq (m n : Mk) : cmpM m n = if cS m.key n.key ≠ 0 then cS m.key n.key else if cN n.seq m.seq ≠ 0 then cN n.seq m.seq else cN (goneN n.gone) (goneN m.gone) := by
  unfold cmpM
  have hlt := @Mk.lt_iff m n
  have hgt := @Mk.lt_iff n m
  cases h1 : Op.bytesLess m.key.toList n.key.toList
  · cases h2 : m.key.toList == n.key.toList
    · have hs : cS m.key n.key = 1 := by unfold cS; rw [h1, h2]; rfl
      have hk : m.key.toList ≠ n.key.toList := by simpa using h2
      have h3 : Op.bytesLess n.key.toList m.key.toList = true := by
        cases h4 : Op.bytesLess n.key.toList m.key.toList with
        | true => rfl
        | false => exact absurd (bl_tri _ _ h1 h4) hk
      have k1 : m.ltB n = false := by rw [← Bool.not_eq_true, hlt, h1]; simp [hk]
      have k2 : n.ltB m = true := by rw [hgt]; exact .inl h3
      rw [k1, k2, hs]; simp
    · have hk : m.key.toList = n.key.toList := by simpa using h2
      have hs : cS m.key n.key = 0 := by unfold cS; rw [h1, h2]; rfl
      have h3 : Op.bytesLess n.key.toList m.key.toList = false := by rw [← hk, bl_irrefl]
      have a1 : m.ltB n = true ↔ n.seq < m.seq ∨ (m.seq = n.seq ∧ goneN n.gone < goneN m.gone) := by rw [hlt, h1]; simp [hk]
      have a2 : n.ltB m = true ↔ m.seq < n.seq ∨ (n.seq = m.seq ∧ goneN m.gone < goneN n.gone) := by rw [hgt, h3]; simp [hk]
      rw [hs]
      have hN : cN n.seq m.seq ≠ 0 ↔ n.seq ≠ m.seq := by unfold cN; split <;> (try split) <;> simp <;> omega
      have hb1 : m.ltB n = decide (n.seq < m.seq ∨ (m.seq = n.seq ∧ goneN n.gone < goneN m.gone)) := by rw [Bool.eq_iff_iff, a1, decide_eq_true_iff]
      have hb2 : n.ltB m = decide (m.seq < n.seq ∨ (n.seq = m.seq ∧ goneN m.gone < goneN n.gone)) := by rw [Bool.eq_iff_iff, a2, decide_eq_true_iff]
      rw [hb1, hb2]
      simp only [ne_eq, not_true_eq_false, if_false, decide_eq_true_eq]
      by_cases hse : n.seq = m.seq
      · have h0 : cN n.seq m.seq = 0 := by unfold cN; rw [if_neg (by omega), if_neg (by omega)]
        rw [h0]
        simp only [not_true_eq_false, if_false]
        unfold cN
        by_cases g1 : goneN n.gone < goneN m.gone
        · rw [if_pos (by omega), if_pos g1]
        · rw [if_neg (by omega), if_neg g1]
          by_cases g2 : goneN m.gone < goneN n.gone
          · rw [if_pos (by omega), if_pos g2]
          · rw [if_neg (by omega), if_neg g2]
      · rw [if_pos (hN.2 hse)]
        unfold cN
        by_cases g1 : n.seq < m.seq
        · rw [if_pos (by omega), if_pos g1]
        · rw [if_neg (by omega), if_pos (by omega), if_neg g1, if_pos (by omega)]
  · have hs : cS m.key n.key = -1 := by unfold cS; rw [h1]; rfl
    have k1 : m.ltB n = true := by rw [hlt]; exact .inl h1
    rw [k1, hs]; simp
set_option maxRecDepth 100000 in
set_option maxHeartbeats 1000000 in
theorem cmp_any (w : World) (m n : Mk) : Calls Tryz.prog 65 #[.agg #[.string m.key, .int .u64 (m.seq : Int), .bool m.gone], .agg #[.string n.key, .int .u64 (n.seq : Int), .bool n.gone]] w fun e w' => e = .returned (.int .i64 (cmpM m n)) ∧ Ext w w' := by
  obtain ⟨W, hW⟩ : ∃ W, W = ((w.alloc (.cells #[.string m.key, .int .u64 (m.seq : Int), .bool m.gone] 47)).alloc (.cells #[.string n.key, .int .u64 (n.seq : Int), .bool n.gone] 47)).alloc (.cells #[.func (.func 94) #[] #[.pointer (some ⟨w.heap.size, 0, none⟩), .pointer (some ⟨w.heap.size + 1, 0, none⟩)], .func (.func 96) #[] #[.pointer (some ⟨w.heap.size + 1, 0, none⟩), .pointer (some ⟨w.heap.size, 0, none⟩)], .func (.func 98) #[] #[.pointer (some ⟨w.heap.size + 1, 0, none⟩), .pointer (some ⟨w.heap.size, 0, none⟩)]] 59) := ⟨_, rfl⟩
  have hE : Ext w W := by rw [hW]; exact (((Ext.refl _).alloc _).alloc _).alloc _
  have ha : MkAt W w.heap.size m := by
    rw [hW]
    exact (((Ext.refl _).alloc _).alloc _).row (heap_alloc_new w _)
  have hb : MkAt W (w.heap.size + 1) n := by
    rw [hW]
    have h := heap_alloc_new (w.alloc (.cells #[.string m.key, .int .u64 (m.seq : Int), .bool m.gone] 47)) (.cells #[.string n.key, .int .u64 (n.seq : Int), .bool n.gone] 47)
    rw [show (w.alloc (.cells #[.string m.key, .int .u64 (m.seq : Int), .bool m.gone] 47)).heap.size = w.heap.size + 1 by simp] at h
    exact ((Ext.refl _).alloc _).row h
  have hf : W.heap[w.heap.size + 1 + 1]? = some (.cells #[.func (.func 94) #[] #[.pointer (some ⟨w.heap.size, 0, none⟩), .pointer (some ⟨w.heap.size + 1, 0, none⟩)], .func (.func 96) #[] #[.pointer (some ⟨w.heap.size + 1, 0, none⟩), .pointer (some ⟨w.heap.size, 0, none⟩)], .func (.func 98) #[] #[.pointer (some ⟨w.heap.size + 1, 0, none⟩), .pointer (some ⟨w.heap.size, 0, none⟩)]] 59 (0, 0)) := by
    rw [hW]
    have h := heap_alloc_new ((w.alloc (.cells #[.string m.key, .int .u64 (m.seq : Int), .bool m.gone] 47)).alloc (.cells #[.string n.key, .int .u64 (n.seq : Int), .bool n.gone] 47)) (.cells #[.func (.func 94) #[] #[.pointer (some ⟨w.heap.size, 0, none⟩), .pointer (some ⟨w.heap.size + 1, 0, none⟩)], .func (.func 96) #[] #[.pointer (some ⟨w.heap.size + 1, 0, none⟩), .pointer (some ⟨w.heap.size, 0, none⟩)], .func (.func 98) #[] #[.pointer (some ⟨w.heap.size + 1, 0, none⟩), .pointer (some ⟨w.heap.size, 0, none⟩)]] 59)
    rw [show ((w.alloc (.cells #[.string m.key, .int .u64 (m.seq : Int), .bool m.gone] 47)).alloc (.cells #[.string n.key, .int .u64 (n.seq : Int), .bool n.gone] 47)).heap.size = w.heap.size + 1 + 1 by simp] at h
    exact h
  have hW' := Lib.hid hW
  clear hW
  go_enter Tryz.func65, Tryz.ntmps65
  go_wp2_with fail
  rw [← hW'.out]
  clear hW'
  go_loopw [15] (fun i wr => ∃ k : Nat, k ≤ 3 ∧ i = .int .i64 k ∧ ((1 ≤ k → cS m.key n.key = 0) ∧ (2 ≤ k → cN n.seq m.seq = 0) ∧ (3 ≤ k → cN (goneN n.gone) (goneN m.gone) = 0)) ∧ Ext W wr) (fun i _ => 3 - (intOf i).toNat)
  case atStart => exact ⟨0, by omega, rfl, ⟨fun h => by omega, fun h => by omega, fun h => by omega⟩, Ext.refl _⟩
  case round =>
    obtain ⟨k, hk, rfl, hst, hX⟩ := hrel
    have hst' := Lib.hid hst
    have hfX := hX.row hf
    have f0 := cell_of_row _ _ 0 _ 59 (0, 0) hfX
    have f1 := cell_of_row _ _ 1 _ 59 (0, 0) hfX
    have f2 := cell_of_row _ _ 2 _ 59 (0, 0) hfX
    simp only [List.getElem?_toArray, List.getElem?_cons_zero, List.getElem?_cons_succ] at f0 f1 f2
    have hEX := hE.trans hX
    have haX := ha.ext hX
    have hbX := hb.ext hX
    clear hst hf hfX ha hb
    obtain rfl | rfl | rfl | rfl : k = 0 ∨ k = 1 ∨ k = 2 ∨ k = 3 := by omega
    · cases hz : decide (cS m.key n.key = 0)
      · have hz0 : ¬ cS m.key n.key = 0 := by simpa using hz
        clear hz
        go_wp2_with fail
        refine (cmp1_any _ _ _ m n haX hbX).mono ?_
        rintro e w' ⟨rfl, rfl⟩
        go_wp2_with fail
        go_ret
        exact ⟨ret_int (by rw [c_eq]; rw [if_pos hz0]), hEX⟩
      · have hz0 : cS m.key n.key = 0 := by simpa using hz
        clear hz
        have hz1 := Lib.hid hz0
        clear hz0
        go_wp2_with fail
        refine (cmp1_any _ _ _ m n haX hbX).mono ?_
        rw [hz1.out]
        rintro e w' ⟨rfl, rfl⟩
        go_wp2_with fail
        go_roundw
        case rel => exact ⟨1, by omega, rfl, ⟨fun _ => hz1.out, fun h => by omega, fun h => by omega⟩, hX⟩
        case measure => simp [intOf]
    · cases hz : decide (cN n.seq m.seq = 0)
      · have hz0 : ¬ cN n.seq m.seq = 0 := by simpa using hz
        clear hz
        go_wp2_with fail
        refine (cmp2_any _ _ _ n m hbX haX).mono ?_
        rintro e w' ⟨rfl, rfl⟩
        go_wp2_with fail
        go_ret
        exact ⟨ret_int (by rw [c_eq]; rw [hst'.out.1 (by omega), if_neg (by simp), if_pos hz0]), hEX⟩
      · have hz0 : cN n.seq m.seq = 0 := by simpa using hz
        clear hz
        have hz1 := Lib.hid hz0
        clear hz0
        go_wp2_with fail
        refine (cmp2_any _ _ _ n m hbX haX).mono ?_
        rw [hz1.out]
        rintro e w' ⟨rfl, rfl⟩
        go_wp2_with fail
        go_roundw
        case rel => exact ⟨2, by omega, rfl, ⟨fun _ => hst'.out.1 (by omega), fun _ => hz1.out, fun h => by omega⟩, hX⟩
        case measure => simp [intOf]
    · cases hz : decide (cN (goneN n.gone) (goneN m.gone) = 0)
      · have hz0 : ¬ cN (goneN n.gone) (goneN m.gone) = 0 := by simpa using hz
        clear hz
        go_wp2_with fail
        refine (cmp3_any _ _ _ n m hbX haX).mono ?_
        rintro e w' ⟨rfl, hE2⟩
        go_wp2_with fail
        go_ret
        exact ⟨ret_int (by rw [c_eq]; rw [hst'.out.1 (by omega), if_neg (by simp), hst'.out.2.1 (by omega), if_neg (by simp)]), hEX.trans hE2⟩
      · have hz0 : cN (goneN n.gone) (goneN m.gone) = 0 := by simpa using hz
        clear hz
        have hz1 := Lib.hid hz0
        clear hz0
        go_wp2_with fail
        refine (cmp3_any _ _ _ n m hbX haX).mono ?_
        rw [hz1.out]
        rintro e w' ⟨rfl, hE2⟩
        go_wp2_with fail
        go_roundw
        case rel => exact ⟨3, by omega, rfl, ⟨fun _ => hst'.out.1 (by omega), fun _ => hst'.out.2.1 (by omega), fun _ => hz1.out⟩, hX.trans hE2⟩
        case measure => simp [intOf]
    · go_wp2_with fail
      go_ret
      exact ⟨ret_int (by rw [c_eq, hst'.out.1 (by omega), if_neg (by simp), hst'.out.2.1 (by omega), if_neg (by simp), hst'.out.2.2 (by omega)]), hEX⟩
end Go.Proofs.YtfcpnkalcijflaaGreatDoor
