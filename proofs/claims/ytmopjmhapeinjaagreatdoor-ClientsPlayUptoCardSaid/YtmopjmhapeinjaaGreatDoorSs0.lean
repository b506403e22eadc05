/- What two clients send is the same. (Printed by mkss.py.) No condition. -/
import Derived.Test.YtmopjmhapeinjaaGreatDoorGrD0
import Derived.Test.YtmopjmhapeinjaaGreatDoorCli4
import Derived.Test.YtmopjmhapeinjaaGreatDoorGrA6
import Derived.Test.YtmopjmhapeinjaaGreatDoorGrA1
namespace Go.Proofs.YtmopjmhapeinjaaGreatDoor
open Go.RowKit
set_option maxRecDepth 100000
set_option maxHeartbeats 4000000
theorem sbytes0 (w : World) : Calls Tryz.prog 109 #[.slice none 0 0, .slice none 0 0] w fun e w' => e = .returned (.bool true) ∧ Ext w w' := by
  go_enter Tryz.func109, Tryz.ntmps109
  go_wp2_with fail
  go_loopw [5] (fun i wr => i = .int .i64 0 ∧ Ext w wr) (fun _ _ => 0)
  case atStart => exact ⟨rfl, Ext.refl _⟩
  case round =>
    obtain ⟨rfl, hE⟩ := hrel
    go_wp2_with fail
    go_ret
    exact ⟨rfl, hE⟩
theorem snums0 (w : World) : Calls Tryz.prog 110 #[.slice none 0 0, .slice none 0 0] w fun e w' => e = .returned (.bool true) ∧ Ext w w' := by
  go_enter Tryz.func110, Tryz.ntmps110
  go_wp2_with fail
  go_loopw [5] (fun i wr => i = .int .i64 0 ∧ Ext w wr) (fun _ _ => 0)
  case atStart => exact ⟨rfl, Ext.refl _⟩
  case round =>
    obtain ⟨rfl, hE⟩ := hrel
    go_wp2_with fail
    go_ret
    exact ⟨rfl, hE⟩
theorem srows0 (w : World) : Calls Tryz.prog 112 #[.slice none 0 0, .slice none 0 0] w fun e w' => e = .returned (.bool true) ∧ Ext w w' := by
  go_enter Tryz.func112, Tryz.ntmps112
  go_wp2_with fail
  go_loopw [5] (fun i wr => i = .int .i64 0 ∧ Ext w wr) (fun _ _ => 0)
  case atStart => exact ⟨rfl, Ext.refl _⟩
  case round =>
    obtain ⟨rfl, hE⟩ := hrel
    go_wp2_with fail
    go_ret
    exact ⟨rfl, hE⟩
theorem ssaids0 (w : World) : Calls Tryz.prog 113 #[.slice none 0 0, .slice none 0 0] w fun e w' => e = .returned (.bool true) ∧ Ext w w' := by
  go_enter Tryz.func113, Tryz.ntmps113
  go_wp2_with fail
  go_loopw [5] (fun i wr => i = .int .i64 0 ∧ Ext w wr) (fun _ _ => 0)
  case atStart => exact ⟨rfl, Ext.refl _⟩
  case round =>
    obtain ⟨rfl, hE⟩ := hrel
    go_wp2_with fail
    go_ret
    exact ⟨rfl, hE⟩
theorem sreply0 (w : World) : Calls Tryz.prog 114 #[.agg #[.int .i64 0, .bool false, .slice none 0 0], .agg #[.int .i64 0, .bool false, .slice none 0 0]] w fun e w' => e = .returned (.bool true) ∧ Ext w w' := by
  obtain ⟨W, hW⟩ : ∃ W, W = (w.alloc (.cells (reH 0 false (.slice none 0 0)) 61)).alloc (.cells (reH 0 false (.slice none 0 0)) 61) := ⟨_, rfl⟩
  have hE : Ext w W := by rw [hW]; exact ((Ext.refl _).alloc _).alloc _
  have hX : W.heap[w.heap.size]? = some (.cells (reH 0 false (.slice none 0 0)) 61 (0, 0)) := by rw [hW]; exact ((Ext.refl _).alloc _).row (heap_alloc_new w _)
  have hY : W.heap[w.heap.size + 1]? = some (.cells (reH 0 false (.slice none 0 0)) 61 (0, 0)) := by
    have h := heap_alloc_new (w.alloc (.cells (reH 0 false (.slice none 0 0)) 61)) (.cells (reH 0 false (.slice none 0 0)) 61)
    rw [show (w.alloc (.cells (reH 0 false (.slice none 0 0)) 61)).heap.size = w.heap.size + 1 by simp] at h
    rw [hW]; exact h
  obtain ⟨x0, x1, x2⟩ := re_cells hX
  obtain ⟨y0, y1, y2⟩ := re_cells hY
  have hW' := Lib.hid hW
  clear hW hX hY
  unfold reH at hW'
  go_enter Tryz.func114, Tryz.ntmps114
  go_upto_region 1 with fail
  rw [← hW'.out]
  go_wp2_with fail
  refine (srows0 W).mono ?_
  rintro e w2 ⟨rfl, hE2⟩
  go_wp2_with fail
  go_ret
  exact ⟨rfl, hE.trans hE2⟩
theorem sask1 (w : World) (x : Ak) (a a' : Option Addr) (cap cap' : Nat) (h1 : RowIs w 3 (.slice a x.chs.length cap) x.chs.length (x.chs.flatMap Ch.cells)) (h2 : RowIs w 3 (.slice a' x.chs.length cap') x.chs.length (x.chs.flatMap Ch.cells)) :
    Calls Tryz.prog 160 #[.agg (x.row (.slice a x.chs.length cap)), .agg (x.row (.slice a' x.chs.length cap'))] w fun e w' => e = .returned (.bool true) ∧ Ext w w' := by
  have hcall := Lib.hid (fun W (hE : Ext w W) => schgs_any W x.chs x.chs a a' cap cap' (h1.ext hE) (h2.ext hE))
  rw [decide_eq_true (rfl : x.chs = x.chs)] at hcall
  clear h1 h2
  unfold Ak.row
  go_enter Tryz.func160, Tryz.ntmps160
  go_wp2_with fail
  refine (hcall.out _ (((Ext.refl _).alloc _).alloc _)).mono ?_
  rintro e w' ⟨rfl, hx⟩
  go_wp2_with fail
  go_ret
  exact ⟨rfl, (((Ext.refl _).alloc _).alloc _).trans hx⟩
theorem itemR_cells {W : World} {g : Nat} {id num : Int} {x : Ak} {v : Value} (h : W.heap[g]? = some (.cells (itemRow id num x v) 100 (0, 0))) : W.cell? ⟨g, 0, none⟩ = some (.int .u64 0) ∧ W.cell? ⟨g, 1, none⟩ = some (.int .u8 id) ∧ W.cell? ⟨g, 2, none⟩ = some (.int .u32 num) ∧ W.cell? ⟨g, 3, none⟩ = some (.int .u8 x.kind) ∧ W.cell? ⟨g, 4, none⟩ = some (.string x.key) ∧ W.cell? ⟨g, 5, none⟩ = some (.string x.val) ∧ W.cell? ⟨g, 6, none⟩ = some (.string x.old) ∧ W.cell? ⟨g, 7, none⟩ = some (.bool x.new) ∧ W.cell? ⟨g, 8, none⟩ = some (.string x.to) ∧ W.cell? ⟨g, 9, none⟩ = some (.int .i64 x.many) ∧ W.cell? ⟨g, 10, none⟩ = some (v) := by
  refine ⟨?_, ?_, ?_, ?_, ?_, ?_, ?_, ?_, ?_, ?_, ?_⟩ <;> (rw [cell_of_row _ _ _ _ 100 (0, 0) h]; rfl)
theorem sitem1 (w : World) (id num : Int) (x : Ak) (a a' : Option Addr) (cap cap' : Nat) (h1 : RowIs w 3 (.slice a x.chs.length cap) x.chs.length (x.chs.flatMap Ch.cells)) (h2 : RowIs w 3 (.slice a' x.chs.length cap') x.chs.length (x.chs.flatMap Ch.cells)) :
    Calls Tryz.prog 156 #[.agg (itemRow id num x (.slice a x.chs.length cap)), .agg (itemRow id num x (.slice a' x.chs.length cap'))] w fun e w' => e = .returned (.bool true) ∧ Ext w w' := by
  obtain ⟨W, hW⟩ : ∃ W, W = (w.alloc (.cells (itemRow id num x (.slice a x.chs.length cap)) 100)).alloc (.cells (itemRow id num x (.slice a' x.chs.length cap')) 100) := ⟨_, rfl⟩
  have hE : Ext w W := by rw [hW]; exact ((Ext.refl _).alloc _).alloc _
  have hX : W.heap[w.heap.size]? = some (.cells (itemRow id num x (.slice a x.chs.length cap)) 100 (0, 0)) := by rw [hW]; exact ((Ext.refl _).alloc _).row (heap_alloc_new w _)
  have hY : W.heap[w.heap.size + 1]? = some (.cells (itemRow id num x (.slice a' x.chs.length cap')) 100 (0, 0)) := by
    have h := heap_alloc_new (w.alloc (.cells (itemRow id num x (.slice a x.chs.length cap)) 100)) (.cells (itemRow id num x (.slice a' x.chs.length cap')) 100)
    rw [show (w.alloc (.cells (itemRow id num x (.slice a x.chs.length cap)) 100)).heap.size = w.heap.size + 1 by simp] at h
    rw [hW]; exact h
  have hch := Lib.hid (sask1 W x a a' cap cap' (h1.ext hE) (h2.ext hE))
  obtain ⟨x0, x1, x2, x3, x4, x5, x6, x7, x8, x9, x10⟩ := itemR_cells hX
  obtain ⟨y0, y1, y2, y3, y4, y5, y6, y7, y8, y9, y10⟩ := itemR_cells hY
  have hW' := Lib.hid hW
  clear hW hX hY h1 h2
  unfold itemRow at hW' ⊢
  unfold Ak.row at hch
  go_enter Tryz.func156, Tryz.ntmps156
  go_upto_region 1 with fail
  rw [← hW'.out]
  clear hW'
  go_wp2_with fail
  refine hch.out.mono ?_
  rintro e w2 ⟨rfl, hE2⟩
  go_wp2_with fail
  go_ret
  exact ⟨rfl, hE.trans hE2⟩
theorem one_range {w : World} {z b off : Nat} {xs : List Value} (hl : xs.length = z) (hd : ∀ i, i < 1 * z → w.cell? ⟨b, off + i, none⟩ = xs[i]?) {k : Nat} (hk : k < 1) : w.rangeAt b (off + k * z) xs := fun r v hv => by
  have hr := (List.getElem?_eq_some_iff.1 hv).1
  obtain rfl : k = 0 := by omega
  rw [Nat.zero_mul, Nat.add_zero, hd r (by omega)]
  exact hv
theorem sitems1 (w : World) (id num : Int) (x : Ak) (u v : Option Addr) (cu cv : Nat) (N : Nat) (hN : N = 1) (a b : Option Addr) (ca cb : Nat) (hA : RowIs w 11 (.slice a N ca) N (itemRow id num x (.slice u x.chs.length cu)).toList) (hB : RowIs w 11 (.slice b N cb) N (itemRow id num x (.slice v x.chs.length cv)).toList) (h1 : RowIs w 3 (.slice u x.chs.length cu) x.chs.length (x.chs.flatMap Ch.cells)) (h2 : RowIs w 3 (.slice v x.chs.length cv) x.chs.length (x.chs.flatMap Ch.cells)) :
    Calls Tryz.prog 111 #[.slice a N ca, .slice b N cb] w fun e w' => e = .returned (.bool true) ∧ Ext w w' := by
  have hN' := Lib.hid hN
  have hA' := Lib.hid hA
  have hB' := Lib.hid hB
  have hcall := Lib.hid (fun W (hE : Ext w W) => sitem1 W id num x u v cu cv (h1.ext hE) (h2.ext hE))
  have hN1 : N ≤ 1 := by omega
  clear hN hA hB h1 h2
  go_enter Tryz.func111, Tryz.ntmps111
  go_wp2_with fail
  go_loopw [5] (fun i wr => ∃ k : Nat, k ≤ N ∧ i = .int .i64 k ∧ Ext w wr) (fun i _ => N - (intOf i).toNat)
  case atStart => exact ⟨0, by omega, rfl, Ext.refl _⟩
  case round =>
    obtain ⟨k, hk, rfl, hE⟩ := hrel
    by_cases hlt : k < N
    · have hli : (k : Int) < (N : Int) := by omega
      obtain ⟨ob, oo, hat⟩ := (hA'.out.ext hE).at
      obtain ⟨rfl, _, hdy⟩ := hat (by omega)
      obtain ⟨tb, too, hat2⟩ := (hB'.out.ext hE).at
      obtain ⟨rfl, _, hdz⟩ := hat2 (by omega)
      have p := one_range (z := 11) (xs := (itemRow id num x (.slice u x.chs.length cu)).toList) (by rfl) (by rw [← hN'.out]; exact hdy) (show k < 1 by have := hN'.out; omega)
      have q1 := one_range (z := 11) (xs := (itemRow id num x (.slice v x.chs.length cv)).toList) (by rfl) (by rw [← hN'.out]; exact hdz) (show k < 1 by have := hN'.out; omega)
      clear hat hdy hat2 hdz
      go_upto_region 6 with fail
      refine bqRegion (Ext wr) (by kernel_rfl) (by kernel_rfl) (Ext.refl _).drew ?_
      iterate 3 (refine bqStep (fun K hK => ?_); go_simp; first | (refine hK _ ?_; clear hK K) | (refine ⟨_, fun _ _ => rfl, hK _ ?_⟩; clear hK K))
      refine bqMid (by rfl) 100 _ (by rfl) ob (oo + k * 11) (by rfl) _ _ (fun w' h r u hu => h.cell (p r u hu)) Tryz.underlying100 rfl (by exact info_item) ?_
      simp only [Act.put, List.setIfInBounds_toArray, List.set_cons_zero, List.set_cons_succ]
      iterate 3 (refine bqStep (fun K hK => ?_); go_simp; first | (refine hK _ ?_; clear hK K) | (refine ⟨_, fun _ _ => rfl, hK _ ?_⟩; clear hK K))
      refine bqMid (by rfl) 100 _ (by rfl) tb (too + k * 11) (by rfl) _ _ (fun w' h r u hu => h.cell (q1 r u hu)) Tryz.underlying100 rfl (by exact info_item) ?_
      simp only [Act.put, List.setIfInBounds_toArray, List.set_cons_zero, List.set_cons_succ]
      refine bqStep (fun K hK => ?_); go_simp
      refine ⟨_, fun w' hw => calls_ext hw (hcall.out w' (hE.trans hw)), hK _ ?_⟩; clear hK K
      iterate 1 (refine bqStep (fun K hK => ?_); go_simp; first | (refine hK _ ?_; clear hK K) | (refine ⟨_, fun _ _ => rfl, hK _ ?_⟩; clear hK K))
      refine bqNil (fun w5 hE5 => ?_)
      clear p q1 hcall
      go_wp2_with fail
      go_roundw
      case rel => exact ⟨k + 1, by omega, by go_num, hE.trans hE5⟩
      case measure => simp [intOf]; omega
    · have hli : ¬ (k : Int) < (N : Int) := by omega
      go_wp2_with fail
      go_ret
      exact ⟨rfl, hE⟩
theorem msgR_cells {W : World} {g : Nat} {id tt lv num : Int} {v : Value} (h : W.heap[g]? = some (.cells (msgRow id tt lv num v) 63 (0, 0))) : W.cell? ⟨g, 0, none⟩ = some (.int .u8 1) ∧ W.cell? ⟨g, 1, none⟩ = some (.int .u8 (16 + id)) ∧ W.cell? ⟨g, 2, none⟩ = some (.int .u8 tt) ∧ W.cell? ⟨g, 3, none⟩ = some (.int .u32 0) ∧ W.cell? ⟨g, 4, none⟩ = some (.int .u8 lv) ∧ W.cell? ⟨g, 5, none⟩ = some (.int .u32 num) ∧ W.cell? ⟨g, 6, none⟩ = some (.int .u64 0) ∧ W.cell? ⟨g, 7, none⟩ = some (.int .u64 0) ∧ W.cell? ⟨g, 8, none⟩ = some (.slice none 0 0) ∧ W.cell? ⟨g, 9, none⟩ = some (.slice none 0 0) ∧ W.cell? ⟨g, 10, none⟩ = some (v) ∧ W.cell? ⟨g, 11, none⟩ = some (.slice none 0 0) ∧ W.cell? ⟨g, 12, none⟩ = some (.slice none 0 0) ∧ W.cell? ⟨g, 13, none⟩ = some (.int .i64 0) ∧ W.cell? ⟨g, 14, none⟩ = some (.bool false) ∧ W.cell? ⟨g, 15, none⟩ = some (.slice none 0 0) := by
  refine ⟨?_, ?_, ?_, ?_, ?_, ?_, ?_, ?_, ?_, ?_, ?_, ?_, ?_, ?_, ?_, ?_⟩ <;> (rw [cell_of_row _ _ _ _ 63 (0, 0) h]; rfl)
theorem smsg1 (w : World) (id tt lv num : Int) (x : Ak) (u v : Option Addr) (cu cv : Nat) (N : Nat) (hN : N = 1) (a b : Option Addr) (ca cb : Nat) (hA : RowIs w 11 (.slice a N ca) N (itemRow id num x (.slice u x.chs.length cu)).toList) (hB : RowIs w 11 (.slice b N cb) N (itemRow id num x (.slice v x.chs.length cv)).toList) (h1 : RowIs w 3 (.slice u x.chs.length cu) x.chs.length (x.chs.flatMap Ch.cells)) (h2 : RowIs w 3 (.slice v x.chs.length cv) x.chs.length (x.chs.flatMap Ch.cells)) :
    Calls Tryz.prog 36 #[.agg (msgRow id tt lv num (.slice a N ca)), .agg (msgRow id tt lv num (.slice b N cb))] w fun e w' => e = .returned (.bool true) ∧ Ext w w' := by
  obtain ⟨X, hXe⟩ : ∃ X, X = w.heap.size := ⟨_, rfl⟩
  obtain ⟨W, hW⟩ : ∃ W, W = (w.alloc (.cells (msgRow id tt lv num (.slice a N ca)) 63)).alloc (.cells (msgRow id tt lv num (.slice b N cb)) 63) := ⟨_, rfl⟩
  have hE : Ext w W := by rw [hW]; exact ((Ext.refl _).alloc _).alloc _
  have hX : W.heap[X]? = some (.cells (msgRow id tt lv num (.slice a N ca)) 63 (0, 0)) := by rw [hW, hXe]; exact ((Ext.refl _).alloc _).row (heap_alloc_new w _)
  have hY : W.heap[X + 1]? = some (.cells (msgRow id tt lv num (.slice b N cb)) 63 (0, 0)) := by
    have h := heap_alloc_new (w.alloc (.cells (msgRow id tt lv num (.slice a N ca)) 63)) (.cells (msgRow id tt lv num (.slice b N cb)) 63)
    rw [show (w.alloc (.cells (msgRow id tt lv num (.slice a N ca)) 63)).heap.size = X + 1 by rw [hXe]; simp] at h
    rw [hW]; exact h
  have hc := Lib.hid (fun V (hV : Ext W V) => And.intro (msgR_cells (hV.row hX)) (msgR_cells (hV.row hY)))
  have hit := Lib.hid (fun V (hV : Ext W V) => sitems1 V id num x u v cu cv N hN a b ca cb (hA.ext (hE.trans hV)) (hB.ext (hE.trans hV)) (h1.ext (hE.trans hV)) (h2.ext (hE.trans hV)))
  have hW' := Lib.hid hW
  have hX' := Lib.hid hXe
  clear hW hX hY h1 h2 hN hA hB hXe
  unfold msgRow at hW' ⊢
  go_enter Tryz.func36, Tryz.ntmps36
  go_wp2_with fail
  rw [← hW'.out, ← hX'.out]
  clear hW'
  refine (sbytes0 W).mono ?_
  rintro e w2 ⟨rfl, hQ2⟩
  have hE2 : Ext W w2 := (Ext.refl W).trans hQ2
  obtain ⟨⟨x0, x1, x2, x3, x4, x5, x6, x7, x8, x9, x10, x11, x12, x13, x14, x15⟩, ⟨y0, y1, y2, y3, y4, y5, y6, y7, y8, y9, y10, y11, y12, y13, y14, y15⟩⟩ := hc.out w2 hE2
  go_wp2_with fail
  clear x0 x1 x2 x3 x4 x5 x6 x7 x8 x9 x10 x11 x12 x13 x14 x15 y0 y1 y2 y3 y4 y5 y6 y7 y8 y9 y10 y11 y12 y13 y14 y15
  refine (snums0 w2).mono ?_
  rintro e w3 ⟨rfl, hQ3⟩
  have hE3 : Ext W w3 := hE2.trans hQ3
  obtain ⟨⟨x0, x1, x2, x3, x4, x5, x6, x7, x8, x9, x10, x11, x12, x13, x14, x15⟩, ⟨y0, y1, y2, y3, y4, y5, y6, y7, y8, y9, y10, y11, y12, y13, y14, y15⟩⟩ := hc.out w3 hE3
  go_wp2_with fail
  clear x0 x1 x2 x3 x4 x5 x6 x7 x8 x9 x10 x11 x12 x13 x14 x15 y0 y1 y2 y3 y4 y5 y6 y7 y8 y9 y10 y11 y12 y13 y14 y15
  refine (hit.out w3 hE3).mono ?_
  rintro e w4 ⟨rfl, hQ4⟩
  have hE4 : Ext W w4 := hE3.trans hQ4
  obtain ⟨⟨x0, x1, x2, x3, x4, x5, x6, x7, x8, x9, x10, x11, x12, x13, x14, x15⟩, ⟨y0, y1, y2, y3, y4, y5, y6, y7, y8, y9, y10, y11, y12, y13, y14, y15⟩⟩ := hc.out w4 hE4
  go_wp2_with fail
  clear x0 x1 x2 x3 x4 x5 x6 x7 x8 x9 x10 x11 x12 x13 x14 x15 y0 y1 y2 y3 y4 y5 y6 y7 y8 y9 y10 y11 y12 y13 y14 y15
  refine (srows0 w4).mono ?_
  rintro e w5 ⟨rfl, hQ5⟩
  have hE5 : Ext W w5 := hE4.trans hQ5
  obtain ⟨⟨x0, x1, x2, x3, x4, x5, x6, x7, x8, x9, x10, x11, x12, x13, x14, x15⟩, ⟨y0, y1, y2, y3, y4, y5, y6, y7, y8, y9, y10, y11, y12, y13, y14, y15⟩⟩ := hc.out w5 hE5
  go_wp2_with fail
  clear x0 x1 x2 x3 x4 x5 x6 x7 x8 x9 x10 x11 x12 x13 x14 x15 y0 y1 y2 y3 y4 y5 y6 y7 y8 y9 y10 y11 y12 y13 y14 y15
  refine (ssaids0 w5).mono ?_
  rintro e w6 ⟨rfl, hQ6⟩
  have hE6 : Ext W w6 := hE5.trans hQ6
  obtain ⟨⟨x0, x1, x2, x3, x4, x5, x6, x7, x8, x9, x10, x11, x12, x13, x14, x15⟩, ⟨y0, y1, y2, y3, y4, y5, y6, y7, y8, y9, y10, y11, y12, y13, y14, y15⟩⟩ := hc.out w6 hE6
  go_wp2_with fail
  clear x0 x1 x2 x3 x4 x5 x6 x7 x8 x9 x10 x11 x12 x13 x14 x15 y0 y1 y2 y3 y4 y5 y6 y7 y8 y9 y10 y11 y12 y13 y14 y15
  refine (sreply0 w6).mono ?_
  rintro e w7 ⟨rfl, hQ7⟩
  have hE7 : Ext W w7 := hE6.trans hQ7
  go_wp2_with fail
  go_ret
  exact ⟨rfl, hE.trans hE7⟩
theorem info_msg2 : (Tryz.prog.info? 63).map (·.size) = some 16 := by kernel_rfl
theorem smsgs1 (w : World) (id tt lv num : Int) (x : Ak) (u v : Option Addr) (cu cv : Nat) (M : Nat) (hM : M = 1) (s r : Option Addr) (cs cr : Nat) (hS : RowIs w 11 (.slice s M cs) M (itemRow id num x (.slice u x.chs.length cu)).toList) (hR : RowIs w 11 (.slice r M cr) M (itemRow id num x (.slice v x.chs.length cv)).toList) (N : Nat) (hN : N = 1) (a b : Option Addr) (ca cb : Nat) (hA : RowIs w 16 (.slice a N ca) N (msgRow id tt lv num (.slice s M cs)).toList) (hB : RowIs w 16 (.slice b N cb) N (msgRow id tt lv num (.slice r M cr)).toList) (h1 : RowIs w 3 (.slice u x.chs.length cu) x.chs.length (x.chs.flatMap Ch.cells)) (h2 : RowIs w 3 (.slice v x.chs.length cv) x.chs.length (x.chs.flatMap Ch.cells)) :
    Calls Tryz.prog 14 #[.slice a N ca, .slice b N cb] w fun e w' => e = .returned (.bool true) ∧ Ext w w' := by
  have hN' := Lib.hid hN
  have hA' := Lib.hid hA
  have hB' := Lib.hid hB
  have hcall := Lib.hid (fun W (hE : Ext w W) => smsg1 W id tt lv num x u v cu cv M hM s r cs cr (hS.ext hE) (hR.ext hE) (h1.ext hE) (h2.ext hE))
  have hN1 : N ≤ 1 := by omega
  clear hN hA hB h1 h2 hS hR hM
  go_enter Tryz.func14, Tryz.ntmps14
  go_wp2_with fail
  go_loopw [5] (fun i wr => ∃ k : Nat, k ≤ N ∧ i = .int .i64 k ∧ Ext w wr) (fun i _ => N - (intOf i).toNat)
  case atStart => exact ⟨0, by omega, rfl, Ext.refl _⟩
  case round =>
    obtain ⟨k, hk, rfl, hE⟩ := hrel
    by_cases hlt : k < N
    · have hli : (k : Int) < (N : Int) := by omega
      obtain ⟨ob, oo, hat⟩ := (hA'.out.ext hE).at
      obtain ⟨rfl, _, hdy⟩ := hat (by omega)
      obtain ⟨tb, too, hat2⟩ := (hB'.out.ext hE).at
      obtain ⟨rfl, _, hdz⟩ := hat2 (by omega)
      have p := one_range (z := 16) (xs := (msgRow id tt lv num (.slice s M cs)).toList) (by rfl) (by rw [← hN'.out]; exact hdy) (show k < 1 by have := hN'.out; omega)
      have q1 := one_range (z := 16) (xs := (msgRow id tt lv num (.slice r M cr)).toList) (by rfl) (by rw [← hN'.out]; exact hdz) (show k < 1 by have := hN'.out; omega)
      clear hat hdy hat2 hdz
      go_upto_region 6 with fail
      refine bqRegion (Ext wr) (by kernel_rfl) (by kernel_rfl) (Ext.refl _).drew ?_
      iterate 3 (refine bqStep (fun K hK => ?_); go_simp; first | (refine hK _ ?_; clear hK K) | (refine ⟨_, fun _ _ => rfl, hK _ ?_⟩; clear hK K))
      refine bqMid (by rfl) 63 _ (by rfl) ob (oo + k * 16) (by rfl) _ _ (fun w' h r u hu => h.cell (p r u hu)) Tryz.underlying63 rfl (by exact info_msg2) ?_
      simp only [Act.put, List.setIfInBounds_toArray, List.set_cons_zero, List.set_cons_succ]
      iterate 3 (refine bqStep (fun K hK => ?_); go_simp; first | (refine hK _ ?_; clear hK K) | (refine ⟨_, fun _ _ => rfl, hK _ ?_⟩; clear hK K))
      refine bqMid (by rfl) 63 _ (by rfl) tb (too + k * 16) (by rfl) _ _ (fun w' h r u hu => h.cell (q1 r u hu)) Tryz.underlying63 rfl (by exact info_msg2) ?_
      simp only [Act.put, List.setIfInBounds_toArray, List.set_cons_zero, List.set_cons_succ]
      refine bqStep (fun K hK => ?_); go_simp
      refine ⟨_, fun w' hw => calls_ext hw (hcall.out w' (hE.trans hw)), hK _ ?_⟩; clear hK K
      iterate 1 (refine bqStep (fun K hK => ?_); go_simp; first | (refine hK _ ?_; clear hK K) | (refine ⟨_, fun _ _ => rfl, hK _ ?_⟩; clear hK K))
      refine bqNil (fun w5 hE5 => ?_)
      clear p q1 hcall
      go_wp2_with fail
      go_roundw
      case rel => exact ⟨k + 1, by omega, by go_num, hE.trans hE5⟩
      case measure => simp [intOf]; omega
    · have hli : ¬ (k : Int) < (N : Int) := by omega
      go_wp2_with fail
      go_ret
      exact ⟨rfl, hE⟩
theorem smsgs0 (w : World) : Calls Tryz.prog 14 #[.slice none 0 0, .slice none 0 0] w fun e w' => e = .returned (.bool true) ∧ Ext w w' := by
  go_enter Tryz.func14, Tryz.ntmps14
  go_wp2_with fail
  go_loopw [5] (fun i wr => i = .int .i64 0 ∧ Ext w wr) (fun _ _ => 0)
  case atStart => exact ⟨rfl, Ext.refl _⟩
  case round =>
    obtain ⟨rfl, hE⟩ := hrel
    go_wp2_with fail
    go_ret
    exact ⟨rfl, hE⟩
end Go.Proofs.YtmopjmhapeinjaaGreatDoor
