/- Several texts in one: Rn6c Rc2 Rc3. No condition. -/
import Derived.Test.YtmopjmhapeinjaaGreatDoorGrA5
import Derived.Test.YtmopjmhapeinjaaGreatDoorGrD2
import Derived.Test.YtmopjmhapeinjaaGreatDoorRn6b
import Derived.Test.YtmopjmhapeinjaaGreatDoorGrD1
import Derived.Test.YtmopjmhapeinjaaGreatDoorGrA4
import Derived.Test.YtmopjmhapeinjaaGreatDoorCli4
import Derived.StillTailTactics
import Derived.Deep.CutRange
/- The document's Check, a batch; and whole. No condition. -/
namespace Go.Proofs.YtmopjmhapeinjaaGreatDoor
open Go.RowKit
set_option maxRecDepth 100000
set_option maxHeartbeats 4000000
theorem checkR_batch (w : World) (x : Ak) (a : Option Addr) (cap : Nat) (h : ChsAt w x.chs a cap) (hs : x.small) (hk : x.kind = 4) : Calls Tryz.prog 32 #[.agg (x.row (.slice a x.chs.length cap))] w fun e w' => e = .returned (.bool x.batchB) ∧ Ext w w' := by
  obtain ⟨_, s1, s2, s3, s4, s5⟩ := hs
  obtain ⟨hr, hby, hsm⟩ := h
  obtain ⟨m, hm⟩ : ∃ m, m = x.chs.length := ⟨_, rfl⟩
  rw [← hm] at hr hby ⊢
  obtain ⟨V, hV⟩ : ∃ W, W = (w.alloc (.cells #[.int .u8 4, .string x.key, .string x.val, .string x.old, .bool x.new, .string x.to, .int .i64 x.many, .slice a m cap] 50)).alloc (.cells #[.int .u8 4, .string x.key, .string ⟨#[]⟩, .string ⟨#[]⟩, .bool false, .string ⟨#[]⟩, .int .i64 0, .slice none 0 0] 50) := ⟨_, rfl⟩
  have hE0 : Ext w V := by rw [hV]; exact ((Ext.refl _).alloc _).alloc _
  have hX : V.heap[w.heap.size]? = some (.cells #[.int .u8 4, .string x.key, .string x.val, .string x.old, .bool x.new, .string x.to, .int .i64 x.many, .slice a m cap] 50 (0, 0)) := by rw [hV]; exact ((Ext.refl _).alloc _).row (heap_alloc_new w _)
  have hx : Hid (∀ W, Ext V W → W.cell? ⟨w.heap.size, 1, none⟩ = some (.string x.key) ∧ W.cell? ⟨w.heap.size, 2, none⟩ = some (.string x.val) ∧ W.cell? ⟨w.heap.size, 3, none⟩ = some (.string x.old) ∧ W.cell? ⟨w.heap.size, 4, none⟩ = some (.bool x.new) ∧ W.cell? ⟨w.heap.size, 5, none⟩ = some (.string x.to) ∧ W.cell? ⟨w.heap.size, 6, none⟩ = some (.int .i64 x.many) ∧ W.cell? ⟨w.heap.size, 7, none⟩ = some (.slice a m cap)) := Lib.hid (fun W hE => by
    have h1 := hE.row hX
    refine ⟨?_, ?_, ?_, ?_, ?_, ?_, ?_⟩ <;> (rw [cell_of_row _ _ _ _ 50 (0, 0) h1]; rfl))
  have hm' := Lib.hid hm
  have hr' := Lib.hid hr
  have hsm' := Lib.hid hsm
  have hV' := Lib.hid hV
  have hmb : m ≤ 140737488351232 := by omega
  clear hm hr hsm hV hX hby
  unfold Ak.row
  rw [hk]
  clear hk
  go_enter Tryz.func32, Tryz.ntmps32
  go_upto_region 15 with fail
  rw [← hV'.out]
  go_wp2_with fail
  go_loopw [4] (fun i wr => ∃ k : Nat, k ≤ m ∧ i = .int .i64 k ∧ Hid (∀ c ∈ x.chs.take k, c.okB = true) ∧ Ext V wr) (fun i _ => m - (intOf i).toNat)
  case atStart => exact ⟨0, by omega, rfl, Lib.hid (fun _ h => nomatch h), Ext.refl _⟩
  case round =>
    obtain ⟨k, hk, rfl, hok, hE⟩ := hrel
    obtain ⟨x1, x2, x3, x4, x5, x6, x7⟩ := hx.out wr hE
    by_cases hlt : k < m
    · have hli : (k : Int) < (m : Int) := by omega
      obtain ⟨c, hc⟩ : ∃ c, x.chs[k]? = some c := ⟨_, List.getElem?_eq_getElem (by rw [← hm'.out]; exact hlt)⟩
      obtain ⟨b, off, hat⟩ := (hr'.out.ext (hE0.trans hE)).at
      obtain ⟨rfl, _, hd⟩ := hat (by omega)
      have p : wr.rangeAt b (off + k * 3) [.string c.key, .string c.val, .bool c.gone] := ch_range (by rw [← hm'.out]; exact hd) hc
      obtain ⟨z1, z2⟩ := hsm'.out c (List.mem_of_getElem? hc)
      have hnx : Hid (c.okB = true → ∀ y ∈ x.chs.take (k + 1), y.okB = true) := Lib.hid (fun hP y hy => by
        rw [List.take_add_one, hc] at hy
        rcases List.mem_append.1 hy with hy | hy
        · exact hok.out y hy
        · rw [List.mem_singleton.1 hy]; exact hP)
      have hbad : Hid (c.okB = false → x.batchB = false) := Lib.hid (fun hP => by
        have h1 : chsB x.chs = false := by
          unfold chsB
          rw [List.all_eq_false]
          exact ⟨c, List.mem_of_getElem? hc, by rw [hP]; simp⟩
        unfold Ak.batchB
        rw [h1]
        simp)
      clear hd hat hc
      go_upto_region 19 with (first | (refine wpList_load_mid (by rfl) 93 (.tmp 57) (by rfl) b (off + k * 3) (by rfl) [.string c.key, .string c.val, .bool c.gone] _ p Tryz.underlying93 rfl (by exact info_ch) ?_) | fail)
      have hE1 := hE.alloc (.cells #[.string c.key, .string c.val, .bool c.gone] 93)
      have hc1 := heap_alloc_new wr (.cells #[.string c.key, .string c.val, .bool c.gone] 93)
      clear p x1 x2 x3 x4 x5 x6 x7
      generalize wr.alloc _ = W1 at *
      have c0 : W1.cell? ⟨wr.heap.size, 0, none⟩ = some (.string c.key) := by rw [cell_of_row _ _ _ _ 93 (0, 0) hc1]; rfl
      have c1 : W1.cell? ⟨wr.heap.size, 1, none⟩ = some (.string c.val) := by rw [cell_of_row _ _ _ _ 93 (0, 0) hc1]; rfl
      have c2 : W1.cell? ⟨wr.heap.size, 2, none⟩ = some (.bool c.gone) := by rw [cell_of_row _ _ _ _ 93 (0, 0) hc1]; rfl
      clear hc1
      go_wp2_with fail
      refine (keyR_any W1 c.key z1).mono ?_
      rintro e w' ⟨rfl, rfl⟩
      cases hb : keyB c.key
      · have hf : Hid (x.batchB = false) := Lib.hid (hbad.out (by unfold Ch.okB; rw [hb]; rfl))
        clear hb
        go_wp2_with fail
        go_ret
        exact ⟨ret_bool hf.out.symm, hE0.trans hE1⟩
      · have h1 := Lib.hid hb
        clear hb
        go_wp2_with fail
        refine (valR_any W1 c.val z2).mono ?_
        rintro e w' ⟨rfl, rfl⟩
        cases hb : valB c.val
        · have hf : Hid (x.batchB = false) := Lib.hid (hbad.out (by unfold Ch.okB; rw [hb, h1.out]; rfl))
          clear hb
          go_wp2_with fail
          go_ret
          exact ⟨ret_bool hf.out.symm, hE0.trans hE1⟩
        · have h2 := Lib.hid hb
          clear hb
          cases hg : c.gone
          · rw [hg] at c2
            have hgo : Hid (c.okB = true) := Lib.hid (by unfold Ch.okB; rw [h1.out, h2.out, hg]; rfl)
            have hnx2 := Lib.hid (hnx.out hgo.out)
            clear hg
            go_wp2_with fail
            go_roundw
            case rel => exact ⟨k + 1, by omega, by go_num, hnx2, hE1⟩
            case measure => simp [intOf]; omega
          · rw [hg] at c2
            cases hv : c.val.toList.isEmpty
            · have hf : Hid (x.batchB = false) := Lib.hid (hbad.out (by unfold Ch.okB; rw [h1.out, h2.out, hg, hv]; rfl))
              clear hg
              go_wp2_with fail
              go_ret
              exact ⟨ret_bool hf.out.symm, hE0.trans hE1⟩
            · have hgo : Hid (c.okB = true) := Lib.hid (by unfold Ch.okB; rw [h1.out, h2.out, hg, hv]; rfl)
              have hnx2 := Lib.hid (hnx.out hgo.out)
              clear hg
              go_wp2_with fail
              go_roundw
              case rel => exact ⟨k + 1, by omega, by go_num, hnx2, hE1⟩
              case measure => simp [intOf]; omega
    · have hli : ¬ (k : Int) < (m : Int) := by omega
      have hall : Hid (chsB x.chs = true) := Lib.hid (by
        unfold chsB
        rw [List.all_eq_true]
        intro y hy
        exact hok.out y (by rw [List.take_of_length_le (by rw [← hm'.out]; omega)]; exact hy))
      have hEz := hE0.trans hE
      by_cases hm1 : 1 ≤ m
      · have hi1 : (1 : Int) ≤ (m : Int) := by omega
        have q1 : Hid (decide (0 < m) = true) := Lib.hid (decide_eq_true (by omega))
        by_cases hm16 : m ≤ 16
        · have hi16 : (m : Int) ≤ 16 := by omega
          have q2 : Hid (decide (m ≤ 16) = true) := Lib.hid (decide_eq_true (by omega))
          go_wp2_with fail
          all_goals (have k1 := q1.out; have k2 := q2.out; have k3 := hall.out; go_ret; exact ⟨ret_bool (by unfold Ak.batchB; rw [← hm'.out]; simp [*]; done), hEz⟩)
        · have hi16 : ¬ (m : Int) ≤ 16 := by omega
          have q2 : Hid (decide (m ≤ 16) = false) := Lib.hid (decide_eq_false (by omega))
          go_wp2_with fail
          all_goals (have k2 := q2.out; go_ret; exact ⟨ret_bool (by unfold Ak.batchB; rw [← hm'.out, k2]; simp), hEz⟩)
      · have hi1 : ¬ (1 : Int) ≤ (m : Int) := by omega
        have q1 : Hid (decide (0 < m) = false) := Lib.hid (decide_eq_false (by omega))
        go_wp2_with fail
        all_goals (have k2 := q1.out; go_ret; exact ⟨ret_bool (by unfold Ak.batchB; rw [← hm'.out, k2]; simp), hEz⟩)
theorem checkR_any (w : World) (x : Ak) (a : Option Addr) (cap : Nat) (h : ChsAt w x.chs a cap) (hs : x.small) : Calls Tryz.prog 32 #[.agg (x.row (.slice a x.chs.length cap))] w fun e w' => e = .returned (.bool x.okB) ∧ Ext w w' := by
  unfold Ak.okB
  by_cases h1 : x.kind = 1
  · rw [if_pos h1]; exact checkR_put w x a cap hs h1
  · rw [if_neg h1]
    by_cases h3 : x.kind = 3
    · rw [if_pos h3]; exact checkR_cas w x a cap hs h3
    · rw [if_neg h3]
      by_cases h4 : x.kind = 4
      · rw [if_pos h4]; exact checkR_batch w x a cap h hs h4
      · rw [if_neg h4]
        by_cases h6 : x.kind = 6
        · rw [if_pos h6]; exact checkR_scan w x a cap hs h6
        · rw [if_neg h6]
          by_cases h2 : x.kind = 2
          · rw [if_pos h2]; exact checkR_del w x a cap hs h2
          · rw [if_neg h2]
            by_cases h5 : x.kind = 5
            · rw [if_pos h5]; exact checkR_get w x a cap hs h5
            · rw [if_neg h5]; exact checkR_other w x a cap h1 h2 h3 h4 h5 h6
end Go.Proofs.YtmopjmhapeinjaaGreatDoor

/- The document's Ask. (Printed by mkrc.py.) No condition. -/
namespace Go.Proofs.YtmopjmhapeinjaaGreatDoor
open Go.RowKit
set_option maxRecDepth 100000
set_option maxHeartbeats 2000000
section
variable {w : World} {c : Nat} {id num lv0 lv : Int} {wt : Bool} {x0 x : Ak} {v0 : Value} {a : Option Addr} {cap : Nat}
theorem rask_arg (h : RcAt w c id num wt x0 v0 lv0) (hx : ChsAt w x.chs a cap) (hs : x.small) (hb : (x.okB && lvB lv) = false) : Calls Tryz.prog 10 #[.pointer (some ⟨c, 0, none⟩), .agg (x.row (.slice a x.chs.length cap)), .int .u8 lv] w fun e w' => e = .returned (.tuple #[.int .u32 0, .int .i64 1]) ∧ Ext w w' := by
  have hb' := Lib.hid hb
  clear hb
  obtain ⟨W, hW⟩ : ∃ W, W = w.alloc (.cells (x.row (.slice a x.chs.length cap)) 50) := ⟨_, rfl⟩
  have hE : Ext w W := by rw [hW]; exact (Ext.refl w).alloc _
  have hbx : W.heap[w.heap.size]? = some (.cells (x.row (.slice a x.chs.length cap)) 50 (0, 0)) := by rw [hW]; exact heap_alloc_new _ _
  obtain ⟨hrg, _, _⟩ := ask_cells hbx
  have hcl := h.ext hE
  have hW' := Lib.hid hW
  clear hW hbx
  unfold Ak.row at hW' hrg ⊢
  go_enter Tryz.func10, Tryz.ntmps10
  go_upto_region 1 with fail
  rw [← hW'.out]
  clear hW'
  go_wp2_with (first | (refine wpList_load_mid (by rfl) 50 (.tmp 4) (by rfl) w.heap.size 0 (by rfl) (x.row (.slice a x.chs.length cap)).toList _ hrg Tryz.underlying50 rfl (by rw [ask_len]; exact info_ask) ?_) | fail)
  refine (checkR_any _ x a cap (hx.ext hE) hs).mono ?_
  rintro e w1 ⟨rfl, hE1⟩
  have hE2 := hE.trans hE1
  cases hok : x.okB
  · have hok' := Lib.hid hok
    clear hok
    go_wp2_with fail
    go_ret2
    exact ⟨rfl, hE2⟩
  · have hlv : lvB lv = false := by have := hb'.out; rw [hok] at this; simpa using this
    have l1 : ¬ lv = 1 := by unfold lvB at hlv; simp at hlv; exact hlv.1
    have l2 : ¬ lv = 2 := by unfold lvB at hlv; simp at hlv; exact hlv.2
    have hok' := Lib.hid hok
    clear hok hlv
    go_wp2_with fail
    go_ret2
    exact ⟨rfl, hE2⟩
theorem rask_state (h : RcAt w c id num true x0 v0 lv0) (hx : ChsAt w x.chs a cap) (hs : x.small) (hok : x.okB = true) (hlv : lv = 1 ∨ lv = 2) : Calls Tryz.prog 10 #[.pointer (some ⟨c, 0, none⟩), .agg (x.row (.slice a x.chs.length cap)), .int .u8 lv] w fun e w' => e = .returned (.tuple #[.int .u32 0, .int .i64 9]) ∧ Ext w w' := by
  obtain ⟨W, hW⟩ : ∃ W, W = w.alloc (.cells (x.row (.slice a x.chs.length cap)) 50) := ⟨_, rfl⟩
  have hE : Ext w W := by rw [hW]; exact (Ext.refl w).alloc _
  have hbx : W.heap[w.heap.size]? = some (.cells (x.row (.slice a x.chs.length cap)) 50 (0, 0)) := by rw [hW]; exact heap_alloc_new _ _
  obtain ⟨hrg, _, _⟩ := ask_cells hbx
  have hcl := h.ext hE
  have hW' := Lib.hid hW
  have hok' := Lib.hid hok
  clear hW hbx hok
  unfold Ak.row at hW' hrg ⊢
  rcases hlv with rfl | rfl
  all_goals
    go_enter Tryz.func10, Tryz.ntmps10
    go_upto_region 1 with fail
    rw [← hW'.out]
    clear hW'
    go_wp2_with (first | (refine wpList_load_mid (by rfl) 50 (.tmp 4) (by rfl) w.heap.size 0 (by rfl) (x.row (.slice a x.chs.length cap)).toList _ hrg Tryz.underlying50 rfl (by rw [ask_len]; exact info_ask) ?_) | fail)
    refine (checkR_any _ x a cap (hx.ext hE) hs).mono ?_
    rw [hok'.out]
    rintro e w1 ⟨rfl, hE1⟩
    have hE2 := hE.trans hE1
    obtain ⟨c0, c1, c2, c11, _, cf⟩ := (hcl.ext hE1).cells
    go_wp2_with fail
    go_ret2
    exact ⟨rfl, hE2⟩
theorem rask_ok (h : RcAt w c id num false x0 v0 lv0) (hn0 : 0 ≤ num) (hn : num < 4294967295) (hx : ChsAt w x.chs a cap) (hs : x.small) (hok : x.okB = true) (hlv : lv = 1 ∨ lv = 2) : Calls Tryz.prog 10 #[.pointer (some ⟨c, 0, none⟩), .agg (x.row (.slice a x.chs.length cap)), .int .u8 lv] w fun e w' => e = .returned (.tuple #[.int .u32 (num + 1), .int .i64 0]) ∧ RcAt w' c id (num + 1) true x (.slice a x.chs.length cap) lv ∧ OffB (fun k => k = c) w w' := by
  obtain ⟨W, hW⟩ : ∃ W, W = w.alloc (.cells (x.row (.slice a x.chs.length cap)) 50) := ⟨_, rfl⟩
  have hE : Ext w W := by rw [hW]; exact (Ext.refl w).alloc _
  have hbx : W.heap[w.heap.size]? = some (.cells (x.row (.slice a x.chs.length cap)) 50 (0, 0)) := by rw [hW]; exact heap_alloc_new _ _
  obtain ⟨hrg, _, _⟩ := ask_cells hbx
  have hcl := h.ext hE
  have hW' := Lib.hid hW
  have hcw : c < w.heap.size := (Array.getElem?_eq_some_iff.1 h).1
  have e1 : IntKind.u32.wrap (num + 1) = num + 1 := by rw [IntKind.wrap_u32]; omega
  have hok' := Lib.hid hok
  clear hW hok
  have hW2 : Hid (W = w.alloc (.cells (x.row (.slice a x.chs.length cap)) 50)) := hW'
  unfold Ak.row at hW'
  have hrgA := hrg
  unfold Ak.row at hrg ⊢
  rcases hlv with rfl | rfl
  all_goals
    go_enter Tryz.func10, Tryz.ntmps10
    go_upto_region 1 with fail
    rw [← hW'.out]
    clear hW'
    go_wp2_with (first | (refine wpList_load_mid (by rfl) 50 (.tmp 4) (by rfl) w.heap.size 0 (by rfl) (x.row (.slice a x.chs.length cap)).toList _ hrg Tryz.underlying50 rfl (by rw [ask_len]; exact info_ask) ?_) | fail)
    refine (checkR_any _ x a cap (hx.ext hE) hs).mono ?_
    rw [hok'.out]
    rintro e w1 ⟨rfl, hE1⟩
    have hr1 := hcl.ext hE1
    have hb1 := hE1.row hbx
    have hO1 : OffB (fun k => k = c) w w1 := .of_ext (hE.trans hE1)
    clear hrg hbx hcl hrgA
    obtain ⟨c0, c1, c2, c11, _, cf⟩ := hr1.cells
    have cf1 := cf 1
    clear cf
    go_upto_region 6 with fail
    have hr2 := hr1.put 1 (.int .u32 (num + 1)) (num' := num + 1) (wt' := false) (lv' := lv0) rfl
    have hb2 : (w1.setCell ⟨c, 1, none⟩ (.int .u32 (num + 1))).heap[w.heap.size]? = _ := (Below.heap_setCell w1 ⟨c, 1, none⟩ _ w.heap.size (by simp; omega)).trans hb1
    have hO2 : OffB (fun k => k = c) w (w1.setCell ⟨c, 1, none⟩ (.int .u32 (num + 1))) := OffB.setCell (B := fun k => k = c) hO1 rfl _
    clear c0 c1 c2 c11 cf1 hr1 hb1 hO1
    generalize w1.setCell ⟨c, 1, none⟩ (.int .u32 (num + 1)) = w2 at *
    obtain ⟨c0, c1, c2, c11, _, cf⟩ := hr2.cells
    have cf2 := cf 2
    clear cf
    go_upto_region 7 with fail
    have hr3 := hr2.put 2 (.bool true) (num' := num + 1) (wt' := true) (lv' := lv0) rfl
    have hb3 : (w2.setCell ⟨c, 2, none⟩ (.bool true)).heap[w.heap.size]? = _ := (Below.heap_setCell w2 ⟨c, 2, none⟩ _ w.heap.size (by simp; omega)).trans hb2
    have hO3 : OffB (fun k => k = c) w (w2.setCell ⟨c, 2, none⟩ (.bool true)) := OffB.setCell (B := fun k => k = c) hO2 rfl _
    clear c0 c1 c2 c11 cf2 hr2 hb2 hO2
    generalize w2.setCell ⟨c, 2, none⟩ (.bool true) = w3 at *
    obtain ⟨hrg, _, _⟩ := ask_cells hb3
    have hth : w3.there c 3 8 := fun j hj => by
      unfold RcAt at hr3
      exact ⟨by rw [cell_of_row _ _ _ _ _ _ hr3, Array.getElem?_eq_getElem (show 3 + j < 12 by omega)]; rfl, by unfold World.frozen?; rw [hr3]; simp⟩
    have hr4 : RcAt (w3.setCells c 3 (x.row (.slice a x.chs.length cap)).toList) c id (num + 1) true x (.slice a x.chs.length cap) lv0 := by
      unfold RcAt at hr3 ⊢
      rw [setCells_heap c 89 (0, 0) _ 3 w3 _ hr3 (by show 3 + 8 ≤ 12; omega)]
      rfl
    have hO4 : OffB (fun k => k = c) w (w3.setCells c 3 (x.row (.slice a x.chs.length cap)).toList) := OffB.setCells (B := fun k => k = c) hO3 rfl _ _
    unfold Ak.row at hrg
    go_upto_region 8 with (first | (refine wpList_load_mid (by rfl) 50 (.tmp 4) (by rfl) w.heap.size 0 (by rfl) (x.row (.slice a x.chs.length cap)).toList _ hrg Tryz.underlying50 rfl (by rw [ask_len]; exact info_ask) ?_) | (refine wpList_store_mid (by rfl) 50 (.tmp 36) (.tmp 34) (by rfl) c 3 (x.row (.slice a x.chs.length cap)) (by rfl) (by rfl) hth (by exact info_ask) (ask_one _ _ _ _) ?_; generalize w3.setCells c 3 (x.row (.slice a x.chs.length cap)).toList = w4 at *) | fail)
    obtain ⟨c0, c1, c2, c11, _, cf⟩ := hr4.cells
    have cf11 := cf 11
    clear cf
    have hr5 := fun u => hr4.put 11 (.int .u8 u) (num' := num + 1) (wt' := true) (lv' := u) rfl
    have hO5 : ∀ u : Int, OffB (fun k => k = c) w (w4.setCell ⟨c, 11, none⟩ (.int .u8 u)) := fun u => OffB.setCell (B := fun k => k = c) hO4 rfl _
    have hc1 := fun u => (hr5 u).cells.2.1
    clear hrg hth hr3 hb3 hO3
    go_wp2_with fail
    go_ret2
    exact ⟨rfl, hr5 _, hO5 _⟩
end
end Go.Proofs.YtmopjmhapeinjaaGreatDoor

/- The document's Sends. (Printed by mkrc.py.) No condition. -/
namespace Go.Proofs.YtmopjmhapeinjaaGreatDoor
open Go.RowKit
set_option maxRecDepth 100000
set_option maxHeartbeats 4000000
section
variable {w : World} {c : Nat} {id num lv tt : Int} {x : Ak} {v : Value}
theorem rsends_idle (h : RcAt w c id num false x v lv) : Calls Tryz.prog 15 #[.pointer (some ⟨c, 0, none⟩), .int .u8 tt] w fun e w' => e = .returned (.slice none 0 0) ∧ Ext w w' := by
  obtain ⟨c0, c1, c2, c11, _, cf⟩ := h.cells
  clear cf
  go_enter Tryz.func15, Tryz.ntmps15
  go_wp2_with fail
  go_ret
  exact ⟨rfl, Ext.refl _⟩
/-- What the document's client sends: one message of one item. -/
def SentR (g : Nat) (id num lv tt : Int) (x : Ak) (v : Value) (w' : World) : Prop := ∃ gi, w'.heap[g]? = some (.cells (msgRow id tt lv num (.slice (some ⟨gi, 0, none⟩) 1 1)) 63 (0, 0)) ∧ w'.heap[gi]? = some (.cells (itemRow id num x v) 100 (0, 0))
theorem rsends_waits {a : Option Addr} {n cap : Nat} (h : RcAt w c id num true x (.slice a n cap) lv) (h1 : 1 ≤ id) (h8 : id ≤ 8) : Calls Tryz.prog 15 #[.pointer (some ⟨c, 0, none⟩), .int .u8 tt] w fun e w' => ∃ g, e = .returned (.slice (some ⟨g, 0, none⟩) 1 1) ∧ SentR g id num lv tt x (.slice a n cap) w' ∧ Ext w w' := by
  have e1 : IntKind.u8.wrap (16 + id) = 16 + id := by rw [IntKind.wrap_u8]; omega
  have hR : ∀ w', Ext w w' → w'.cell? ⟨c, 0, none⟩ = some (.int .u8 id) ∧ w'.cell? ⟨c, 1, none⟩ = some (.int .u32 num) ∧ w'.cell? ⟨c, 2, none⟩ = some (.bool true) ∧ w'.cell? ⟨c, 3, none⟩ = some (.int .u8 x.kind) ∧ w'.cell? ⟨c, 4, none⟩ = some (.string x.key) ∧ w'.cell? ⟨c, 5, none⟩ = some (.string x.val) ∧ w'.cell? ⟨c, 6, none⟩ = some (.string x.old) ∧ w'.cell? ⟨c, 7, none⟩ = some (.bool x.new) ∧ w'.cell? ⟨c, 8, none⟩ = some (.string x.to) ∧ w'.cell? ⟨c, 9, none⟩ = some (.int .i64 x.many) ∧ w'.cell? ⟨c, 10, none⟩ = some (.slice a n cap) ∧ w'.cell? ⟨c, 11, none⟩ = some (.int .u8 lv) := fun w' he => by
    have := h.ext he
    unfold RcAt at this
    refine ⟨?_, ?_, ?_, ?_, ?_, ?_, ?_, ?_, ?_, ?_, ?_, ?_⟩ <;> (rw [cell_of_row _ _ _ _ 89 (0, 0) this]; rfl)
  obtain ⟨c0, c1, c2, c11, _, cf⟩ := h.cells
  clear cf h
  have hR' := Lib.hid hR
  clear hR
  go_enter Tryz.func15, Tryz.ntmps15
  go_upto_region 3 with fail
  clear c0 c1 c2 c11
  go_region_held3 (fun w' => w'.cell? ⟨c, 0, none⟩ = some (.int .u8 id) ∧ w'.cell? ⟨c, 1, none⟩ = some (.int .u32 num) ∧ w'.cell? ⟨c, 2, none⟩ = some (.bool true) ∧ w'.cell? ⟨c, 3, none⟩ = some (.int .u8 x.kind) ∧ w'.cell? ⟨c, 4, none⟩ = some (.string x.key) ∧ w'.cell? ⟨c, 5, none⟩ = some (.string x.val) ∧ w'.cell? ⟨c, 6, none⟩ = some (.string x.old) ∧ w'.cell? ⟨c, 7, none⟩ = some (.bool x.new) ∧ w'.cell? ⟨c, 8, none⟩ = some (.string x.to) ∧ w'.cell? ⟨c, 9, none⟩ = some (.int .i64 x.many) ∧ w'.cell? ⟨c, 10, none⟩ = some (.slice a n cap) ∧ w'.cell? ⟨c, 11, none⟩ = some (.int .u8 lv)) (first | exact hR'.out _ (Ext.refl _) | exact hR'.out _ (Ext.refl _).drew | exact hR'.out _ ((Ext.refl _).alloc _).drew | exact hR'.out _ (((Ext.refl _).alloc _).alloc _).drew) (first | fail)
  go_wp2_with fail
  rename_i hHeld
  clear hHeld
  have hm : ((w.alloc (.cells (itemRow id num x (.slice a n cap)) 100)).alloc (.cells (msgRow id tt lv num (.slice (some ⟨w.heap.size, 0, none⟩) 1 1)) 63)).drew.heap[w.heap.size + 1]? = some (.cells (msgRow id tt lv num (.slice (some ⟨w.heap.size, 0, none⟩) 1 1)) 63 (0, 0)) := by
    have := heap_alloc_new (w.alloc (.cells (itemRow id num x (.slice a n cap)) 100)) (.cells (msgRow id tt lv num (.slice (some ⟨w.heap.size, 0, none⟩) 1 1)) 63)
    rw [show (w.alloc (.cells (itemRow id num x (.slice a n cap)) 100)).heap.size = w.heap.size + 1 by simp] at this
    exact this
  have hi : ((w.alloc (.cells (itemRow id num x (.slice a n cap)) 100)).alloc (.cells (msgRow id tt lv num (.slice (some ⟨w.heap.size, 0, none⟩) 1 1)) 63)).drew.heap[w.heap.size]? = some (.cells (itemRow id num x (.slice a n cap)) 100 (0, 0)) :=
    (((Ext.refl _).alloc _).drew).row (heap_alloc_new w _)
  go_ret
  exact ⟨w.heap.size + 1, rfl, ⟨w.heap.size, hm, hi⟩, (((Ext.refl _).alloc _).alloc _).drew⟩
end
end Go.Proofs.YtmopjmhapeinjaaGreatDoor
