/- The heap in memory; sink. No condition. -/
import Derived.Test.YtefllplgbalbkaaGreatDoorMg1
import Derived.Test.YtefllplgbalbkaaGreatDoorOff
import Derived.BigRegion
namespace Go.Proofs.YtefllplgbalbkaaGreatDoor
open Go.RowKit
set_option maxRecDepth 100000
set_option maxHeartbeats 4000000
/-- The heap in memory: its lists lie as they lay in the ground. -/
structure HpAt (W0 w : World) (hb rb cap : Nat) (hs : List Ls) : Prop where
  hd : w.heap[hb]? = some (.cells #[.slice (some ⟨rb, 0, none⟩) hs.length cap, .func (.func 75) #[] #[]] 81 (0, 0))
  row : ∃ cur, w.heap[rb]? = some (.cells cur 22 (0, 0)) ∧ hs.length ≤ cap ∧ cap ≤ maxLen ∧ cap ≤ cur.size ∧ cur.toList.take hs.length = hs.map (·.1)
  ne : hb ≠ rb
  el : ∀ p ∈ hs, ElOk W0 p
theorem HpAt.ext {W0 w w' : World} {hb rb cap : Nat} {hs : List Ls} (h : HpAt W0 w hb rb cap hs) (he : Ext w w') : HpAt W0 w' hb rb cap hs := by
  obtain ⟨cur, h1, h2⟩ := h.row
  exact ⟨he.row h.hd, ⟨cur, he.row h1, h2⟩, h.ne, h.el⟩
theorem HpAt.cells {W0 w : World} {hb rb cap : Nat} {hs : List Ls} (h : HpAt W0 w hb rb cap hs) : w.cell? ⟨hb, 0, none⟩ = some (.slice (some ⟨rb, 0, none⟩) hs.length cap) ∧ w.cell? ⟨hb, 1, none⟩ = some (.func (.func 75) #[] #[]) := by
  refine ⟨?_, ?_⟩ <;> (rw [cell_of_row _ _ _ _ 81 (0, 0) h.hd]; rfl)
theorem HpAt.at {W0 w : World} {hb rb cap : Nat} {hs : List Ls} (h : HpAt W0 w hb rb cap hs) {i : Nat} {p : Ls} (hp : hs[i]? = some p) : w.cell? ⟨rb, i, none⟩ = some p.1 ∧ w.frozen? ⟨rb, i, none⟩ = false := by
  obtain ⟨cur, h1, h2, h3, h4, h5⟩ := h.row
  have hi : i < hs.length := (List.getElem?_eq_some_iff.1 hp).1
  refine ⟨?_, by unfold World.frozen?; rw [h1]; simp⟩
  rw [cell_of_row _ _ i cur 22 (0, 0) h1]
  have h6 : (cur.toList.take hs.length)[i]? = (hs.map (·.1))[i]? := by rw [h5]
  rw [List.getElem?_take, if_pos hi, List.getElem?_map, hp] at h6
  simpa using h6
theorem HpAt.set {W0 w : World} {hb rb cap : Nat} {hs : List Ls} (h : HpAt W0 w hb rb cap hs) {i : Nat} (_hi : i < hs.length) {p : Ls} (hp : ElOk W0 p) : HpAt W0 (w.setCell ⟨rb, i, none⟩ p.1) hb rb cap (hs.set i p) ∧ OffB (fun k => k = rb) w (w.setCell ⟨rb, i, none⟩ p.1) := by
  obtain ⟨cur, h1, h2, h3, h4, h5⟩ := h.row
  have hs' := setCell_eq_setRow w rb i cur 22 (0, 0) p.1 h1
  have hoff : OffB (fun k => k = rb) w (w.setCell ⟨rb, i, none⟩ p.1) := OffB.setCell (B := fun k => k = rb) (OffB.refl w) (p := ⟨rb, i, none⟩) rfl _
  refine ⟨⟨?_, ⟨cur.setIfInBounds i p.1, ?_, ?_, h3, ?_, ?_⟩, h.ne, fun q hq => ?_⟩, hoff⟩
  · rw [List.length_set, hs', setRow_other w rb hb _ h.ne]; exact h.hd
  · rw [hs', setRow_heap _ _ _ _ _ _ h1]
  · rw [List.length_set]; exact h2
  · rw [Array.size_setIfInBounds]; exact h4
  · rw [List.length_set, Array.toList_setIfInBounds, List.take_set, h5, List.map_set]
  · rcases List.mem_or_eq_of_mem_set hq with hq | rfl
    · exact h.el q hq
    · exact hp
theorem run_ix0 (a b : Int) (w : World) : (Instr.index 172 (.agg #[.int .i64 a, .int .i64 b]) (.int .i64 0)).run Tryz.prog w = .ok (.int .i64 a) w := by kernel_rfl
theorem run_ix1 (a b : Int) (w : World) : (Instr.index 172 (.agg #[.int .i64 a, .int .i64 b]) (.int .i64 1)).run Tryz.prog w = .ok (.int .i64 b) w := by kernel_rfl
def SinkE (W0 W : World) (hb rb cap lo : Nat) (hs : List Ls) (e : Ending) (W' : World) : Prop := e = .returned (.tuple #[]) ∧ ∃ hs', HpAt W0 W' hb rb cap hs' ∧ hs'.Perm hs ∧ (HPx (lo + 1) hs → HPx lo hs') ∧ OffB (fun k => k = rb) W W'
theorem sink_any (W0 W : World) (hb rb cap lo : Nat) (hs : List Ls) (hH : HpAt W0 W hb rb cap hs) (h0 : Ext W0 W) (hrb : W0.heap.size ≤ rb) (hlo : lo < hs.length) (hn : hs.length ≤ 1000000) : Calls Tryz.prog 77 #[.pointer (some ⟨hb, 0, none⟩), .int .i64 (lo : Int)] W (SinkE W0 W hb rb cap lo hs) := by
  obtain ⟨n, hnn⟩ : ∃ n, n = hs.length := ⟨_, rfl⟩
  rw [← hnn] at hlo hn
  have hnn' := Lib.hid hnn
  clear hnn
  have hx0 := run_ix0
  have hx1 := run_ix1
  go_enter Tryz.func77, Tryz.ntmps77
  go_wp2_with fail
  go_loopw [1, 4, 6] (fun a _ _ wr => ∃ (i : Nat) (hs1 : List Ls), lo ≤ i ∧ i < n ∧ a = .int .i64 i ∧ Hid (hs1.length = n) ∧ HpAt W0 wr hb rb cap hs1 ∧ Hid (hs1.Perm hs) ∧ Hid (HPx (lo + 1) hs → HPb lo i hs1) ∧ OffB (fun k => k = rb) W wr) (fun a _ _ _ => n - (intOf a).toNat)
  case atStart => exact ⟨lo, hs, by omega, hlo, rfl, Lib.hid hnn'.out.symm, hH, Lib.hid (List.Perm.refl _), Lib.hid HPb.start, OffB.refl _⟩
  case round =>
    obtain ⟨i, hs1, hli, hin, rfl, hl1, hH1, hpm, hhp, hoff⟩ := hrel
    obtain ⟨W1, hW1⟩ : ∃ W1, W1 = wr := ⟨_, rfl⟩
    subst hW1
    have hE0 : Ext W0 W1 := Below.trans h0 (hoff.below (base := W0.heap.size) (fun k hk => by rw [hk]; exact hrb) h0.size)
    obtain ⟨c1, hc1⟩ : ∃ c, c = 2 * i + 1 := ⟨_, rfl⟩
    obtain ⟨c2, hc2⟩ : ∃ c, c = 2 * i + 2 := ⟨_, rfl⟩
    have hw0 : IntKind.i64.wrap (2 * (i : Int)) = 2 * (i : Int) := by rw [IntKind.wrap_i64]; omega
    have hw1 : IntKind.i64.wrap (2 * (i : Int) + 1) = (c1 : Int) := by rw [IntKind.wrap_i64]; omega
    have hw2 : IntKind.i64.wrap (2 * (i : Int) + 2) = (c2 : Int) := by rw [IntKind.wrap_i64]; omega
    obtain ⟨x, hx⟩ : ∃ x, hs1[i]? = some x := ⟨_, List.getElem?_eq_getElem (by rw [hl1.out]; exact hin)⟩
    have hx' := Lib.hid hx
    have hc1' := Lib.hid hc1
    have hc2' := Lib.hid hc2
    clear hx hc1 hc2 hH
    go_wp2_with fail
    go_loopw [4, 6, 15] (fun m _ r wq => ∃ (mm rr : Nat) (y : Ls), rr ≤ 2 ∧ mm < n ∧ r = .int .i64 rr ∧ m = .int .i64 mm ∧ Hid (hs1[mm]? = some y ∧ leH y x ∧ (mm = i ∨ Child i mm) ∧ (∀ q, 1 ≤ rr → hs1[c1]? = some q → leH y q) ∧ (∀ q, 2 ≤ rr → hs1[c2]? = some q → leH y q)) ∧ Ext W1 wq) (fun _ _ r _ => 2 - (intOf r).toNat)
    case atStart => exact ⟨i, 0, x, by omega, hin, rfl, rfl, Lib.hid ⟨hx'.out, leH.refl _, .inl rfl, fun _ h => by omega, fun _ h => by omega⟩, Ext.refl _⟩
    case round =>
      obtain ⟨mm, rr, y, hrr, hmn, rfl, rfl, hst, hEq⟩ := hrel
      have hH2 := hH1.ext hEq
      obtain ⟨f0, f1⟩ := hH2.cells
      rw [hl1.out] at f0
      obtain ⟨pm, _⟩ := hH2.at hst.out.1
      have hmi : (mm : Int) < (n : Int) := by omega
      have hyo := Lib.hid (hH2.el y (List.mem_of_getElem? hst.out.1))
      have h0W := Lib.hid (hE0.trans hEq)
      obtain ⟨wr2, hwr2⟩ : ∃ W1, W1 = wr := ⟨_, rfl⟩
      subst hwr2
      obtain rfl | rfl | rfl : rr = 0 ∨ rr = 1 ∨ rr = 2 := by omega
      · by_cases hk : c1 < n
        · have hki : (c1 : Int) < (n : Int) := by omega
          have hkd : decide ((c1 : Int) < (n : Int)) = true := decide_eq_true hki
          obtain ⟨z, hz⟩ : ∃ z, hs1[c1]? = some z := ⟨_, List.getElem?_eq_getElem (by rw [hl1.out]; exact hk)⟩
          obtain ⟨pk, _⟩ := hH2.at hz
          have hzo := hH2.el z (List.mem_of_getElem? hz)
          have hcl := fun w' (hw : Ext wr2 w') => ahead_any w' z y (hzo.ext (h0W.out.trans hw)) (hyo.out.ext (h0W.out.trans hw))
          have hz' := Lib.hid hz
          clear hz hzo hH2
          go_upto_region 4 with fail
          refine bqRegion (Ext wr2) (by kernel_rfl) (by kernel_rfl) (Ext.refl _).drew ?_
          iterate 4 (refine bqStep (fun K hK => ?_); go_simp; first | (refine hK _ ?_; clear hK K) | (refine ⟨_, fun _ _ => rfl, hK _ ?_⟩; clear hK K))
          refine bqCell (by rfl) 58 _ (by rfl) hb (0) (by rfl) _ (fun w' hw => hw.cell f0) _ Tryz.underlying58 rfl ?_
          simp only [Act.put, List.setIfInBounds_toArray, List.set_cons_zero, List.set_cons_succ]
          iterate 6 (refine bqStep (fun K hK => ?_); go_simp; first | (refine hK _ ?_; clear hK K) | (refine ⟨_, fun _ _ => rfl, hK _ ?_⟩; clear hK K))
          refine bqCell (by rfl) 31 _ (by rfl) hb (1) (by rfl) _ (fun w' hw => hw.cell f1) _ Tryz.underlying31 rfl ?_
          simp only [Act.put, List.setIfInBounds_toArray, List.set_cons_zero, List.set_cons_succ]
          iterate 3 (refine bqStep (fun K hK => ?_); go_simp; first | (refine hK _ ?_; clear hK K) | (refine ⟨_, fun _ _ => rfl, hK _ ?_⟩; clear hK K))
          refine bqCell (by rfl) 58 _ (by rfl) hb (0) (by rfl) _ (fun w' hw => hw.cell f0) _ Tryz.underlying58 rfl ?_
          simp only [Act.put, List.setIfInBounds_toArray, List.set_cons_zero, List.set_cons_succ]
          iterate 2 (refine bqStep (fun K hK => ?_); go_simp; first | (refine hK _ ?_; clear hK K) | (refine ⟨_, fun _ _ => rfl, hK _ ?_⟩; clear hK K))
          refine bqCell (by rfl) 22 _ (by rfl) rb (c1) (by rfl) _ (fun w' hw => hw.cell pk) _ Tryz.underlying22 rfl ?_
          simp only [Act.put, List.setIfInBounds_toArray, List.set_cons_zero, List.set_cons_succ]
          iterate 3 (refine bqStep (fun K hK => ?_); go_simp; first | (refine hK _ ?_; clear hK K) | (refine ⟨_, fun _ _ => rfl, hK _ ?_⟩; clear hK K))
          refine bqCell (by rfl) 58 _ (by rfl) hb (0) (by rfl) _ (fun w' hw => hw.cell f0) _ Tryz.underlying58 rfl ?_
          simp only [Act.put, List.setIfInBounds_toArray, List.set_cons_zero, List.set_cons_succ]
          iterate 2 (refine bqStep (fun K hK => ?_); go_simp; first | (refine hK _ ?_; clear hK K) | (refine ⟨_, fun _ _ => rfl, hK _ ?_⟩; clear hK K))
          refine bqCell (by rfl) 22 _ (by rfl) rb (mm) (by rfl) _ (fun w' hw => hw.cell pm) _ Tryz.underlying22 rfl ?_
          simp only [Act.put, List.setIfInBounds_toArray, List.set_cons_zero, List.set_cons_succ]
          refine bqStep (fun K hK => ?_)
          go_simp
          refine ⟨_, fun w' hw => calls_ext hw (hcl w' hw), hK _ ?_⟩
          clear hK K
          iterate 1 (refine bqStep (fun K hK => ?_); go_simp; first | (refine hK _ ?_; clear hK K) | (refine ⟨_, fun _ _ => rfl, hK _ ?_⟩; clear hK K))
          refine bqNil (fun w5 hE5 => ?_)
          try simp only [Act.put, List.setIfInBounds_toArray, List.set_cons_zero, List.set_cons_succ]
          clear hcl pk pm f0 f1
          have hEf := hEq.trans hE5
          cases hlt : (hdM z).ltB (hdM y) with
          | true =>
            have hlt' := Lib.hid hlt
            clear hlt
            go_wp2_with fail
            go_roundw
            case rel => first | exact ⟨c1, 1, z, by omega, hk, rfl, rfl, Lib.hid ⟨hz'.out, (leH.of_lt hlt'.out).trans hst.out.2.1, .inr (by have e1 := hc1'.out; have e2 := hc2'.out; unfold Child; omega), (fun q _ hq => by rw [hz'.out] at hq; injection hq with hq; rw [← hq]; exact leH.refl _), (fun q h => by omega)⟩, hEf⟩ | ((repeat apply Exists.intro); exact ⟨⟨c1, 1, z, by omega, hk, rfl, rfl, Lib.hid ⟨hz'.out, (leH.of_lt hlt'.out).trans hst.out.2.1, .inr (by have e1 := hc1'.out; have e2 := hc2'.out; unfold Child; omega), (fun q _ hq => by rw [hz'.out] at hq; injection hq with hq; rw [← hq]; exact leH.refl _), (fun q h => by omega)⟩, hEf⟩, rfl⟩)
            case measure => simp [intOf]
          | false =>
            have hlt' := Lib.hid hlt
            clear hlt
            go_wp2_with fail
            go_roundw
            case rel => first | exact ⟨mm, 1, y, by omega, hmn, rfl, rfl, Lib.hid ⟨hst.out.1, hst.out.2.1, hst.out.2.2.1, (fun q _ hq => by rw [hz'.out] at hq; injection hq with hq; rw [← hq]; exact hlt'.out), (fun q h => by omega)⟩, hEf⟩ | ((repeat apply Exists.intro); exact ⟨⟨mm, 1, y, by omega, hmn, rfl, rfl, Lib.hid ⟨hst.out.1, hst.out.2.1, hst.out.2.2.1, (fun q _ hq => by rw [hz'.out] at hq; injection hq with hq; rw [← hq]; exact hlt'.out), (fun q h => by omega)⟩, hEf⟩, rfl⟩)
            case measure => simp [intOf]
        · have hki : ¬ (c1 : Int) < (n : Int) := by omega
          have hkd : decide ((c1 : Int) < (n : Int)) = false := decide_eq_false hki
          clear hH2
          go_upto_region 4 with fail
          refine bqRegion (Ext wr2) (by kernel_rfl) (by kernel_rfl) (Ext.refl _).drew ?_
          iterate 4 (refine bqStep (fun K hK => ?_); go_simp; first | (refine hK _ ?_; clear hK K) | (refine ⟨_, fun _ _ => rfl, hK _ ?_⟩; clear hK K))
          refine bqCell (by rfl) 58 _ (by rfl) hb (0) (by rfl) _ (fun w' hw => hw.cell f0) _ Tryz.underlying58 rfl ?_
          simp only [Act.put, List.setIfInBounds_toArray, List.set_cons_zero, List.set_cons_succ]
          iterate 3 (refine bqStep (fun K hK => ?_); go_simp; first | (refine hK _ ?_; clear hK K) | (refine ⟨_, fun _ _ => rfl, hK _ ?_⟩; clear hK K))
          iterate 19 (refine bqSkip (by rfl) ?_; simp only [Act.put, List.setIfInBounds_toArray, List.set_cons_zero, List.set_cons_succ])
          iterate 1 (refine bqStep (fun K hK => ?_); go_simp; first | (refine hK _ ?_; clear hK K) | (refine ⟨_, fun _ _ => rfl, hK _ ?_⟩; clear hK K))
          refine bqNil (fun w5 hE5 => ?_)
          try simp only [Act.put, List.setIfInBounds_toArray, List.set_cons_zero, List.set_cons_succ]
          clear pm f0 f1
          have hEf := hEq.trans hE5
          go_wp2_with fail
          go_roundw
          case rel => first | exact ⟨mm, 1, y, by omega, hmn, rfl, rfl, Lib.hid ⟨hst.out.1, hst.out.2.1, hst.out.2.2.1, (fun q _ hq => absurd (List.getElem?_eq_some_iff.1 hq).1 (by rw [hl1.out]; exact hk)), (fun q h => by omega)⟩, hEf⟩ | ((repeat apply Exists.intro); exact ⟨⟨mm, 1, y, by omega, hmn, rfl, rfl, Lib.hid ⟨hst.out.1, hst.out.2.1, hst.out.2.2.1, (fun q _ hq => absurd (List.getElem?_eq_some_iff.1 hq).1 (by rw [hl1.out]; exact hk)), (fun q h => by omega)⟩, hEf⟩, rfl⟩)
          case measure => simp [intOf]
      · by_cases hk : c2 < n
        · have hki : (c2 : Int) < (n : Int) := by omega
          have hkd : decide ((c2 : Int) < (n : Int)) = true := decide_eq_true hki
          obtain ⟨z, hz⟩ : ∃ z, hs1[c2]? = some z := ⟨_, List.getElem?_eq_getElem (by rw [hl1.out]; exact hk)⟩
          obtain ⟨pk, _⟩ := hH2.at hz
          have hzo := hH2.el z (List.mem_of_getElem? hz)
          have hcl := fun w' (hw : Ext wr2 w') => ahead_any w' z y (hzo.ext (h0W.out.trans hw)) (hyo.out.ext (h0W.out.trans hw))
          have hz' := Lib.hid hz
          clear hz hzo hH2
          go_upto_region 4 with fail
          refine bqRegion (Ext wr2) (by kernel_rfl) (by kernel_rfl) (Ext.refl _).drew ?_
          iterate 4 (refine bqStep (fun K hK => ?_); go_simp; first | (refine hK _ ?_; clear hK K) | (refine ⟨_, fun _ _ => rfl, hK _ ?_⟩; clear hK K))
          refine bqCell (by rfl) 58 _ (by rfl) hb (0) (by rfl) _ (fun w' hw => hw.cell f0) _ Tryz.underlying58 rfl ?_
          simp only [Act.put, List.setIfInBounds_toArray, List.set_cons_zero, List.set_cons_succ]
          iterate 6 (refine bqStep (fun K hK => ?_); go_simp; first | (refine hK _ ?_; clear hK K) | (refine ⟨_, fun _ _ => rfl, hK _ ?_⟩; clear hK K))
          refine bqCell (by rfl) 31 _ (by rfl) hb (1) (by rfl) _ (fun w' hw => hw.cell f1) _ Tryz.underlying31 rfl ?_
          simp only [Act.put, List.setIfInBounds_toArray, List.set_cons_zero, List.set_cons_succ]
          iterate 3 (refine bqStep (fun K hK => ?_); go_simp; first | (refine hK _ ?_; clear hK K) | (refine ⟨_, fun _ _ => rfl, hK _ ?_⟩; clear hK K))
          refine bqCell (by rfl) 58 _ (by rfl) hb (0) (by rfl) _ (fun w' hw => hw.cell f0) _ Tryz.underlying58 rfl ?_
          simp only [Act.put, List.setIfInBounds_toArray, List.set_cons_zero, List.set_cons_succ]
          iterate 2 (refine bqStep (fun K hK => ?_); go_simp; first | (refine hK _ ?_; clear hK K) | (refine ⟨_, fun _ _ => rfl, hK _ ?_⟩; clear hK K))
          refine bqCell (by rfl) 22 _ (by rfl) rb (c2) (by rfl) _ (fun w' hw => hw.cell pk) _ Tryz.underlying22 rfl ?_
          simp only [Act.put, List.setIfInBounds_toArray, List.set_cons_zero, List.set_cons_succ]
          iterate 3 (refine bqStep (fun K hK => ?_); go_simp; first | (refine hK _ ?_; clear hK K) | (refine ⟨_, fun _ _ => rfl, hK _ ?_⟩; clear hK K))
          refine bqCell (by rfl) 58 _ (by rfl) hb (0) (by rfl) _ (fun w' hw => hw.cell f0) _ Tryz.underlying58 rfl ?_
          simp only [Act.put, List.setIfInBounds_toArray, List.set_cons_zero, List.set_cons_succ]
          iterate 2 (refine bqStep (fun K hK => ?_); go_simp; first | (refine hK _ ?_; clear hK K) | (refine ⟨_, fun _ _ => rfl, hK _ ?_⟩; clear hK K))
          refine bqCell (by rfl) 22 _ (by rfl) rb (mm) (by rfl) _ (fun w' hw => hw.cell pm) _ Tryz.underlying22 rfl ?_
          simp only [Act.put, List.setIfInBounds_toArray, List.set_cons_zero, List.set_cons_succ]
          refine bqStep (fun K hK => ?_)
          go_simp
          refine ⟨_, fun w' hw => calls_ext hw (hcl w' hw), hK _ ?_⟩
          clear hK K
          iterate 1 (refine bqStep (fun K hK => ?_); go_simp; first | (refine hK _ ?_; clear hK K) | (refine ⟨_, fun _ _ => rfl, hK _ ?_⟩; clear hK K))
          refine bqNil (fun w5 hE5 => ?_)
          try simp only [Act.put, List.setIfInBounds_toArray, List.set_cons_zero, List.set_cons_succ]
          clear hcl pk pm f0 f1
          have hEf := hEq.trans hE5
          cases hlt : (hdM z).ltB (hdM y) with
          | true =>
            have hlt' := Lib.hid hlt
            clear hlt
            go_wp2_with fail
            go_roundw
            case rel => first | exact ⟨c2, 2, z, by omega, hk, rfl, rfl, Lib.hid ⟨hz'.out, (leH.of_lt hlt'.out).trans hst.out.2.1, .inr (by have e1 := hc1'.out; have e2 := hc2'.out; unfold Child; omega), (fun q _ hq => (leH.of_lt hlt'.out).trans (hst.out.2.2.2.1 q (by omega) hq)), (fun q _ hq => by rw [hz'.out] at hq; injection hq with hq; rw [← hq]; exact leH.refl _)⟩, hEf⟩ | ((repeat apply Exists.intro); exact ⟨⟨c2, 2, z, by omega, hk, rfl, rfl, Lib.hid ⟨hz'.out, (leH.of_lt hlt'.out).trans hst.out.2.1, .inr (by have e1 := hc1'.out; have e2 := hc2'.out; unfold Child; omega), (fun q _ hq => (leH.of_lt hlt'.out).trans (hst.out.2.2.2.1 q (by omega) hq)), (fun q _ hq => by rw [hz'.out] at hq; injection hq with hq; rw [← hq]; exact leH.refl _)⟩, hEf⟩, rfl⟩)
            case measure => simp [intOf]
          | false =>
            have hlt' := Lib.hid hlt
            clear hlt
            go_wp2_with fail
            go_roundw
            case rel => first | exact ⟨mm, 2, y, by omega, hmn, rfl, rfl, Lib.hid ⟨hst.out.1, hst.out.2.1, hst.out.2.2.1, (fun q _ hq => hst.out.2.2.2.1 q (by omega) hq), (fun q _ hq => by rw [hz'.out] at hq; injection hq with hq; rw [← hq]; exact hlt'.out)⟩, hEf⟩ | ((repeat apply Exists.intro); exact ⟨⟨mm, 2, y, by omega, hmn, rfl, rfl, Lib.hid ⟨hst.out.1, hst.out.2.1, hst.out.2.2.1, (fun q _ hq => hst.out.2.2.2.1 q (by omega) hq), (fun q _ hq => by rw [hz'.out] at hq; injection hq with hq; rw [← hq]; exact hlt'.out)⟩, hEf⟩, rfl⟩)
            case measure => simp [intOf]
        · have hki : ¬ (c2 : Int) < (n : Int) := by omega
          have hkd : decide ((c2 : Int) < (n : Int)) = false := decide_eq_false hki
          clear hH2
          go_upto_region 4 with fail
          refine bqRegion (Ext wr2) (by kernel_rfl) (by kernel_rfl) (Ext.refl _).drew ?_
          iterate 4 (refine bqStep (fun K hK => ?_); go_simp; first | (refine hK _ ?_; clear hK K) | (refine ⟨_, fun _ _ => rfl, hK _ ?_⟩; clear hK K))
          refine bqCell (by rfl) 58 _ (by rfl) hb (0) (by rfl) _ (fun w' hw => hw.cell f0) _ Tryz.underlying58 rfl ?_
          simp only [Act.put, List.setIfInBounds_toArray, List.set_cons_zero, List.set_cons_succ]
          iterate 3 (refine bqStep (fun K hK => ?_); go_simp; first | (refine hK _ ?_; clear hK K) | (refine ⟨_, fun _ _ => rfl, hK _ ?_⟩; clear hK K))
          iterate 19 (refine bqSkip (by rfl) ?_; simp only [Act.put, List.setIfInBounds_toArray, List.set_cons_zero, List.set_cons_succ])
          iterate 1 (refine bqStep (fun K hK => ?_); go_simp; first | (refine hK _ ?_; clear hK K) | (refine ⟨_, fun _ _ => rfl, hK _ ?_⟩; clear hK K))
          refine bqNil (fun w5 hE5 => ?_)
          try simp only [Act.put, List.setIfInBounds_toArray, List.set_cons_zero, List.set_cons_succ]
          clear pm f0 f1
          have hEf := hEq.trans hE5
          go_wp2_with fail
          go_roundw
          case rel => first | exact ⟨mm, 2, y, by omega, hmn, rfl, rfl, Lib.hid ⟨hst.out.1, hst.out.2.1, hst.out.2.2.1, (fun q _ hq => hst.out.2.2.2.1 q (by omega) hq), (fun q _ hq => absurd (List.getElem?_eq_some_iff.1 hq).1 (by rw [hl1.out]; exact hk))⟩, hEf⟩ | ((repeat apply Exists.intro); exact ⟨⟨mm, 2, y, by omega, hmn, rfl, rfl, Lib.hid ⟨hst.out.1, hst.out.2.1, hst.out.2.2.1, (fun q _ hq => hst.out.2.2.2.1 q (by omega) hq), (fun q _ hq => absurd (List.getElem?_eq_some_iff.1 hq).1 (by rw [hl1.out]; exact hk))⟩, hEf⟩, rfl⟩)
          case measure => simp [intOf]
      · by_cases hmi2 : mm = i
        · subst hmi2
          have hfin : Hid (HPx (lo + 1) hs → HPx lo hs1) := Lib.hid (fun h => (hhp.out h).done hx'.out (fun j q hj hq => by
            have e1 : y = x := by have := hst.out.1; rw [hx'.out] at this; injection this with this; exact this.symm
            rw [← e1]
            have g1 := hc1'.out
            have g2 := hc2'.out
            rcases hj with hj | hj
            · exact hst.out.2.2.2.1 q (by omega) (by rw [g1, ← hj]; exact hq)
            · exact hst.out.2.2.2.2 q (by omega) (by rw [g2, ← hj]; exact hq)))
          clear f0 f1 pm
          go_wp2_with fail
          go_end0
          exact ⟨rfl, hs1, hH2, hpm.out, hfin.out, hoff.trans (OffB.of_ext hEq)⟩
        · have hne : ¬ (mm : Int) = (i : Int) := by omega
          have hbe : ((mm : Int) == (i : Int)) = false := by simp; omega
          have hbe2 : (mm == i) = false := by simp [hmi2]
          have hii : (i : Int) < (n : Int) := by omega
          obtain ⟨px, fx⟩ := hH2.at hx'.out
          have fm := (hH2.at hst.out.1).2
          have hyo2 := hyo.out
          obtain ⟨hS1, hO1⟩ := hH2.set (i := i) (by rw [hl1.out]; exact hin) hyo2
          have gm : (hs1.set i y)[mm]? = some y := by rw [List.getElem?_set_ne (fun e => hmi2 e.symm)]; exact hst.out.1
          obtain ⟨pm1, fm1⟩ := hS1.at gm
          have g0 := hS1.cells.1
          have hxo := hH2.el x (List.mem_of_getElem? hx'.out)
          obtain ⟨hS2, hO2⟩ := hS1.set (i := mm) (by rw [List.length_set, hl1.out]; exact hmn) hxo
          obtain ⟨W5, hW5⟩ : ∃ W5, W5 = (wr2.setCell ⟨rb, i, none⟩ y.1).setCell ⟨rb, mm, none⟩ x.1 := ⟨_, rfl⟩
          rw [← hW5] at hS2 hO2
          have hch : Child i mm := by rcases hst.out.2.2.1 with h | h; exact absurd h hmi2; exact h
          have hnew : Hid (HPx (lo + 1) hs → HPb lo mm ((hs1.set i y).set mm x)) := Lib.hid (fun h => (hhp.out h).step hli hch hx'.out hst.out.1 hst.out.2.1 (fun j q hj hq => by
            have g1 := hc1'.out
            have g2 := hc2'.out
            rcases hj with hj | hj
            · exact hst.out.2.2.2.1 q (by omega) (by rw [g1, ← hj]; exact hq)
            · exact hst.out.2.2.2.2 q (by omega) (by rw [g2, ← hj]; exact hq)))
          have hpm2 : Hid (((hs1.set i y).set mm x).Perm hs) := Lib.hid ((swap_perm hx'.out hst.out.1 (fun e => hmi2 e.symm)).trans hpm.out)
          have hl2 : Hid (((hs1.set i y).set mm x).length = n) := Lib.hid (by rw [List.length_set, List.length_set, hl1.out])
          have hoff2 : OffB (fun k => k = rb) W W5.drew := ((hoff.trans (OffB.of_ext hEq)).trans (hO1.trans hO2)).drew
          have hS3 : HpAt W0 W5.drew hb rb cap ((hs1.set i y).set mm x) := hS2.ext (Ext.refl W5).drew
          have hlt2 : i < mm := child_lt hch
          obtain ⟨ya, yn, yc, ey⟩ : ∃ a n c, y.1 = .slice a n c := by obtain ⟨⟨a, c, e, _⟩, _⟩ := hyo2; exact ⟨a, _, c, e⟩
          obtain ⟨xa, xn, xc, ex⟩ : ∃ a n c, x.1 = .slice a n c := by obtain ⟨⟨a, c, e, _⟩, _⟩ := hxo; exact ⟨a, _, c, e⟩
          have hS3' := Lib.hid hS3
          have hof' := Lib.hid hoff2
          rw [ey] at pm pm1 fm1 g0 hW5
          rw [ex] at px hW5
          have hW5' := Lib.hid hW5
          clear hS1 hS2 hO1 hO2 hH2 hyo2 hxo hW5 hS3 hoff2 gm hch hst ey ex
          have pi0 : (0 : Int) ≤ (i : Int) := by omega
          have pm0 : (0 : Int) ≤ (mm : Int) := by omega
          go_upto_region 8 with fail
          go_region
          rw [← hW5'.out]
          clear hW5' f0 pm px fx fm pm1 fm1 g0
          go_wp2_with fail
          go_roundw
          case rel => first | exact ⟨mm, (hs1.set i y).set mm x, by omega, hmn, rfl, hl2, hS3'.out, hpm2, hnew, hof'.out⟩ | ((repeat apply Exists.intro); exact ⟨⟨mm, (hs1.set i y).set mm x, by omega, hmn, rfl, hl2, hS3'.out, hpm2, hnew, hof'.out⟩, rfl⟩)
          case measure => simp [intOf]; omega
end Go.Proofs.YtefllplgbalbkaaGreatDoor
