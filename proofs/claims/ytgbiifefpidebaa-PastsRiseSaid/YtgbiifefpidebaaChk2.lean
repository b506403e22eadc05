/- models.Check, kind by kind. No condition. -/
import Derived.Test.YtgbiifefpidebaaChk
namespace Go.Proofs.Ytgbiifefpidebaa
open Go.RowKit
def Ak.putB (x : Ak) : Bool := keyB x.key && (valB x.val && (x.old.toList.isEmpty && (!x.new && (x.to.toList.isEmpty && (x.many == 0 && x.chs.length == 0)))))
def Ak.casB (x : Ak) : Bool := keyB x.key && (valB x.val && (valB x.old && ((!x.new || x.old.toList.isEmpty) && (x.to.toList.isEmpty && (x.many == 0 && x.chs.length == 0)))))
def Ak.scanB (x : Ak) : Bool := keyB x.key && (keyB x.to && (decide (0 ≤ x.many) && (decide (x.many ≤ 64) && (x.val.toList.isEmpty && (x.old.toList.isEmpty && (!x.new && x.chs.length == 0))))))
def Ak.plainB (x : Ak) : Bool := keyB x.key && (x.val.toList.isEmpty && (x.old.toList.isEmpty && (!x.new && (x.to.toList.isEmpty && (x.many == 0 && x.chs.length == 0)))))
def Ak.batchB (x : Ak) : Bool := x.key.toList.isEmpty && (decide (0 < x.chs.length) && (decide (x.chs.length ≤ 16) && (chsB x.chs && (x.val.toList.isEmpty && (x.old.toList.isEmpty && (!x.new && (x.to.toList.isEmpty && x.many == 0)))))))
def Ak.okB (x : Ak) : Bool := if x.kind = 1 then x.putB else if x.kind = 3 then x.casB else if x.kind = 4 then x.batchB else if x.kind = 6 then x.scanB else if x.kind = 2 then x.plainB else if x.kind = 5 then x.plainB else false
theorem nat_len (n : Nat) : ((n : Int) == 0) = (n == 0) := by rw [Bool.eq_iff_iff, beq_iff_eq, beq_iff_eq]; omega
def x4 (x : Ak) (v : Value) : Array Value := #[.int .u8 4, .string x.key, .string x.val, .string x.old, .bool x.new, .string x.to, .int .i64 x.many, v]
theorem x4_cells {W : World} {g : Nat} {x : Ak} {v : Value} (h : W.heap[g]? = some (.cells (x4 x v) 32 (0, 0))) : W.cell? ⟨g, 0, none⟩ = some (.int .u8 4) ∧ W.cell? ⟨g, 1, none⟩ = some (.string x.key) ∧ W.cell? ⟨g, 2, none⟩ = some (.string x.val) ∧ W.cell? ⟨g, 3, none⟩ = some (.string x.old) ∧ W.cell? ⟨g, 4, none⟩ = some (.bool x.new) ∧ W.cell? ⟨g, 5, none⟩ = some (.string x.to) ∧ W.cell? ⟨g, 6, none⟩ = some (.int .i64 x.many) ∧ W.cell? ⟨g, 7, none⟩ = some v := by
  refine ⟨?_, ?_, ?_, ?_, ?_, ?_, ?_, ?_⟩ <;> (rw [cell_of_row _ _ _ _ 32 (0, 0) h]; rfl)
set_option maxRecDepth 100000 in
set_option maxHeartbeats 2000000 in
theorem check_put (w : World) (x : Ak) (a : Option Addr) (cap : Nat) (_h : ChsAt w x.chs a cap) (hs : x.small) (hk : x.kind = 1) : Calls Try.prog 25 #[.agg (x.row (.slice a x.chs.length cap))] w fun e w' => e = .returned (.bool x.putB) ∧ Ext w w' := by
  obtain ⟨_, s1, s2, s3, s4, s5⟩ := hs
  unfold Ak.row
  rw [hk]
  clear hk
  go_enter Try.func25, Try.ntmps25
  go_wp2_with fail
  refine (key_any _ x.key s1).mono ?_
  rintro e w' ⟨rfl, rfl⟩
  cases hb : keyB x.key
  · have h1 := Lib.hid hb
    clear hb
    go_wp2_with fail
    all_goals (have k1 := h1.out; go_ret; exact ⟨ret_bool (by unfold Ak.putB; first | (simp [*]; done) | (simp [*, nat_len]; done) | (simp [*]; intros; omega)), (Ext.refl _).alloc _⟩)
  · have h1 := Lib.hid hb
    clear hb
    go_wp2_with fail
    refine (value_any _ x.val s2).mono ?_
    rintro e w' ⟨rfl, rfl⟩
    cases hb : valB x.val
    · have h2 := Lib.hid hb
      clear hb
      go_wp2_with fail
      all_goals (have k1 := h1.out; have k2 := h2.out; go_ret; exact ⟨ret_bool (by unfold Ak.putB; first | (simp [*]; done) | (simp [*, nat_len]; done) | (simp [*]; intros; omega)), (Ext.refl _).alloc _⟩)
    · have h2 := Lib.hid hb
      clear hb
      go_wp2_with fail
      all_goals (have k1 := h1.out; have k2 := h2.out; go_ret; exact ⟨ret_bool (by unfold Ak.putB; first | (simp [*]; done) | (simp [*, nat_len]; done) | (simp [*]; intros; omega)), (Ext.refl _).alloc _⟩)
set_option maxRecDepth 100000 in
set_option maxHeartbeats 2000000 in
theorem check_cas (w : World) (x : Ak) (a : Option Addr) (cap : Nat) (_h : ChsAt w x.chs a cap) (hs : x.small) (hk : x.kind = 3) : Calls Try.prog 25 #[.agg (x.row (.slice a x.chs.length cap))] w fun e w' => e = .returned (.bool x.casB) ∧ Ext w w' := by
  obtain ⟨_, s1, s2, s3, s4, s5⟩ := hs
  unfold Ak.row
  rw [hk]
  clear hk
  go_enter Try.func25, Try.ntmps25
  go_wp2_with fail
  refine (key_any _ x.key s1).mono ?_
  rintro e w' ⟨rfl, rfl⟩
  cases hb : keyB x.key
  · have h1 := Lib.hid hb
    clear hb
    go_wp2_with fail
    all_goals (have k1 := h1.out; go_ret; exact ⟨ret_bool (by unfold Ak.casB; first | (simp [*]; done) | (simp [*, nat_len]; done) | (simp [*]; intros; omega)), (Ext.refl _).alloc _⟩)
  · have h1 := Lib.hid hb
    clear hb
    go_wp2_with fail
    refine (value_any _ x.val s2).mono ?_
    rintro e w' ⟨rfl, rfl⟩
    cases hb : valB x.val
    · have h2 := Lib.hid hb
      clear hb
      go_wp2_with fail
      all_goals (have k1 := h1.out; have k2 := h2.out; go_ret; exact ⟨ret_bool (by unfold Ak.casB; first | (simp [*]; done) | (simp [*, nat_len]; done) | (simp [*]; intros; omega)), (Ext.refl _).alloc _⟩)
    · have h2 := Lib.hid hb
      clear hb
      go_wp2_with fail
      refine (value_any _ x.old s3).mono ?_
      rintro e w' ⟨rfl, rfl⟩
      cases hb : valB x.old
      · have h3 := Lib.hid hb
        clear hb
        go_wp2_with fail
        all_goals (have k1 := h1.out; have k2 := h2.out; have k3 := h3.out; go_ret; exact ⟨ret_bool (by unfold Ak.casB; first | (simp [*]; done) | (simp [*, nat_len]; done) | (simp [*]; intros; omega)), (Ext.refl _).alloc _⟩)
      · have h3 := Lib.hid hb
        clear hb
        go_wp2_with fail
        all_goals (have k1 := h1.out; have k2 := h2.out; have k3 := h3.out; go_ret; exact ⟨ret_bool (by unfold Ak.casB; first | (simp [*]; done) | (simp [*, nat_len]; done) | (simp [*]; intros; omega)), (Ext.refl _).alloc _⟩)
set_option maxRecDepth 100000 in
set_option maxHeartbeats 2000000 in
theorem check_scan (w : World) (x : Ak) (a : Option Addr) (cap : Nat) (_h : ChsAt w x.chs a cap) (hs : x.small) (hk : x.kind = 6) : Calls Try.prog 25 #[.agg (x.row (.slice a x.chs.length cap))] w fun e w' => e = .returned (.bool x.scanB) ∧ Ext w w' := by
  obtain ⟨_, s1, s2, s3, s4, s5⟩ := hs
  unfold Ak.row
  rw [hk]
  clear hk
  go_enter Try.func25, Try.ntmps25
  go_wp2_with fail
  refine (key_any _ x.key s1).mono ?_
  rintro e w' ⟨rfl, rfl⟩
  cases hb : keyB x.key
  · have h1 := Lib.hid hb
    clear hb
    go_wp2_with fail
    all_goals (have k1 := h1.out; go_ret; exact ⟨ret_bool (by unfold Ak.scanB; first | (simp [*]; done) | (simp [*, nat_len]; done) | (simp [*]; intros; omega)), (Ext.refl _).alloc _⟩)
  · have h1 := Lib.hid hb
    clear hb
    go_wp2_with fail
    refine (key_any _ x.to s4).mono ?_
    rintro e w' ⟨rfl, rfl⟩
    cases hb : keyB x.to
    · have h2 := Lib.hid hb
      clear hb
      go_wp2_with fail
      all_goals (have k1 := h1.out; have k2 := h2.out; go_ret; exact ⟨ret_bool (by unfold Ak.scanB; first | (simp [*]; done) | (simp [*, nat_len]; done) | (simp [*]; intros; omega)), (Ext.refl _).alloc _⟩)
    · have h2 := Lib.hid hb
      clear hb
      go_wp2_with fail
      all_goals (have k1 := h1.out; have k2 := h2.out; go_ret; exact ⟨ret_bool (by unfold Ak.scanB; first | (simp [*]; done) | (simp [*, nat_len]; done) | (simp [*]; intros; omega)), (Ext.refl _).alloc _⟩)
set_option maxRecDepth 100000 in
set_option maxHeartbeats 2000000 in
theorem check_plain2 (w : World) (x : Ak) (a : Option Addr) (cap : Nat) (_h : ChsAt w x.chs a cap) (hs : x.small) (hk : x.kind = 2) : Calls Try.prog 25 #[.agg (x.row (.slice a x.chs.length cap))] w fun e w' => e = .returned (.bool x.plainB) ∧ Ext w w' := by
  obtain ⟨_, s1, s2, s3, s4, s5⟩ := hs
  unfold Ak.row
  rw [hk]
  clear hk
  go_enter Try.func25, Try.ntmps25
  go_wp2_with fail
  refine (key_any _ x.key s1).mono ?_
  rintro e w' ⟨rfl, rfl⟩
  cases hb : keyB x.key
  · have h1 := Lib.hid hb
    clear hb
    go_wp2_with fail
    all_goals (have k1 := h1.out; go_ret; exact ⟨ret_bool (by unfold Ak.plainB; first | (simp [*]; done) | (simp [*, nat_len]; done) | (simp [*]; intros; omega)), (Ext.refl _).alloc _⟩)
  · have h1 := Lib.hid hb
    clear hb
    go_wp2_with fail
    all_goals (have k1 := h1.out; go_ret; exact ⟨ret_bool (by unfold Ak.plainB; first | (simp [*]; done) | (simp [*, nat_len]; done) | (simp [*]; intros; omega)), (Ext.refl _).alloc _⟩)
set_option maxRecDepth 100000 in
set_option maxHeartbeats 2000000 in
theorem check_plain5 (w : World) (x : Ak) (a : Option Addr) (cap : Nat) (_h : ChsAt w x.chs a cap) (hs : x.small) (hk : x.kind = 5) : Calls Try.prog 25 #[.agg (x.row (.slice a x.chs.length cap))] w fun e w' => e = .returned (.bool x.plainB) ∧ Ext w w' := by
  obtain ⟨_, s1, s2, s3, s4, s5⟩ := hs
  unfold Ak.row
  rw [hk]
  clear hk
  go_enter Try.func25, Try.ntmps25
  go_wp2_with fail
  refine (key_any _ x.key s1).mono ?_
  rintro e w' ⟨rfl, rfl⟩
  cases hb : keyB x.key
  · have h1 := Lib.hid hb
    clear hb
    go_wp2_with fail
    all_goals (have k1 := h1.out; go_ret; exact ⟨ret_bool (by unfold Ak.plainB; first | (simp [*]; done) | (simp [*, nat_len]; done) | (simp [*]; intros; omega)), (Ext.refl _).alloc _⟩)
  · have h1 := Lib.hid hb
    clear hb
    go_wp2_with fail
    all_goals (have k1 := h1.out; go_ret; exact ⟨ret_bool (by unfold Ak.plainB; first | (simp [*]; done) | (simp [*, nat_len]; done) | (simp [*]; intros; omega)), (Ext.refl _).alloc _⟩)
set_option maxRecDepth 100000 in
set_option maxHeartbeats 2000000 in
theorem check_batch (w : World) (x : Ak) (a : Option Addr) (cap : Nat) (h : ChsAt w x.chs a cap) (hs : x.small) (hk : x.kind = 4) : Calls Try.prog 25 #[.agg (x.row (.slice a x.chs.length cap))] w fun e w' => e = .returned (.bool x.batchB) ∧ Ext w w' := by
  obtain ⟨_, s1, s2, s3, s4, s5⟩ := hs
  unfold Ak.row
  rw [hk]
  clear hk
  by_cases hq : x.key.toList.isEmpty = true ∧ 0 < x.chs.length ∧ x.chs.length ≤ 16
  · obtain ⟨q1, q2, q3⟩ := hq
    have q2' : (0 : Int) < (x.chs.length : Int) := by omega
    have q3' : (x.chs.length : Int) ≤ 16 := by omega
    go_enter Try.func25, Try.ntmps25
    go_wp2_with fail
    refine (key_any _ x.key s1).mono ?_
    rintro e w' ⟨rfl, rfl⟩
    generalize keyB x.key = b0
    go_wp2_with fail
    refine (ctf_any _ x.chs a cap (h.ext ((Ext.refl _).alloc _))).mono ?_
    rintro e w1 ⟨rfl, hE⟩
    cases hb : chsB x.chs
    · have h1 := Lib.hid hb
      clear hb
      have hE2 := ((Ext.refl w).alloc _).trans hE
      have hE3 := hE2.trans (Ext.refl w1)
      have hc7 : w1.heap[w.heap.size]? = some (.cells (x4 x (.slice a x.chs.length cap)) 32 (0, 0)) := hE.row (heap_alloc_new _ _)
      obtain ⟨g0, g1, g2, g3, g4, g5, g6, g7⟩ := x4_cells hc7
      have f7 : w1.frozen? ⟨w.heap.size, 7, none⟩ = false := by unfold World.frozen?; rw [hc7]; simp
      go_wp2_with fail
      all_goals (have k1 := h1.out; go_ret; exact ⟨ret_bool (by unfold Ak.batchB; first | (simp [*]; done) | (simp [*, nat_len]; done) | (simp [*]; intros; omega)), hE2.setCell (Nat.le_refl _) _⟩)
    · have h1 := Lib.hid hb
      clear hb
      have hE2 := ((Ext.refl w).alloc _).trans hE
      have hc7 : w1.heap[w.heap.size]? = some (.cells (x4 x (.slice a x.chs.length cap)) 32 (0, 0)) := hE.row (heap_alloc_new _ _)
      obtain ⟨g0, g1, g2, g3, g4, g5, g6, g7⟩ := x4_cells hc7
      have f7 : w1.frozen? ⟨w.heap.size, 7, none⟩ = false := by unfold World.frozen?; rw [hc7]; simp
      go_wp2_with fail
      all_goals (have k1 := h1.out; go_ret; exact ⟨ret_bool (by unfold Ak.batchB; first | (simp [*]; done) | (simp [*, nat_len]; done) | (simp [*]; intros; omega)), hE2.setCell (Nat.le_refl _) _⟩)
  · have hf : x.batchB = false := by
      cases hb : x.batchB with
      | false => rfl
      | true =>
        unfold Ak.batchB at hb
        simp only [Bool.and_eq_true, decide_eq_true_eq] at hb
        exact absurd ⟨hb.1, hb.2.1, hb.2.2.1⟩ hq
    have hf' := Lib.hid hf
    clear hf
    have hq' := Lib.hid hq
    clear hq
    by_cases q1 : x.key.toList.isEmpty = true
    · by_cases q2 : 0 < x.chs.length
      · have q3 : ¬ x.chs.length ≤ 16 := fun q3 => hq'.out ⟨q1, q2, q3⟩
        have q2' : (0 : Int) < (x.chs.length : Int) := by omega
        have q3' : ¬ (x.chs.length : Int) ≤ 16 := by omega
        go_enter Try.func25, Try.ntmps25
        go_wp2_with fail
        refine (key_any _ x.key s1).mono ?_
        rintro e w' ⟨rfl, rfl⟩
        generalize keyB x.key = b0
        go_wp2_with fail
        all_goals (go_ret; exact ⟨ret_bool hf'.out.symm, (Ext.refl _).alloc _⟩)
      · have q2' : ¬ (0 : Int) < (x.chs.length : Int) := by omega
        go_enter Try.func25, Try.ntmps25
        go_wp2_with fail
        refine (key_any _ x.key s1).mono ?_
        rintro e w' ⟨rfl, rfl⟩
        generalize keyB x.key = b0
        go_wp2_with fail
        all_goals (go_ret; exact ⟨ret_bool hf'.out.symm, (Ext.refl _).alloc _⟩)
    · have q1' : x.key.toList.isEmpty = false := by simpa using q1
      clear q1
      go_enter Try.func25, Try.ntmps25
      go_wp2_with fail
      refine (key_any _ x.key s1).mono ?_
      rintro e w' ⟨rfl, rfl⟩
      generalize keyB x.key = b0
      go_wp2_with fail
      all_goals (go_ret; exact ⟨ret_bool hf'.out.symm, (Ext.refl _).alloc _⟩)
set_option maxRecDepth 100000 in
set_option maxHeartbeats 2000000 in
theorem check_other (w : World) (x : Ak) (a : Option Addr) (cap : Nat) (hs : x.small) (h1 : x.kind ≠ 1) (h2 : x.kind ≠ 2) (h3 : x.kind ≠ 3) (h4 : x.kind ≠ 4) (h5 : x.kind ≠ 5) (h6 : x.kind ≠ 6) : Calls Try.prog 25 #[.agg (x.row (.slice a x.chs.length cap))] w fun e w' => e = .returned (.bool false) ∧ Ext w w' := by
  obtain ⟨_, s1, s2, s3, s4, s5⟩ := hs
  unfold Ak.row
  go_enter Try.func25, Try.ntmps25
  go_wp2_with fail
  refine (key_any _ x.key s1).mono ?_
  rintro e w' ⟨rfl, rfl⟩
  generalize keyB x.key = b0
  go_wp2_with fail
  go_ret
  exact ⟨rfl, (Ext.refl _).alloc _⟩
theorem check_any (w : World) (x : Ak) (a : Option Addr) (cap : Nat) (h : ChsAt w x.chs a cap) (hs : x.small) : Calls Try.prog 25 #[.agg (x.row (.slice a x.chs.length cap))] w fun e w' => e = .returned (.bool x.okB) ∧ Ext w w' := by
  unfold Ak.okB
  by_cases h1 : x.kind = 1
  · rw [if_pos h1]; exact check_put w x a cap h hs h1
  rw [if_neg h1]
  by_cases h3 : x.kind = 3
  · rw [if_pos h3]; exact check_cas w x a cap h hs h3
  rw [if_neg h3]
  by_cases h4 : x.kind = 4
  · rw [if_pos h4]; exact check_batch w x a cap h hs h4
  rw [if_neg h4]
  by_cases h6 : x.kind = 6
  · rw [if_pos h6]; exact check_scan w x a cap h hs h6
  rw [if_neg h6]
  by_cases h2 : x.kind = 2
  · rw [if_pos h2]; exact check_plain2 w x a cap h hs h2
  rw [if_neg h2]
  by_cases h5 : x.kind = 5
  · rw [if_pos h5]; exact check_plain5 w x a cap h hs h5
  rw [if_neg h5]
  exact check_other w x a cap hs h1 h2 h3 h4 h5 h6
end Go.Proofs.Ytgbiifefpidebaa
