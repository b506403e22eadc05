/- Several texts in one: Chk2 OwnC. No condition. -/
import Derived.Test.YtmopjmhapeinjaaGreatDoorChk
import Derived.Test.YtmopjmhapeinjaaGreatDoorGrA0
/- models.Check, kind by kind. No condition. -/
namespace Go.Proofs.YtmopjmhapeinjaaGreatDoor
open Go.RowKit
def Ak.putB (x : Ak) : Bool := keyB x.key && (valB x.val && (x.old.toList.isEmpty && (!x.new && (x.to.toList.isEmpty && (x.many == 0 && x.chs.length == 0)))))
def Ak.casB (x : Ak) : Bool := keyB x.key && (valB x.val && (valB x.old && ((!x.new || x.old.toList.isEmpty) && (x.to.toList.isEmpty && (x.many == 0 && x.chs.length == 0)))))
def Ak.scanB (x : Ak) : Bool := keyB x.key && (keyB x.to && (decide (0 ≤ x.many) && (decide (x.many ≤ 64) && (x.val.toList.isEmpty && (x.old.toList.isEmpty && (!x.new && x.chs.length == 0))))))
def Ak.plainB (x : Ak) : Bool := keyB x.key && (x.val.toList.isEmpty && (x.old.toList.isEmpty && (!x.new && (x.to.toList.isEmpty && (x.many == 0 && x.chs.length == 0)))))
def Ak.batchB (x : Ak) : Bool := x.key.toList.isEmpty && (decide (0 < x.chs.length) && (decide (x.chs.length ≤ 16) && (chsB x.chs && (x.val.toList.isEmpty && (x.old.toList.isEmpty && (!x.new && (x.to.toList.isEmpty && x.many == 0)))))))
def Ak.okB (x : Ak) : Bool := if x.kind = 1 then x.putB else if x.kind = 3 then x.casB else if x.kind = 4 then x.batchB else if x.kind = 6 then x.scanB else if x.kind = 2 then x.plainB else if x.kind = 5 then x.plainB else false
theorem nat_len (n : Nat) : ((n : Int) == 0) = (n == 0) := by rw [Bool.eq_iff_iff, beq_iff_eq, beq_iff_eq]; omega
def x4 (x : Ak) (v : Value) : Array Value := #[.int .u8 4, .string x.key, .string x.val, .string x.old, .bool x.new, .string x.to, .int .i64 x.many, v]
theorem x4_cells {W : World} {g : Nat} {x : Ak} {v : Value} (h : W.heap[g]? = some (.cells (x4 x v) 50 (0, 0))) : W.cell? ⟨g, 0, none⟩ = some (.int .u8 4) ∧ W.cell? ⟨g, 1, none⟩ = some (.string x.key) ∧ W.cell? ⟨g, 2, none⟩ = some (.string x.val) ∧ W.cell? ⟨g, 3, none⟩ = some (.string x.old) ∧ W.cell? ⟨g, 4, none⟩ = some (.bool x.new) ∧ W.cell? ⟨g, 5, none⟩ = some (.string x.to) ∧ W.cell? ⟨g, 6, none⟩ = some (.int .i64 x.many) ∧ W.cell? ⟨g, 7, none⟩ = some v := by
  refine ⟨?_, ?_, ?_, ?_, ?_, ?_, ?_, ?_⟩ <;> (rw [cell_of_row _ _ _ _ 50 (0, 0) h]; rfl)
set_option maxRecDepth 100000 in
set_option maxHeartbeats 2000000 in
theorem check_put (w : World) (x : Ak) (a : Option Addr) (cap : Nat) (_h : ChsAt w x.chs a cap) (hs : x.small) (hk : x.kind = 1) : Calls Tryz.prog 30 #[.agg (x.row (.slice a x.chs.length cap))] w fun e w' => e = .returned (.bool x.putB) ∧ Ext w w' := by
  obtain ⟨_, s1, s2, s3, s4, s5⟩ := hs
  unfold Ak.row
  rw [hk]
  clear hk
  go_enter Tryz.func30, Tryz.ntmps30
  go_wp2_with fail
  refine (key_any _ x.key s1).mono ?_
  rintro e w' ⟨rfl, rfl⟩
  cases hb : keyB x.key
  · have h1 := Lib.hid hb
    clear hb
    go_wp2_with fail
    all_goals (have k1 := h1.out; go_ret; exact ⟨ret_bool (by unfold Ak.putB; first | (simp [*]; done) | (simp [*, nat_len]; done) | (simp [*]; intros; omega)), (Ext.refl _).alloc _⟩)
  · have h1 := Lib.hid hb
    clear hb
    go_wp2_with fail
    refine (value_any _ x.val s2).mono ?_
    rintro e w' ⟨rfl, rfl⟩
    cases hb : valB x.val
    · have h2 := Lib.hid hb
      clear hb
      go_wp2_with fail
      all_goals (have k1 := h1.out; have k2 := h2.out; go_ret; exact ⟨ret_bool (by unfold Ak.putB; first | (simp [*]; done) | (simp [*, nat_len]; done) | (simp [*]; intros; omega)), (Ext.refl _).alloc _⟩)
    · have h2 := Lib.hid hb
      clear hb
      go_wp2_with fail
      all_goals (have k1 := h1.out; have k2 := h2.out; go_ret; exact ⟨ret_bool (by unfold Ak.putB; first | (simp [*]; done) | (simp [*, nat_len]; done) | (simp [*]; intros; omega)), (Ext.refl _).alloc _⟩)
set_option maxRecDepth 100000 in
set_option maxHeartbeats 2000000 in
theorem check_cas (w : World) (x : Ak) (a : Option Addr) (cap : Nat) (_h : ChsAt w x.chs a cap) (hs : x.small) (hk : x.kind = 3) : Calls Tryz.prog 30 #[.agg (x.row (.slice a x.chs.length cap))] w fun e w' => e = .returned (.bool x.casB) ∧ Ext w w' := by
  obtain ⟨_, s1, s2, s3, s4, s5⟩ := hs
  unfold Ak.row
  rw [hk]
  clear hk
  go_enter Tryz.func30, Tryz.ntmps30
  go_wp2_with fail
  refine (key_any _ x.key s1).mono ?_
  rintro e w' ⟨rfl, rfl⟩
  cases hb : keyB x.key
  · have h1 := Lib.hid hb
    clear hb
    go_wp2_with fail
    all_goals (have k1 := h1.out; go_ret; exact ⟨ret_bool (by unfold Ak.casB; first | (simp [*]; done) | (simp [*, nat_len]; done) | (simp [*]; intros; omega)), (Ext.refl _).alloc _⟩)
  · have h1 := Lib.hid hb
    clear hb
    go_wp2_with fail
    refine (value_any _ x.val s2).mono ?_
    rintro e w' ⟨rfl, rfl⟩
    cases hb : valB x.val
    · have h2 := Lib.hid hb
      clear hb
      go_wp2_with fail
      all_goals (have k1 := h1.out; have k2 := h2.out; go_ret; exact ⟨ret_bool (by unfold Ak.casB; first | (simp [*]; done) | (simp [*, nat_len]; done) | (simp [*]; intros; omega)), (Ext.refl _).alloc _⟩)
    · have h2 := Lib.hid hb
      clear hb
      go_wp2_with fail
      refine (value_any _ x.old s3).mono ?_
      rintro e w' ⟨rfl, rfl⟩
      cases hb : valB x.old
      · have h3 := Lib.hid hb
        clear hb
        go_wp2_with fail
        all_goals (have k1 := h1.out; have k2 := h2.out; have k3 := h3.out; go_ret; exact ⟨ret_bool (by unfold Ak.casB; first | (simp [*]; done) | (simp [*, nat_len]; done) | (simp [*]; intros; omega)), (Ext.refl _).alloc _⟩)
      · have h3 := Lib.hid hb
        clear hb
        go_wp2_with fail
        all_goals (have k1 := h1.out; have k2 := h2.out; have k3 := h3.out; go_ret; exact ⟨ret_bool (by unfold Ak.casB; first | (simp [*]; done) | (simp [*, nat_len]; done) | (simp [*]; intros; omega)), (Ext.refl _).alloc _⟩)
set_option maxRecDepth 100000 in
set_option maxHeartbeats 2000000 in
theorem check_scan (w : World) (x : Ak) (a : Option Addr) (cap : Nat) (_h : ChsAt w x.chs a cap) (hs : x.small) (hk : x.kind = 6) : Calls Tryz.prog 30 #[.agg (x.row (.slice a x.chs.length cap))] w fun e w' => e = .returned (.bool x.scanB) ∧ Ext w w' := by
  obtain ⟨_, s1, s2, s3, s4, s5⟩ := hs
  unfold Ak.row
  rw [hk]
  clear hk
  go_enter Tryz.func30, Tryz.ntmps30
  go_wp2_with fail
  refine (key_any _ x.key s1).mono ?_
  rintro e w' ⟨rfl, rfl⟩
  cases hb : keyB x.key
  · have h1 := Lib.hid hb
    clear hb
    go_wp2_with fail
    all_goals (have k1 := h1.out; go_ret; exact ⟨ret_bool (by unfold Ak.scanB; first | (simp [*]; done) | (simp [*, nat_len]; done) | (simp [*]; intros; omega)), (Ext.refl _).alloc _⟩)
  · have h1 := Lib.hid hb
    clear hb
    go_wp2_with fail
    refine (key_any _ x.to s4).mono ?_
    rintro e w' ⟨rfl, rfl⟩
    cases hb : keyB x.to
    · have h2 := Lib.hid hb
      clear hb
      go_wp2_with fail
      all_goals (have k1 := h1.out; have k2 := h2.out; go_ret; exact ⟨ret_bool (by unfold Ak.scanB; first | (simp [*]; done) | (simp [*, nat_len]; done) | (simp [*]; intros; omega)), (Ext.refl _).alloc _⟩)
    · have h2 := Lib.hid hb
      clear hb
      go_wp2_with fail
      all_goals (have k1 := h1.out; have k2 := h2.out; go_ret; exact ⟨ret_bool (by unfold Ak.scanB; first | (simp [*]; done) | (simp [*, nat_len]; done) | (simp [*]; intros; omega)), (Ext.refl _).alloc _⟩)
set_option maxRecDepth 100000 in
set_option maxHeartbeats 2000000 in
theorem check_plain2 (w : World) (x : Ak) (a : Option Addr) (cap : Nat) (_h : ChsAt w x.chs a cap) (hs : x.small) (hk : x.kind = 2) : Calls Tryz.prog 30 #[.agg (x.row (.slice a x.chs.length cap))] w fun e w' => e = .returned (.bool x.plainB) ∧ Ext w w' := by
  obtain ⟨_, s1, s2, s3, s4, s5⟩ := hs
  unfold Ak.row
  rw [hk]
  clear hk
  go_enter Tryz.func30, Tryz.ntmps30
  go_wp2_with fail
  refine (key_any _ x.key s1).mono ?_
  rintro e w' ⟨rfl, rfl⟩
  cases hb : keyB x.key
  · have h1 := Lib.hid hb
    clear hb
    go_wp2_with fail
    all_goals (have k1 := h1.out; go_ret; exact ⟨ret_bool (by unfold Ak.plainB; first | (simp [*]; done) | (simp [*, nat_len]; done) | (simp [*]; intros; omega)), (Ext.refl _).alloc _⟩)
  · have h1 := Lib.hid hb
    clear hb
    go_wp2_with fail
    all_goals (have k1 := h1.out; go_ret; exact ⟨ret_bool (by unfold Ak.plainB; first | (simp [*]; done) | (simp [*, nat_len]; done) | (simp [*]; intros; omega)), (Ext.refl _).alloc _⟩)
set_option maxRecDepth 100000 in
set_option maxHeartbeats 2000000 in
theorem check_plain5 (w : World) (x : Ak) (a : Option Addr) (cap : Nat) (_h : ChsAt w x.chs a cap) (hs : x.small) (hk : x.kind = 5) : Calls Tryz.prog 30 #[.agg (x.row (.slice a x.chs.length cap))] w fun e w' => e = .returned (.bool x.plainB) ∧ Ext w w' := by
  obtain ⟨_, s1, s2, s3, s4, s5⟩ := hs
  unfold Ak.row
  rw [hk]
  clear hk
  go_enter Tryz.func30, Tryz.ntmps30
  go_wp2_with fail
  refine (key_any _ x.key s1).mono ?_
  rintro e w' ⟨rfl, rfl⟩
  cases hb : keyB x.key
  · have h1 := Lib.hid hb
    clear hb
    go_wp2_with fail
    all_goals (have k1 := h1.out; go_ret; exact ⟨ret_bool (by unfold Ak.plainB; first | (simp [*]; done) | (simp [*, nat_len]; done) | (simp [*]; intros; omega)), (Ext.refl _).alloc _⟩)
  · have h1 := Lib.hid hb
    clear hb
    go_wp2_with fail
    all_goals (have k1 := h1.out; go_ret; exact ⟨ret_bool (by unfold Ak.plainB; first | (simp [*]; done) | (simp [*, nat_len]; done) | (simp [*]; intros; omega)), (Ext.refl _).alloc _⟩)
set_option maxRecDepth 100000 in
set_option maxHeartbeats 2000000 in
theorem check_batch (w : World) (x : Ak) (a : Option Addr) (cap : Nat) (h : ChsAt w x.chs a cap) (hs : x.small) (hk : x.kind = 4) : Calls Tryz.prog 30 #[.agg (x.row (.slice a x.chs.length cap))] w fun e w' => e = .returned (.bool x.batchB) ∧ Ext w w' := by
  obtain ⟨_, s1, s2, s3, s4, s5⟩ := hs
  unfold Ak.row
  rw [hk]
  clear hk
  by_cases hq : x.key.toList.isEmpty = true ∧ 0 < x.chs.length ∧ x.chs.length ≤ 16
  · obtain ⟨q1, q2, q3⟩ := hq
    have q2' : (0 : Int) < (x.chs.length : Int) := by omega
    have q3' : (x.chs.length : Int) ≤ 16 := by omega
    go_enter Tryz.func30, Tryz.ntmps30
    go_wp2_with fail
    refine (key_any _ x.key s1).mono ?_
    rintro e w' ⟨rfl, rfl⟩
    generalize keyB x.key = b0
    go_wp2_with fail
    refine (ctf_any _ x.chs a cap (h.ext ((Ext.refl _).alloc _))).mono ?_
    rintro e w1 ⟨rfl, hE⟩
    cases hb : chsB x.chs
    · have h1 := Lib.hid hb
      clear hb
      have hE2 := ((Ext.refl w).alloc _).trans hE
      have hE3 := hE2.trans (Ext.refl w1)
      have hc7 : w1.heap[w.heap.size]? = some (.cells (x4 x (.slice a x.chs.length cap)) 50 (0, 0)) := hE.row (heap_alloc_new _ _)
      obtain ⟨g0, g1, g2, g3, g4, g5, g6, g7⟩ := x4_cells hc7
      have f7 : w1.frozen? ⟨w.heap.size, 7, none⟩ = false := by unfold World.frozen?; rw [hc7]; simp
      go_wp2_with fail
      all_goals (have k1 := h1.out; go_ret; exact ⟨ret_bool (by unfold Ak.batchB; first | (simp [*]; done) | (simp [*, nat_len]; done) | (simp [*]; intros; omega)), hE2.setCell (Nat.le_refl _) _⟩)
    · have h1 := Lib.hid hb
      clear hb
      have hE2 := ((Ext.refl w).alloc _).trans hE
      have hc7 : w1.heap[w.heap.size]? = some (.cells (x4 x (.slice a x.chs.length cap)) 50 (0, 0)) := hE.row (heap_alloc_new _ _)
      obtain ⟨g0, g1, g2, g3, g4, g5, g6, g7⟩ := x4_cells hc7
      have f7 : w1.frozen? ⟨w.heap.size, 7, none⟩ = false := by unfold World.frozen?; rw [hc7]; simp
      go_wp2_with fail
      all_goals (have k1 := h1.out; go_ret; exact ⟨ret_bool (by unfold Ak.batchB; first | (simp [*]; done) | (simp [*, nat_len]; done) | (simp [*]; intros; omega)), hE2.setCell (Nat.le_refl _) _⟩)
  · have hf : x.batchB = false := by
      cases hb : x.batchB with
      | false => rfl
      | true =>
        unfold Ak.batchB at hb
        simp only [Bool.and_eq_true, decide_eq_true_eq] at hb
        exact absurd ⟨hb.1, hb.2.1, hb.2.2.1⟩ hq
    have hf' := Lib.hid hf
    clear hf
    have hq' := Lib.hid hq
    clear hq
    by_cases q1 : x.key.toList.isEmpty = true
    · by_cases q2 : 0 < x.chs.length
      · have q3 : ¬ x.chs.length ≤ 16 := fun q3 => hq'.out ⟨q1, q2, q3⟩
        have q2' : (0 : Int) < (x.chs.length : Int) := by omega
        have q3' : ¬ (x.chs.length : Int) ≤ 16 := by omega
        go_enter Tryz.func30, Tryz.ntmps30
        go_wp2_with fail
        refine (key_any _ x.key s1).mono ?_
        rintro e w' ⟨rfl, rfl⟩
        generalize keyB x.key = b0
        go_wp2_with fail
        all_goals (go_ret; exact ⟨ret_bool hf'.out.symm, (Ext.refl _).alloc _⟩)
      · have q2' : ¬ (0 : Int) < (x.chs.length : Int) := by omega
        go_enter Tryz.func30, Tryz.ntmps30
        go_wp2_with fail
        refine (key_any _ x.key s1).mono ?_
        rintro e w' ⟨rfl, rfl⟩
        generalize keyB x.key = b0
        go_wp2_with fail
        all_goals (go_ret; exact ⟨ret_bool hf'.out.symm, (Ext.refl _).alloc _⟩)
    · have q1' : x.key.toList.isEmpty = false := by simpa using q1
      clear q1
      go_enter Tryz.func30, Tryz.ntmps30
      go_wp2_with fail
      refine (key_any _ x.key s1).mono ?_
      rintro e w' ⟨rfl, rfl⟩
      generalize keyB x.key = b0
      go_wp2_with fail
      all_goals (go_ret; exact ⟨ret_bool hf'.out.symm, (Ext.refl _).alloc _⟩)
set_option maxRecDepth 100000 in
set_option maxHeartbeats 2000000 in
theorem check_other (w : World) (x : Ak) (a : Option Addr) (cap : Nat) (hs : x.small) (h1 : x.kind ≠ 1) (h2 : x.kind ≠ 2) (h3 : x.kind ≠ 3) (h4 : x.kind ≠ 4) (h5 : x.kind ≠ 5) (h6 : x.kind ≠ 6) : Calls Tryz.prog 30 #[.agg (x.row (.slice a x.chs.length cap))] w fun e w' => e = .returned (.bool false) ∧ Ext w w' := by
  obtain ⟨_, s1, s2, s3, s4, s5⟩ := hs
  unfold Ak.row
  go_enter Tryz.func30, Tryz.ntmps30
  go_wp2_with fail
  refine (key_any _ x.key s1).mono ?_
  rintro e w' ⟨rfl, rfl⟩
  generalize keyB x.key = b0
  go_wp2_with fail
  go_ret
  exact ⟨rfl, (Ext.refl _).alloc _⟩
theorem check_any (w : World) (x : Ak) (a : Option Addr) (cap : Nat) (h : ChsAt w x.chs a cap) (hs : x.small) : Calls Tryz.prog 30 #[.agg (x.row (.slice a x.chs.length cap))] w fun e w' => e = .returned (.bool x.okB) ∧ Ext w w' := by
  unfold Ak.okB
  by_cases h1 : x.kind = 1
  · rw [if_pos h1]; exact check_put w x a cap h hs h1
  rw [if_neg h1]
  by_cases h3 : x.kind = 3
  · rw [if_pos h3]; exact check_cas w x a cap h hs h3
  rw [if_neg h3]
  by_cases h4 : x.kind = 4
  · rw [if_pos h4]; exact check_batch w x a cap h hs h4
  rw [if_neg h4]
  by_cases h6 : x.kind = 6
  · rw [if_pos h6]; exact check_scan w x a cap h hs h6
  rw [if_neg h6]
  by_cases h2 : x.kind = 2
  · rw [if_pos h2]; exact check_plain2 w x a cap h hs h2
  rw [if_neg h2]
  by_cases h5 : x.kind = 5
  · rw [if_pos h5]; exact check_plain5 w x a cap h hs h5
  rw [if_neg h5]
  exact check_other w x a cap hs h1 h2 h3 h4 h5 h6
end Go.Proofs.YtmopjmhapeinjaaGreatDoor

/- Rows of the call's own that may be cut short: what a block holds ahead, how it is kept, appended to. No condition. -/
namespace Go.Proofs.YtmopjmhapeinjaaGreatDoor
open Go.RowKit
/-- The slice v has n elements xs in a block of the call's own; the block may hold more than v's capacity. -/
def OwnC (w : World) (base : Nat) (e : TypeId) (size : Nat) (v : Value) (n : Nat) (xs : List Value) : Prop :=
  xs.length = n * size ∧ ((v = .slice none 0 0 ∧ n = 0) ∨ ∃ g cap cur, v = .slice (some ⟨g, 0, none⟩) n cap ∧ base ≤ g ∧ w.heap[g]? = some (.cells cur e (0, 0)) ∧ n ≤ cap ∧ cap ≤ maxLen ∧ cap * size ≤ cur.size ∧ cur.toList.take (n * size) = xs)
section
variable {w : World} {base : Nat} {e : TypeId} {size : Nat} {v : Value} {n : Nat} {xs : List Value}
theorem OwnC.nil (w : World) (base : Nat) (e : TypeId) (size : Nat) : OwnC w base e size (.slice none 0 0) 0 [] := ⟨by simp, .inl ⟨rfl, rfl⟩⟩
theorem OwnC.of_own (h : w.ownsRow base e size v n xs) : OwnC w base e size v n xs := by
  obtain ⟨hl, h | ⟨g, cap, cur, h1, h2, h3, h4, h5, h6, h7⟩⟩ := h
  · exact ⟨hl, .inl h⟩
  · exact ⟨hl, .inr ⟨g, cap, cur, h1, h2, h3, h4, h5, Nat.le_of_eq h6.symm, h7⟩⟩
theorem OwnC.mono (h : OwnC w base e size v n xs) {base' : Nat} (hb : base' ≤ base) : OwnC w base' e size v n xs := by
  obtain ⟨hl, h | ⟨g, cap, cur, h1, h2, h3⟩⟩ := h
  · exact ⟨hl, .inl h⟩
  · exact ⟨hl, .inr ⟨g, cap, cur, h1, Nat.le_trans hb h2, h3⟩⟩
theorem OwnC.lt (h : OwnC w base e size v n xs) : ∀ k, v.ownBlock = some k → base ≤ k ∧ k < w.heap.size := by
  intro k hk
  obtain ⟨_, ⟨rfl, _⟩ | ⟨g, cap, cur, rfl, h2, h3, _⟩⟩ := h
  · cases hk
  · obtain rfl : g = k := by simpa [Value.ownBlock] using hk
    exact ⟨h2, (Array.getElem?_eq_some_iff.1 h3).1⟩
theorem OwnC.kept {w' : World} {row : Option Nat} (h : OwnC w base e size v n xs) (hg : w.grownBy w' row) (hne : v.ownBlock = none ∨ v.ownBlock ≠ row) : OwnC w' base e size v n xs := by
  have hlt := h.lt
  obtain ⟨hl, h | ⟨g, cap, cur, rfl, h2, h3, h4⟩⟩ := h
  · exact ⟨hl, .inl h⟩
  · refine ⟨hl, .inr ⟨g, cap, cur, rfl, h2, ?_, h4⟩⟩
    rw [hg.block g (hlt g rfl).2 ?_]
    · exact h3
    · rcases hne with h | h
      · cases h
      · exact h
theorem grown_ext {w w' : World} (he : Ext w w') : w.grownBy w' none := ⟨Below.os he, Below.tape he, Below.output he, Below.size he, fun k hk _ => Below.block he k hk⟩
theorem OwnC.ext {w' : World} (h : OwnC w base e size v n xs) (he : Ext w w') : OwnC w' base e size v n xs :=
  h.kept (grown_ext he) (by cases v.ownBlock <;> simp)
theorem OwnC.form (h : OwnC w base e size v n xs) : ∃ a cap, v = .slice a n cap ∧ n ≤ cap ∧ (v = .slice none 0 0 ∨ ∃ g, a = some ⟨g, 0, none⟩) := by
  obtain ⟨_, ⟨rfl, rfl⟩ | ⟨g, cap, cur, rfl, _, _, h4, _⟩⟩ := h
  · exact ⟨none, 0, rfl, Nat.le_refl _, .inl rfl⟩
  · exact ⟨_, cap, rfl, h4, .inr ⟨g, rfl⟩⟩
theorem OwnC.row (h : OwnC w base e size v n xs) : RowIs w size v n xs := by
  obtain ⟨hl, ⟨rfl, rfl⟩ | ⟨g, cap, cur, rfl, h2, h3, h4, h5, h6, h7⟩⟩ := h
  · refine ⟨hl, by omega, .inl ⟨rfl, none, 0, rfl, fun _ => rfl⟩⟩
  · have hm : maxLen = 9223372036854775807 := rfl
    refine ⟨hl, by omega, .inr ⟨g, 0, cap, rfl, h4, fun i hi => ?_⟩⟩
    rw [Nat.zero_add, cell_of_row _ _ i cur e (0, 0) h3, ← h7, List.getElem?_take, if_pos hi]
    simp
theorem OwnC.clip {a : Option Addr} {cap m : Nat} (h : OwnC w base e size (.slice a n cap) n xs) (hm : m ≤ n) : OwnC w base e size (.slice a m m) m (xs.take (m * size)) := by
  have hms : m * size ≤ n * size := Nat.mul_le_mul_right _ hm
  obtain ⟨hl, ⟨h1, h2⟩ | ⟨g, cap', cur, h1, h2, h3, h4, h5, h6, h7⟩⟩ := h
  · injection h1 with e1 e2 e3
    subst e1 h2
    obtain rfl : m = 0 := by omega
    refine ⟨by simp, .inl ⟨rfl, rfl⟩⟩
  · injection h1 with e1 e2 e3
    subst e1 e3
    have hms2 : m * size ≤ cap * size := Nat.mul_le_mul_right _ (by omega)
    refine ⟨by rw [List.length_take, hl]; omega, .inr ⟨g, m, cur, rfl, h2, h3, Nat.le_refl _, by omega, by omega, ?_⟩⟩
    rw [← h7, List.take_take, Nat.min_eq_left hms]
theorem OwnC.cells (h : OwnC w base e size v n xs) {g : Nat} (hg : v.ownBlock = some g) : ∀ j u, xs[j]? = some u → w.cell? ((⟨g, 0, none⟩ : Addr).add j) = some u := by
  intro j u hu
  obtain ⟨hl, ⟨rfl, _⟩ | ⟨g', cap, cur, rfl, h2, h3, h4, h5, h6, h7⟩⟩ := h
  · cases hg
  · obtain rfl : g' = g := by simpa [Value.ownBlock] using hg
    rw [Addr.add_mid, Nat.zero_add, cell_of_row _ _ j cur e (0, 0) h3, ← hu, ← h7, List.getElem?_take, if_pos]
    · simp
    · rw [← hl]; exact (List.getElem?_eq_some_iff.1 hu).1
end
/-- What another row of the call's own is, behind an append to v that gave v'. -/
def KeepC (w w' : World) (v v' : Value) : Prop := ∀ (base : Nat) (e : TypeId) (size : Nat) (u : Value) (n : Nat) (xs : List Value), OwnC w base e size u n xs → Sep v u → OwnC w' base e size u n xs ∧ Sep v' u
/-- What an append of one element leaves. -/
structure AppE (w w' : World) (base : Nat) (e : TypeId) (size : Nat) (v v' : Value) (n : Nat) (xs : List Value) : Prop where
  own : OwnC w' base e size v' n xs
  below : Below base w w'
  keep : KeepC w w' v v'
  grow : ∃ o, (w.alloc o).grownBy w' v.ownBlock
theorem AppE.grown {w w' : World} {base : Nat} {e : TypeId} {size : Nat} {v v' : Value} {n : Nat} {xs : List Value} (h : AppE w w' base e size v v' n xs) : w.grownBy w' v.ownBlock := by
  obtain ⟨o, hg⟩ := h.grow
  exact (World.grownBy_alloc w o _).trans hg
theorem run_append_c {P : Program} (w : World) {t ty e : TypeId} (ht : P.underlying t = some (.slice e)) {size bytes : Nat} (hel : ElemIs P e size bytes) (base n : Nat) (xs : List Value) (v : Value) (hown : OwnC w base e size v n xs) (cs : Array Value) (hcs : cs.size = size)
    (h1 : ∀ u ∈ cs.toList, u.oneCell' = true) (hn : n < 9223372036854775807) (hb : (n + 1) * bytes ≤ 140737488355328) (hbase : base ≤ w.heap.size) :
    ∃ v' w', (Builtin.append_ #[t, t] ty #[v, .slice (some ⟨w.heap.size, 0, none⟩) 1 1]).run P (w.alloc (.cells cs e)) = .ok v' w' ∧ AppE w w' base e size v v' (n + 1) (xs ++ cs.toList) := by
  obtain ⟨i, z, hi, hz, hsize, hby, hzs, hpos⟩ := hel
  have hown1 := hown.ext ((Ext.refl w).alloc (.cells cs e))
  have hnews : ∀ j u, cs.toList[j]? = some u → (w.alloc (.cells cs e)).cell? ((⟨w.heap.size, 0, none⟩ : Addr).add j) = some u := by
    intro j u hu
    rw [Addr.add_mid, Nat.zero_add, cell_of_row _ _ j cs e (0, 0) (heap_alloc_new w _)]
    simpa using hu
  have hl : cs.toList.length = 1 * i.size := by simp [hcs, hsize]
  subst hsize
  subst hby
  have hlen : (xs ++ cs.toList).length = (n + 1) * i.size := by rw [List.length_append, hown.1, hl, Nat.add_mul]
  obtain ⟨W, hW⟩ : ∃ W, W = w.alloc (.cells cs e) := ⟨_, rfl⟩
  have hws : W.heap.size = w.heap.size + 1 := by rw [hW]; simp
  have hgW : w.grownBy W none := by rw [hW]; exact World.grownBy_alloc _ _ _
  rw [← hW] at hown1 hnews ⊢
  have hWo := hW
  clear hW
  have main : ∃ v' w', (Builtin.append_ #[t, t] ty #[v, .slice (some ⟨w.heap.size, 0, none⟩) 1 1]).run P W = .ok v' w' ∧ OwnC w' base e i.size v' (n + 1) (xs ++ cs.toList) ∧ W.grownBy w' v.ownBlock ∧ (v'.ownBlock = v.ownBlock ∨ v'.ownBlock = some W.heap.size) := by
    have grown : ∀ (old : Nat), old < n + 1 → ∀ (row : Option Nat),
        OwnC (W.drew.alloc (.cells (xs.toArray ++ cs.toList.toArray ++ Builtin.zeroCells z.cells (grownCap W (n + 1) old e - (n + 1))) e)) base e i.size
          (.slice (some ⟨W.heap.size, 0, none⟩) (n + 1) (grownCap W (n + 1) old e)) (n + 1) (xs ++ cs.toList) ∧
        W.grownBy (W.drew.alloc (.cells (xs.toArray ++ cs.toList.toArray ++ Builtin.zeroCells z.cells (grownCap W (n + 1) old e - (n + 1))) e)) row := by
      intro old ho row
      have hge := grownCap_ge W (n + 1) old e
      have hcm : grownCap W (n + 1) old e ≤ maxLen := grownCap_le_maxLen W (n + 1) old e (by unfold maxLen; omega)
      refine ⟨⟨hlen, .inr ⟨W.heap.size, _, _, rfl, by omega, heap_alloc_new W.drew _, hge, hcm, ?_, ?_⟩⟩, ⟨rfl, rfl, rfl, by simp, fun k hk _ => heap_alloc_old W.drew _ hk⟩⟩
      · simp only [Array.size_append, List.size_toArray, size_zeroCells, hzs, hown.1, hl, ← Nat.add_mul]
        refine Nat.le_of_eq ?_
        congr 1
        omega
      · simp only [Array.toList_append, List.append_assoc]
        rw [← List.append_assoc, ← hlen]
        exact List.take_left
    rcases hown1.2 with ⟨rfl, rfl⟩ | ⟨g, cap, cur, rfl, hbg, hg, hnc, hcm, hcs2, htake⟩
    · have hx : xs = [] := List.eq_nil_of_length_eq_zero (by simpa using hown.1)
      subst hx
      have hr := run_append_nil (P := P) W t ty e i z ht hi hz ⟨w.heap.size, 0, none⟩ 1 1 cs.toList hl hnews (by omega) (by omega) (by have hb := hb; simp only [Nat.zero_add] at hb; omega)
      have hgr := grown 0 (by omega) (Value.ownBlock (.slice none 0 0))
      simp only [Nat.zero_add, List.nil_append, Array.empty_append] at hgr ⊢
      exact ⟨_, _, hr, hgr.1, hgr.2, Or.inr rfl⟩
    · by_cases hroom : n + 1 ≤ cap
      · have hcap : (n + 1) * i.size ≤ cap * i.size := Nat.mul_le_mul_right _ hroom
        have hfit : n * i.size + cs.toList.length ≤ cur.size := by rw [hl, ← Nat.add_mul]; omega
        have hr := run_append_room (P := P) W t ty e i ht hi g n cap cur hg ⟨w.heap.size, 0, none⟩ 1 1 cs.toList hl hnews h1 hroom hfit
        refine ⟨_, _, hr, ⟨hlen, .inr ⟨g, cap, _, rfl, hbg, setRow_heap W g cur _ e _ hg, hroom, hcm, ?_, ?_⟩⟩, ⟨rfl, rfl, rfl, by simp, fun k _ hk => setRow_other W g k _ (fun e => hk (by simp [Value.ownBlock, e]))⟩, Or.inl rfl⟩
        · simp only [List.size_toArray, List.length_append, List.length_take, List.length_drop, Array.length_toList]
          simp only [Array.length_toList] at hfit
          omega
        · rw [htake, ← hlen]
          exact List.take_left
      · have holds : ∀ j u, xs[j]? = some u → W.cell? ((⟨g, 0, none⟩ : Addr).add j) = some u := hown1.cells (g := g) rfl
        have hr := run_append_grow (P := P) W t ty e i z ht hi hz ⟨g, 0, none⟩ n cap xs hown.1 holds ⟨w.heap.size, 0, none⟩ 1 1 cs.toList hl hnews (by omega) (by omega) (growslice_fits (by omega) hb)
        have hgr := grown cap (by omega) (Value.ownBlock (.slice (some ⟨g, 0, none⟩) n cap))
        exact ⟨_, _, hr, hgr.1, hgr.2, Or.inr rfl⟩
  obtain ⟨v', w', hr, ho, hg, hat⟩ := main
  refine ⟨v', w', hr, ⟨ho, ?_, ?_, ⟨_, by rw [← hWo]; exact hg⟩⟩⟩
  · have hgr : w.grownBy w' v.ownBlock := by
      refine World.grownBy.trans (b := W) ?_ hg
      rw [hWo]; exact World.grownBy_alloc _ _ _
    exact (Below.refl base w).grown hgr hbase (fun k hk => (hown.lt k hk).1)
  · intro base2 e2 size2 u n2 xs2 hu hsep
    refine ⟨(hu.kept hgW (by cases u.ownBlock <;> simp)).kept hg ?_, ?_⟩
    · cases hub : u.ownBlock with
      | none => exact .inl rfl
      | some k => exact .inr (fun hk => hsep.symm k hub hk.symm)
    · intro g hg' hug
      rcases hat with hat | hat
      · exact hsep g (hat ▸ hg') hug
      · rw [hat] at hg'
        have := (hu.lt g hug).2
        simp only [Option.some.injEq] at hg'
        omega
theorem wp_append_c {P : Program} {o : Oper} {a : Act} {K : Act → World → Prop} {Q : Exit → Act → World → Prop} (s x : Operand) (t e : TypeId)
    (ho : o.op = .call { callee := .builtin .append, args := #[s, x], argTypes := #[t, t] }) (ht : P.underlying t = some (.slice e)) {size bytes : Nat} (hel : ElemIs P e size bytes)
    (w : World) (base n : Nat) (xs : List Value) (v : Value) (hs : a.eval s = v) (hown : OwnC w base e size v n xs) (cs : Array Value)
    (hx : a.eval x = .slice (some ⟨w.heap.size, 0, none⟩) 1 1) (hcs : cs.size = size) (h1 : ∀ u ∈ cs.toList, u.oneCell' = true) (hn : n < 9223372036854775807) (hb : (n + 1) * bytes ≤ 140737488355328) (hbase : base ≤ w.heap.size)
    (h : ∀ v' w', AppE w w' base e size v v' (n + 1) (xs ++ cs.toList) → K (a.put o.dst v') w') : o.wp P a (w.alloc (.cells cs e)) K Q := by
  obtain ⟨v', w', hr, hE⟩ := run_append_c (P := P) w (ty := o.type) ht hel base n xs v hown cs hcs h1 hn hb hbase
  unfold Oper.wp execOp
  simp only [ho, resolve, invoke, builtin, Sem.run_bind, Sem.run_pure, Result.andThen_ok, List.map_toArray, List.map_cons, List.map_nil, hs, hx, hr]
  exact h v' w' hE
theorem step_append_c {P : Program} {ops : Array Oper} {o : Oper} {a : Act} {K : Act → World → Prop} {Q : Exit → Act → World → Prop} {E : Prop} (hg : Region.wanted o (yielded ops a.tmps) = true) (s x : Operand) (t e : TypeId)
    (ho : o.op = .call { callee := .builtin .append, args := #[s, x], argTypes := #[t, t] }) (ht : P.underlying t = some (.slice e)) {size bytes : Nat} (hel : ElemIs P e size bytes)
    (w : World) (base n : Nat) (xs : List Value) (v : Value) (hs : a.eval s = v) (hown : OwnC w base e size v n xs) (cs : Array Value)
    (hx : a.eval x = .slice (some ⟨w.heap.size, 0, none⟩) 1 1) (hcs : cs.size = size) (h1 : ∀ u ∈ cs.toList, u.oneCell' = true) (hn : n < 9223372036854775807) (hb : (n + 1) * bytes ≤ 140737488355328) (hbase : base ≤ w.heap.size)
    (h : ∀ v' w', AppE w w' base e size v v' (n + 1) (xs ++ cs.toList) → K (a.put o.dst v') w') : if Region.wanted o (yielded ops a.tmps) = true then Oper.wp P o a (w.alloc (.cells cs e)) K Q else E := by
  rw [if_pos hg]
  exact wp_append_c s x t e ho ht hel w base n xs v hs hown cs hx hcs h1 hn hb hbase h
theorem wpList_append_c {P : Program} {ops : Array Oper} {rest : List Oper} {o : Oper} {a : Act} {Q : Exit → Act → World → Prop} (hgd : o.guard = none) (s x : Operand) (t e : TypeId)
    (ho : o.op = .call { callee := .builtin .append, args := #[s, x], argTypes := #[t, t] }) (ht : P.underlying t = some (.slice e)) {size bytes : Nat} (hel : ElemIs P e size bytes)
    (w : World) (base n : Nat) (xs : List Value) (v : Value) (hs : a.eval s = v) (hown : OwnC w base e size v n xs) (cs : Array Value)
    (hx : a.eval x = .slice (some ⟨w.heap.size, 0, none⟩) 1 1) (hcs : cs.size = size) (h1 : ∀ u ∈ cs.toList, u.oneCell' = true) (hn : n < 9223372036854775807) (hb : (n + 1) * bytes ≤ 140737488355328) (hbase : base ≤ w.heap.size)
    (h : ∀ v' w', AppE w w' base e size v v' (n + 1) (xs ++ cs.toList) → wpList P ops Q rest (a.put o.dst v') w') : wpList P ops Q (o :: rest) a (w.alloc (.cells cs e)) :=
  wpList_plain hgd fun _ hK => wp_append_c s x t e ho ht hel w base n xs v hs hown cs hx hcs h1 hn hb hbase fun v' w' hE => hK _ _ (h v' w' hE)
end Go.Proofs.YtmopjmhapeinjaaGreatDoor
