/- Several texts in one: Chk Chk2. No condition. -/
import Derived.Test.YthageoibkeebhaaGreatDoorGrA
import Derived.BigGuardPart
import Derived.Lib.Strings
/- models.Check. No condition. -/
namespace Go.Proofs.YthageoibkeebhaaGreatDoor
open Go.RowKit
theorem empty_iff (s : ByteArray) : s.toList.isEmpty = true ↔ s.size = 0 := by
  rw [List.isEmpty_iff, Lib.toList_data, ← List.length_eq_zero_iff, Array.length_toList]; rfl
theorem empty_not (s : ByteArray) : s.toList.isEmpty = false ↔ s.size ≠ 0 := by
  rw [ne_eq, ← empty_iff, Bool.not_eq_true]
theorem empty_same (s : ByteArray) : s.toList.isEmpty = decide (s.size = 0) := by
  rw [Bool.eq_iff_iff, empty_iff, decide_eq_true_iff]
theorem ret_bool {a b : Bool} (h : a = b) : Ending.returned (.bool a) = .returned (.bool b) := by rw [h]
def okeyB (s : ByteArray) : Bool := decide (1 ≤ s.size ∧ s.size ≤ 32)
def keyB (s : ByteArray) : Bool := decide (1 ≤ s.size ∧ s.size ≤ 24)
def valB (s : ByteArray) : Bool := decide (s.size ≤ 256)
def Ch.okB (c : Ch) : Bool := keyB c.key && (valB c.val && (!c.gone || c.val.toList.isEmpty))
theorem ocheck_any (w : World) (s : ByteArray) (hs : s.size ≤ 140737488351232) : Calls Tryz.prog 112 #[.string s] w fun e w' => e = .returned (.bool (okeyB s)) ∧ w = w' := by
  go_enter Tryz.func112, Tryz.ntmps112
  go_wp2
  all_goals
    rename_i h
    go_ret
    first | rw [empty_iff] at h | rw [empty_not] at h
    exact ⟨ret_bool (by unfold okeyB; rw [Bool.eq_iff_iff]; simp; omega), rfl⟩
theorem key_any (w : World) (s : ByteArray) (hs : s.size ≤ 140737488351232) : Calls Tryz.prog 41 #[.string s] w fun e w' => e = .returned (.bool (keyB s)) ∧ w = w' := by
  cases hb : okeyB s
  all_goals
    go_enter Tryz.func41, Tryz.ntmps41
    go_wp2_with fail
    refine (ocheck_any _ s hs).mono ?_
    rw [hb]
    have hb' := Lib.hid hb
    clear hb
    rintro e w' ⟨rfl, rfl⟩
    go_wp2
    go_ret
    have hb := hb'.out
    exact ⟨ret_bool (by unfold okeyB at hb; unfold keyB; rw [Bool.eq_iff_iff]; simp at hb ⊢; omega), rfl⟩
theorem value_any (w : World) (s : ByteArray) (hs : s.size ≤ 140737488351232) : Calls Tryz.prog 42 #[.string s] w fun e w' => e = .returned (.bool (valB s)) ∧ w = w' := by
  go_enter Tryz.func42, Tryz.ntmps42
  go_wp2
  go_ret
  exact ⟨ret_bool (by unfold valB; rw [Bool.eq_iff_iff]; simp; omega), rfl⟩
theorem change_any (w : World) (c : Ch) (hc : c.small) : Calls Tryz.prog 108 #[.agg c.cells.toArray] w fun e w' => e = .returned (.bool c.okB) ∧ Ext w w' := by
  obtain ⟨h1, h2⟩ := hc
  unfold Ch.cells
  unfold Ch.okB
  cases hk : keyB c.key <;> cases hv : valB c.val <;> cases hg : c.gone <;> cases hz : c.val.toList.isEmpty
  all_goals
    go_enter Tryz.func108, Tryz.ntmps108
    have hk' := Lib.hid hk
    have hv' := Lib.hid hv
    clear hk hv
    go_wp2_with fail
    refine (key_any _ c.key h1).mono ?_
    rw [hk'.out]
    rintro e w' ⟨rfl, rfl⟩
    go_wp2_with fail
    try
      refine (value_any _ c.val h2).mono ?_
      rw [hv'.out]
      rintro e w' ⟨rfl, rfl⟩
      go_wp2_with fail
    go_ret
    exact ⟨rfl, (Ext.refl _).alloc _⟩
def Ch.badB (c : Ch) : Bool := !c.okB
theorem check1_any (w : World) (c : Ch) (hc : c.small) : Calls Tryz.prog 107 #[.agg c.cells.toArray] w fun e w' => e = .returned (.bool c.badB) ∧ Ext w w' := by
  have hb : c.badB = !c.okB := rfl
  unfold Ch.cells
  rw [hb]
  cases hk : c.okB
  all_goals
    go_enter Tryz.func107, Tryz.ntmps107
    have hk' := Lib.hid hk
    clear hk hb
    go_wp2_with fail
    refine (change_any _ c hc).mono ?_
    rw [hk'.out]
    rintro e w' ⟨rfl, hE⟩
    go_wp2_with fail
    go_ret
    exact ⟨rfl, ((Ext.refl _).alloc _).trans hE⟩
def chsB (l : List Ch) : Bool := l.all Ch.okB
/-- What IndexFunc tells: the first change that may not be, or -1. -/
def firstBad (l : List Ch) (r : Int) : Prop := (r = -1 ∧ chsB l = true) ∨ (0 ≤ r ∧ chsB l = false)
set_option maxRecDepth 100000 in
theorem ixf_any (w : World) (l : List Ch) (a : Option Addr) (cap : Nat) (h : ChsAt w l a cap) : Calls Tryz.prog 150 #[.slice a l.length cap, .func (.func 107) #[] #[]] w fun e w' => ∃ r, e = .returned (.int .i64 r) ∧ firstBad l r ∧ Ext w w' := by
  obtain ⟨hR, hn, hs⟩ := h
  have hn9 : l.length ≤ 9223372036854775807 := by omega
  go_enter Tryz.func150, Tryz.ntmps150
  go_wp2_with fail
  go_loopw [8] (fun i wr => ∃ k : Nat, k ≤ l.length ∧ i = .int .i64 k ∧ chsB (l.take k) = true ∧ Ext w wr) (fun i _ => l.length - (intOf i).toNat)
  case atStart => exact ⟨0, by omega, rfl, rfl, Ext.refl _⟩
  case round =>
    obtain ⟨k, hk, rfl, hok, hE⟩ := hrel
    have hok' := Lib.hid hok
    clear hok
    by_cases hlt : k < l.length
    · have hli : (k : Int) < (l.length : Int) := by omega
      obtain ⟨c, hc⟩ : ∃ c, l[k]? = some c := ⟨_, List.getElem?_eq_getElem hlt⟩
      have hcs := hs c (List.mem_of_getElem? hc)
      obtain ⟨b, off, hat⟩ := (hR.ext hE).at
      obtain ⟨rfl, _, hd⟩ := hat (by omega)
      have hrg := ch_range hd hc
      have htk : l.take (k + 1) = l.take k ++ [c] := by rw [List.take_add_one, hc]; rfl
      have htk' := Lib.hid htk
      have hc' := Lib.hid hc
      clear hd hat htk hc
      cases hb : c.badB
      · have hb' := Lib.hid hb
        clear hb
        go_wp2_with (first | (refine wpList_load_mid (by rfl) 102 (.tmp 14) (by rfl) b (off + k * 3) (by rfl) c.cells _ hrg Tryz.underlying102 rfl (by exact info_ch) ?_) | fail)
        refine (check1_any _ c hcs).mono ?_
        rw [hb'.out]
        rintro e w' ⟨rfl, hE2⟩
        go_wp2_with fail
        go_roundw
        case rel =>
          have hbo : c.okB = true := by have := hb'.out; unfold Ch.badB at this; simpa using this
          exact ⟨k + 1, by omega, by go_num, by rw [htk'.out]; unfold chsB; rw [List.all_append]; have := hok'.out; unfold chsB at this; rw [this]; simp [hbo], hE.trans hE2⟩
        case measure => simp [intOf]; omega
      · have hb' := Lib.hid hb
        clear hb
        go_wp2_with (first | (refine wpList_load_mid (by rfl) 102 (.tmp 14) (by rfl) b (off + k * 3) (by rfl) c.cells _ hrg Tryz.underlying102 rfl (by exact info_ch) ?_) | fail)
        refine (check1_any _ c hcs).mono ?_
        rw [hb'.out]
        rintro e w' ⟨rfl, hE2⟩
        go_wp2_with fail
        go_ret
        refine ⟨k, rfl, .inr ⟨by omega, ?_⟩, hE.trans hE2⟩
        unfold chsB
        rw [List.all_eq_false]
        have hbo : c.okB = false := by have := hb'.out; unfold Ch.badB at this; simpa using this
        exact ⟨c, List.mem_of_getElem? hc'.out, by simp [hbo]⟩
    · have hli : ¬ (k : Int) < (l.length : Int) := by omega
      obtain rfl : k = l.length := by omega
      go_wp2_with fail
      go_ret
      exact ⟨_, rfl, .inl ⟨rfl, by have := hok'.out; rw [List.take_length] at this; exact this⟩, hE⟩
set_option maxRecDepth 100000 in
theorem ctf_any (w : World) (l : List Ch) (a : Option Addr) (cap : Nat) (h : ChsAt w l a cap) : Calls Tryz.prog 106 #[.slice a l.length cap, .func (.func 107) #[] #[]] w fun e w' => e = .returned (.bool (!chsB l)) ∧ Ext w w' := by
  go_enter Tryz.func106, Tryz.ntmps106
  go_wp2_with fail
  refine (ixf_any _ l a cap h).mono ?_
  rintro e w' ⟨r, rfl, hf, hE⟩
  have hE' := hE
  rcases hf with ⟨rfl, hb⟩ | ⟨h0, hb⟩
  · have hb' := Lib.hid hb
    clear hb
    go_wp2_with fail
    go_ret
    exact ⟨ret_bool (by rw [hb'.out]; rfl), hE⟩
  · have hb' := Lib.hid hb
    clear hb
    go_wp2_with fail
    go_ret
    exact ⟨ret_bool (by rw [hb'.out]; simp <;> omega), hE⟩
end Go.Proofs.YthageoibkeebhaaGreatDoor

/- models.Check, kind by kind. No condition. -/
namespace Go.Proofs.YthageoibkeebhaaGreatDoor
open Go.RowKit
def Ak.putB (x : Ak) : Bool := keyB x.key && (valB x.val && (x.old.toList.isEmpty && (!x.new && (x.to.toList.isEmpty && (x.many == 0 && x.chs.length == 0)))))
def Ak.casB (x : Ak) : Bool := keyB x.key && (valB x.val && (valB x.old && ((!x.new || x.old.toList.isEmpty) && (x.to.toList.isEmpty && (x.many == 0 && x.chs.length == 0)))))
def Ak.scanB (x : Ak) : Bool := keyB x.key && (keyB x.to && (decide (0 ≤ x.many) && (decide (x.many ≤ 64) && (x.val.toList.isEmpty && (x.old.toList.isEmpty && (!x.new && x.chs.length == 0))))))
def Ak.plainB (x : Ak) : Bool := keyB x.key && (x.val.toList.isEmpty && (x.old.toList.isEmpty && (!x.new && (x.to.toList.isEmpty && (x.many == 0 && x.chs.length == 0)))))
def Ak.batchB (x : Ak) : Bool := x.key.toList.isEmpty && (decide (0 < x.chs.length) && (decide (x.chs.length ≤ 16) && (chsB x.chs && (x.val.toList.isEmpty && (x.old.toList.isEmpty && (!x.new && (x.to.toList.isEmpty && x.many == 0)))))))
def Ak.okB (x : Ak) : Bool := if x.kind = 1 then x.putB else if x.kind = 3 then x.casB else if x.kind = 4 then x.batchB else if x.kind = 6 then x.scanB else if x.kind = 2 then x.plainB else if x.kind = 5 then x.plainB else false
theorem nat_len (n : Nat) : ((n : Int) == 0) = (n == 0) := by rw [Bool.eq_iff_iff, beq_iff_eq, beq_iff_eq]; omega
def x4 (x : Ak) (v : Value) : Array Value := #[.int .u8 4, .string x.key, .string x.val, .string x.old, .bool x.new, .string x.to, .int .i64 x.many, v]
theorem x4_cells {W : World} {g : Nat} {x : Ak} {v : Value} (h : W.heap[g]? = some (.cells (x4 x v) 66 (0, 0))) : W.cell? ⟨g, 0, none⟩ = some (.int .u8 4) ∧ W.cell? ⟨g, 1, none⟩ = some (.string x.key) ∧ W.cell? ⟨g, 2, none⟩ = some (.string x.val) ∧ W.cell? ⟨g, 3, none⟩ = some (.string x.old) ∧ W.cell? ⟨g, 4, none⟩ = some (.bool x.new) ∧ W.cell? ⟨g, 5, none⟩ = some (.string x.to) ∧ W.cell? ⟨g, 6, none⟩ = some (.int .i64 x.many) ∧ W.cell? ⟨g, 7, none⟩ = some v := by
  refine ⟨?_, ?_, ?_, ?_, ?_, ?_, ?_, ?_⟩ <;> (rw [cell_of_row _ _ _ _ 66 (0, 0) h]; rfl)
set_option maxRecDepth 100000 in
set_option maxHeartbeats 2000000 in
theorem check_put (w : World) (x : Ak) (a : Option Addr) (cap : Nat) (_h : ChsAt w x.chs a cap) (hs : x.small) (hk : x.kind = 1) : Calls Tryz.prog 34 #[.agg (x.row (.slice a x.chs.length cap))] w fun e w' => e = .returned (.bool x.putB) ∧ Ext w w' := by
  obtain ⟨_, s1, s2, s3, s4, s5⟩ := hs
  unfold Ak.row
  rw [hk]
  clear hk
  go_enter Tryz.func34, Tryz.ntmps34
  go_wp2_with fail
  refine (key_any _ x.key s1).mono ?_
  rintro e w' ⟨rfl, rfl⟩
  cases hb : keyB x.key
  · have h1 := Lib.hid hb
    clear hb
    go_wp2_with fail
    all_goals (have k1 := h1.out; go_ret; exact ⟨ret_bool (by unfold Ak.putB; first | (simp [*]; done) | (simp [*, nat_len]; done) | (simp [*]; intros; omega)), (Ext.refl _).alloc _⟩)
  · have h1 := Lib.hid hb
    clear hb
    go_wp2_with fail
    refine (value_any _ x.val s2).mono ?_
    rintro e w' ⟨rfl, rfl⟩
    cases hb : valB x.val
    · have h2 := Lib.hid hb
      clear hb
      go_wp2_with fail
      all_goals (have k1 := h1.out; have k2 := h2.out; go_ret; exact ⟨ret_bool (by unfold Ak.putB; first | (simp [*]; done) | (simp [*, nat_len]; done) | (simp [*]; intros; omega)), (Ext.refl _).alloc _⟩)
    · have h2 := Lib.hid hb
      clear hb
      go_wp2_with fail
      all_goals (have k1 := h1.out; have k2 := h2.out; go_ret; exact ⟨ret_bool (by unfold Ak.putB; first | (simp [*]; done) | (simp [*, nat_len]; done) | (simp [*]; intros; omega)), (Ext.refl _).alloc _⟩)
set_option maxRecDepth 100000 in
set_option maxHeartbeats 2000000 in
theorem check_cas (w : World) (x : Ak) (a : Option Addr) (cap : Nat) (_h : ChsAt w x.chs a cap) (hs : x.small) (hk : x.kind = 3) : Calls Tryz.prog 34 #[.agg (x.row (.slice a x.chs.length cap))] w fun e w' => e = .returned (.bool x.casB) ∧ Ext w w' := by
  obtain ⟨_, s1, s2, s3, s4, s5⟩ := hs
  unfold Ak.row
  rw [hk]
  clear hk
  go_enter Tryz.func34, Tryz.ntmps34
  go_wp2_with fail
  refine (key_any _ x.key s1).mono ?_
  rintro e w' ⟨rfl, rfl⟩
  cases hb : keyB x.key
  · have h1 := Lib.hid hb
    clear hb
    go_wp2_with fail
    all_goals (have k1 := h1.out; go_ret; exact ⟨ret_bool (by unfold Ak.casB; first | (simp [*]; done) | (simp [*, nat_len]; done) | (simp [*]; intros; omega)), (Ext.refl _).alloc _⟩)
  · have h1 := Lib.hid hb
    clear hb
    go_wp2_with fail
    refine (value_any _ x.val s2).mono ?_
    rintro e w' ⟨rfl, rfl⟩
    cases hb : valB x.val
    · have h2 := Lib.hid hb
      clear hb
      go_wp2_with fail
      all_goals (have k1 := h1.out; have k2 := h2.out; go_ret; exact ⟨ret_bool (by unfold Ak.casB; first | (simp [*]; done) | (simp [*, nat_len]; done) | (simp [*]; intros; omega)), (Ext.refl _).alloc _⟩)
    · have h2 := Lib.hid hb
      clear hb
      go_wp2_with fail
      refine (value_any _ x.old s3).mono ?_
      rintro e w' ⟨rfl, rfl⟩
      cases hb : valB x.old
      · have h3 := Lib.hid hb
        clear hb
        go_wp2_with fail
        all_goals (have k1 := h1.out; have k2 := h2.out; have k3 := h3.out; go_ret; exact ⟨ret_bool (by unfold Ak.casB; first | (simp [*]; done) | (simp [*, nat_len]; done) | (simp [*]; intros; omega)), (Ext.refl _).alloc _⟩)
      · have h3 := Lib.hid hb
        clear hb
        go_wp2_with fail
        all_goals (have k1 := h1.out; have k2 := h2.out; have k3 := h3.out; go_ret; exact ⟨ret_bool (by unfold Ak.casB; first | (simp [*]; done) | (simp [*, nat_len]; done) | (simp [*]; intros; omega)), (Ext.refl _).alloc _⟩)
set_option maxRecDepth 100000 in
set_option maxHeartbeats 2000000 in
theorem check_scan (w : World) (x : Ak) (a : Option Addr) (cap : Nat) (_h : ChsAt w x.chs a cap) (hs : x.small) (hk : x.kind = 6) : Calls Tryz.prog 34 #[.agg (x.row (.slice a x.chs.length cap))] w fun e w' => e = .returned (.bool x.scanB) ∧ Ext w w' := by
  obtain ⟨_, s1, s2, s3, s4, s5⟩ := hs
  unfold Ak.row
  rw [hk]
  clear hk
  go_enter Tryz.func34, Tryz.ntmps34
  go_wp2_with fail
  refine (key_any _ x.key s1).mono ?_
  rintro e w' ⟨rfl, rfl⟩
  cases hb : keyB x.key
  · have h1 := Lib.hid hb
    clear hb
    go_wp2_with fail
    all_goals (have k1 := h1.out; go_ret; exact ⟨ret_bool (by unfold Ak.scanB; first | (simp [*]; done) | (simp [*, nat_len]; done) | (simp [*]; intros; omega)), (Ext.refl _).alloc _⟩)
  · have h1 := Lib.hid hb
    clear hb
    go_wp2_with fail
    refine (key_any _ x.to s4).mono ?_
    rintro e w' ⟨rfl, rfl⟩
    cases hb : keyB x.to
    · have h2 := Lib.hid hb
      clear hb
      go_wp2_with fail
      all_goals (have k1 := h1.out; have k2 := h2.out; go_ret; exact ⟨ret_bool (by unfold Ak.scanB; first | (simp [*]; done) | (simp [*, nat_len]; done) | (simp [*]; intros; omega)), (Ext.refl _).alloc _⟩)
    · have h2 := Lib.hid hb
      clear hb
      go_wp2_with fail
      all_goals (have k1 := h1.out; have k2 := h2.out; go_ret; exact ⟨ret_bool (by unfold Ak.scanB; first | (simp [*]; done) | (simp [*, nat_len]; done) | (simp [*]; intros; omega)), (Ext.refl _).alloc _⟩)
set_option maxRecDepth 100000 in
set_option maxHeartbeats 2000000 in
theorem check_plain2 (w : World) (x : Ak) (a : Option Addr) (cap : Nat) (_h : ChsAt w x.chs a cap) (hs : x.small) (hk : x.kind = 2) : Calls Tryz.prog 34 #[.agg (x.row (.slice a x.chs.length cap))] w fun e w' => e = .returned (.bool x.plainB) ∧ Ext w w' := by
  obtain ⟨_, s1, s2, s3, s4, s5⟩ := hs
  unfold Ak.row
  rw [hk]
  clear hk
  go_enter Tryz.func34, Tryz.ntmps34
  go_wp2_with fail
  refine (key_any _ x.key s1).mono ?_
  rintro e w' ⟨rfl, rfl⟩
  cases hb : keyB x.key
  · have h1 := Lib.hid hb
    clear hb
    go_wp2_with fail
    all_goals (have k1 := h1.out; go_ret; exact ⟨ret_bool (by unfold Ak.plainB; first | (simp [*]; done) | (simp [*, nat_len]; done) | (simp [*]; intros; omega)), (Ext.refl _).alloc _⟩)
  · have h1 := Lib.hid hb
    clear hb
    go_wp2_with fail
    all_goals (have k1 := h1.out; go_ret; exact ⟨ret_bool (by unfold Ak.plainB; first | (simp [*]; done) | (simp [*, nat_len]; done) | (simp [*]; intros; omega)), (Ext.refl _).alloc _⟩)
set_option maxRecDepth 100000 in
set_option maxHeartbeats 2000000 in
theorem check_plain5 (w : World) (x : Ak) (a : Option Addr) (cap : Nat) (_h : ChsAt w x.chs a cap) (hs : x.small) (hk : x.kind = 5) : Calls Tryz.prog 34 #[.agg (x.row (.slice a x.chs.length cap))] w fun e w' => e = .returned (.bool x.plainB) ∧ Ext w w' := by
  obtain ⟨_, s1, s2, s3, s4, s5⟩ := hs
  unfold Ak.row
  rw [hk]
  clear hk
  go_enter Tryz.func34, Tryz.ntmps34
  go_wp2_with fail
  refine (key_any _ x.key s1).mono ?_
  rintro e w' ⟨rfl, rfl⟩
  cases hb : keyB x.key
  · have h1 := Lib.hid hb
    clear hb
    go_wp2_with fail
    all_goals (have k1 := h1.out; go_ret; exact ⟨ret_bool (by unfold Ak.plainB; first | (simp [*]; done) | (simp [*, nat_len]; done) | (simp [*]; intros; omega)), (Ext.refl _).alloc _⟩)
  · have h1 := Lib.hid hb
    clear hb
    go_wp2_with fail
    all_goals (have k1 := h1.out; go_ret; exact ⟨ret_bool (by unfold Ak.plainB; first | (simp [*]; done) | (simp [*, nat_len]; done) | (simp [*]; intros; omega)), (Ext.refl _).alloc _⟩)
set_option maxRecDepth 100000 in
set_option maxHeartbeats 2000000 in
theorem check_batch (w : World) (x : Ak) (a : Option Addr) (cap : Nat) (h : ChsAt w x.chs a cap) (hs : x.small) (hk : x.kind = 4) : Calls Tryz.prog 34 #[.agg (x.row (.slice a x.chs.length cap))] w fun e w' => e = .returned (.bool x.batchB) ∧ Ext w w' := by
  obtain ⟨_, s1, s2, s3, s4, s5⟩ := hs
  unfold Ak.row
  rw [hk]
  clear hk
  by_cases hq : x.key.toList.isEmpty = true ∧ 0 < x.chs.length ∧ x.chs.length ≤ 16
  · obtain ⟨q1, q2, q3⟩ := hq
    have q2' : (0 : Int) < (x.chs.length : Int) := by omega
    have q3' : (x.chs.length : Int) ≤ 16 := by omega
    go_enter Tryz.func34, Tryz.ntmps34
    go_wp2_with fail
    refine (key_any _ x.key s1).mono ?_
    rintro e w' ⟨rfl, rfl⟩
    generalize keyB x.key = b0
    go_wp2_with fail
    refine (ctf_any _ x.chs a cap (h.ext ((Ext.refl _).alloc _))).mono ?_
    rintro e w1 ⟨rfl, hE⟩
    cases hb : chsB x.chs
    · have h1 := Lib.hid hb
      clear hb
      have hE2 := ((Ext.refl w).alloc _).trans hE
      have hE3 := hE2.trans (Ext.refl w1)
      have hc7 : w1.heap[w.heap.size]? = some (.cells (x4 x (.slice a x.chs.length cap)) 66 (0, 0)) := hE.row (heap_alloc_new _ _)
      obtain ⟨g0, g1, g2, g3, g4, g5, g6, g7⟩ := x4_cells hc7
      have f7 : w1.frozen? ⟨w.heap.size, 7, none⟩ = false := by unfold World.frozen?; rw [hc7]; simp
      go_wp2_with fail
      all_goals (have k1 := h1.out; go_ret; exact ⟨ret_bool (by unfold Ak.batchB; first | (simp [*]; done) | (simp [*, nat_len]; done) | (simp [*]; intros; omega)), hE2.setCell (Nat.le_refl _) _⟩)
    · have h1 := Lib.hid hb
      clear hb
      have hE2 := ((Ext.refl w).alloc _).trans hE
      have hc7 : w1.heap[w.heap.size]? = some (.cells (x4 x (.slice a x.chs.length cap)) 66 (0, 0)) := hE.row (heap_alloc_new _ _)
      obtain ⟨g0, g1, g2, g3, g4, g5, g6, g7⟩ := x4_cells hc7
      have f7 : w1.frozen? ⟨w.heap.size, 7, none⟩ = false := by unfold World.frozen?; rw [hc7]; simp
      go_wp2_with fail
      all_goals (have k1 := h1.out; go_ret; exact ⟨ret_bool (by unfold Ak.batchB; first | (simp [*]; done) | (simp [*, nat_len]; done) | (simp [*]; intros; omega)), hE2.setCell (Nat.le_refl _) _⟩)
  · have hf : x.batchB = false := by
      cases hb : x.batchB with
      | false => rfl
      | true =>
        unfold Ak.batchB at hb
        simp only [Bool.and_eq_true, decide_eq_true_eq] at hb
        exact absurd ⟨hb.1, hb.2.1, hb.2.2.1⟩ hq
    have hf' := Lib.hid hf
    clear hf
    have hq' := Lib.hid hq
    clear hq
    by_cases q1 : x.key.toList.isEmpty = true
    · by_cases q2 : 0 < x.chs.length
      · have q3 : ¬ x.chs.length ≤ 16 := fun q3 => hq'.out ⟨q1, q2, q3⟩
        have q2' : (0 : Int) < (x.chs.length : Int) := by omega
        have q3' : ¬ (x.chs.length : Int) ≤ 16 := by omega
        go_enter Tryz.func34, Tryz.ntmps34
        go_wp2_with fail
        refine (key_any _ x.key s1).mono ?_
        rintro e w' ⟨rfl, rfl⟩
        generalize keyB x.key = b0
        go_wp2_with fail
        all_goals (go_ret; exact ⟨ret_bool hf'.out.symm, (Ext.refl _).alloc _⟩)
      · have q2' : ¬ (0 : Int) < (x.chs.length : Int) := by omega
        go_enter Tryz.func34, Tryz.ntmps34
        go_wp2_with fail
        refine (key_any _ x.key s1).mono ?_
        rintro e w' ⟨rfl, rfl⟩
        generalize keyB x.key = b0
        go_wp2_with fail
        all_goals (go_ret; exact ⟨ret_bool hf'.out.symm, (Ext.refl _).alloc _⟩)
    · have q1' : x.key.toList.isEmpty = false := by simpa using q1
      clear q1
      go_enter Tryz.func34, Tryz.ntmps34
      go_wp2_with fail
      refine (key_any _ x.key s1).mono ?_
      rintro e w' ⟨rfl, rfl⟩
      generalize keyB x.key = b0
      go_wp2_with fail
      all_goals (go_ret; exact ⟨ret_bool hf'.out.symm, (Ext.refl _).alloc _⟩)
set_option maxRecDepth 100000 in
set_option maxHeartbeats 2000000 in
theorem check_other (w : World) (x : Ak) (a : Option Addr) (cap : Nat) (hs : x.small) (h1 : x.kind ≠ 1) (h2 : x.kind ≠ 2) (h3 : x.kind ≠ 3) (h4 : x.kind ≠ 4) (h5 : x.kind ≠ 5) (h6 : x.kind ≠ 6) : Calls Tryz.prog 34 #[.agg (x.row (.slice a x.chs.length cap))] w fun e w' => e = .returned (.bool false) ∧ Ext w w' := by
  obtain ⟨_, s1, s2, s3, s4, s5⟩ := hs
  unfold Ak.row
  go_enter Tryz.func34, Tryz.ntmps34
  go_wp2_with fail
  refine (key_any _ x.key s1).mono ?_
  rintro e w' ⟨rfl, rfl⟩
  generalize keyB x.key = b0
  go_wp2_with fail
  go_ret
  exact ⟨rfl, (Ext.refl _).alloc _⟩
theorem check_any (w : World) (x : Ak) (a : Option Addr) (cap : Nat) (h : ChsAt w x.chs a cap) (hs : x.small) : Calls Tryz.prog 34 #[.agg (x.row (.slice a x.chs.length cap))] w fun e w' => e = .returned (.bool x.okB) ∧ Ext w w' := by
  unfold Ak.okB
  by_cases h1 : x.kind = 1
  · rw [if_pos h1]; exact check_put w x a cap h hs h1
  rw [if_neg h1]
  by_cases h3 : x.kind = 3
  · rw [if_pos h3]; exact check_cas w x a cap h hs h3
  rw [if_neg h3]
  by_cases h4 : x.kind = 4
  · rw [if_pos h4]; exact check_batch w x a cap h hs h4
  rw [if_neg h4]
  by_cases h6 : x.kind = 6
  · rw [if_pos h6]; exact check_scan w x a cap h hs h6
  rw [if_neg h6]
  by_cases h2 : x.kind = 2
  · rw [if_pos h2]; exact check_plain2 w x a cap h hs h2
  rw [if_neg h2]
  by_cases h5 : x.kind = 5
  · rw [if_pos h5]; exact check_plain5 w x a cap h hs h5
  rw [if_neg h5]
  exact check_other w x a cap hs h1 h2 h3 h4 h5 h6
end Go.Proofs.YthageoibkeebhaaGreatDoor
