/- models.Check. No condition. -/
import Derived.Test.YtmopjmhapeinjaaGreatDoorGrA1
import Derived.BigGuardPart
import Derived.Lib.Strings
namespace Go.Proofs.YtmopjmhapeinjaaGreatDoor
open Go.RowKit
theorem empty_iff (s : ByteArray) : s.toList.isEmpty = true ↔ s.size = 0 := by
  rw [List.isEmpty_iff, Lib.toList_data, ← List.length_eq_zero_iff, Array.length_toList]; rfl
theorem empty_not (s : ByteArray) : s.toList.isEmpty = false ↔ s.size ≠ 0 := by
  rw [ne_eq, ← empty_iff, Bool.not_eq_true]
theorem empty_same (s : ByteArray) : s.toList.isEmpty = decide (s.size = 0) := by
  rw [Bool.eq_iff_iff, empty_iff, decide_eq_true_iff]
theorem ret_bool {a b : Bool} (h : a = b) : Ending.returned (.bool a) = .returned (.bool b) := by rw [h]
def okeyB (s : ByteArray) : Bool := decide (1 ≤ s.size ∧ s.size ≤ 32)
def keyB (s : ByteArray) : Bool := decide (1 ≤ s.size ∧ s.size ≤ 24)
def valB (s : ByteArray) : Bool := decide (s.size ≤ 256)
def Ch.okB (c : Ch) : Bool := keyB c.key && (valB c.val && (!c.gone || c.val.toList.isEmpty))
theorem ocheck_any (w : World) (s : ByteArray) (hs : s.size ≤ 140737488351232) : Calls Tryz.prog 154 #[.string s] w fun e w' => e = .returned (.bool (okeyB s)) ∧ w = w' := by
  go_enter Tryz.func154, Tryz.ntmps154
  go_wp2
  all_goals
    rename_i h
    go_ret
    first | rw [empty_iff] at h | rw [empty_not] at h
    exact ⟨ret_bool (by unfold okeyB; rw [Bool.eq_iff_iff]; simp; omega), rfl⟩
theorem key_any (w : World) (s : ByteArray) (hs : s.size ≤ 140737488351232) : Calls Tryz.prog 101 #[.string s] w fun e w' => e = .returned (.bool (keyB s)) ∧ w = w' := by
  cases hb : okeyB s
  all_goals
    go_enter Tryz.func101, Tryz.ntmps101
    go_wp2_with fail
    refine (ocheck_any _ s hs).mono ?_
    rw [hb]
    have hb' := Lib.hid hb
    clear hb
    rintro e w' ⟨rfl, rfl⟩
    go_wp2
    go_ret
    have hb := hb'.out
    exact ⟨ret_bool (by unfold okeyB at hb; unfold keyB; rw [Bool.eq_iff_iff]; simp at hb ⊢; omega), rfl⟩
theorem value_any (w : World) (s : ByteArray) (hs : s.size ≤ 140737488351232) : Calls Tryz.prog 102 #[.string s] w fun e w' => e = .returned (.bool (valB s)) ∧ w = w' := by
  go_enter Tryz.func102, Tryz.ntmps102
  go_wp2
  go_ret
  exact ⟨ret_bool (by unfold valB; rw [Bool.eq_iff_iff]; simp; omega), rfl⟩
theorem change_any (w : World) (c : Ch) (hc : c.small) : Calls Tryz.prog 105 #[.agg c.cells.toArray] w fun e w' => e = .returned (.bool c.okB) ∧ Ext w w' := by
  obtain ⟨h1, h2⟩ := hc
  unfold Ch.cells
  unfold Ch.okB
  cases hk : keyB c.key <;> cases hv : valB c.val <;> cases hg : c.gone <;> cases hz : c.val.toList.isEmpty
  all_goals
    go_enter Tryz.func105, Tryz.ntmps105
    have hk' := Lib.hid hk
    have hv' := Lib.hid hv
    clear hk hv
    go_wp2_with fail
    refine (key_any _ c.key h1).mono ?_
    rw [hk'.out]
    rintro e w' ⟨rfl, rfl⟩
    go_wp2_with fail
    try
      refine (value_any _ c.val h2).mono ?_
      rw [hv'.out]
      rintro e w' ⟨rfl, rfl⟩
      go_wp2_with fail
    go_ret
    exact ⟨rfl, (Ext.refl _).alloc _⟩
def Ch.badB (c : Ch) : Bool := !c.okB
theorem check1_any (w : World) (c : Ch) (hc : c.small) : Calls Tryz.prog 104 #[.agg c.cells.toArray] w fun e w' => e = .returned (.bool c.badB) ∧ Ext w w' := by
  have hb : c.badB = !c.okB := rfl
  unfold Ch.cells
  rw [hb]
  cases hk : c.okB
  all_goals
    go_enter Tryz.func104, Tryz.ntmps104
    have hk' := Lib.hid hk
    clear hk hb
    go_wp2_with fail
    refine (change_any _ c hc).mono ?_
    rw [hk'.out]
    rintro e w' ⟨rfl, hE⟩
    go_wp2_with fail
    go_ret
    exact ⟨rfl, ((Ext.refl _).alloc _).trans hE⟩
def chsB (l : List Ch) : Bool := l.all Ch.okB
/-- What IndexFunc tells: the first change that may not be, or -1. -/
def firstBad (l : List Ch) (r : Int) : Prop := (r = -1 ∧ chsB l = true) ∨ (0 ≤ r ∧ chsB l = false)
set_option maxRecDepth 100000 in
theorem ixf_any (w : World) (l : List Ch) (a : Option Addr) (cap : Nat) (h : ChsAt w l a cap) : Calls Tryz.prog 155 #[.slice a l.length cap, .func (.func 104) #[] #[]] w fun e w' => ∃ r, e = .returned (.int .i64 r) ∧ firstBad l r ∧ Ext w w' := by
  obtain ⟨hR, hn, hs⟩ := h
  have hn9 : l.length ≤ 9223372036854775807 := by omega
  go_enter Tryz.func155, Tryz.ntmps155
  go_wp2_with fail
  go_loopw [8] (fun i wr => ∃ k : Nat, k ≤ l.length ∧ i = .int .i64 k ∧ chsB (l.take k) = true ∧ Ext w wr) (fun i _ => l.length - (intOf i).toNat)
  case atStart => exact ⟨0, by omega, rfl, rfl, Ext.refl _⟩
  case round =>
    obtain ⟨k, hk, rfl, hok, hE⟩ := hrel
    have hok' := Lib.hid hok
    clear hok
    by_cases hlt : k < l.length
    · have hli : (k : Int) < (l.length : Int) := by omega
      obtain ⟨c, hc⟩ : ∃ c, l[k]? = some c := ⟨_, List.getElem?_eq_getElem hlt⟩
      have hcs := hs c (List.mem_of_getElem? hc)
      obtain ⟨b, off, hat⟩ := (hR.ext hE).at
      obtain ⟨rfl, _, hd⟩ := hat (by omega)
      have hrg := ch_range hd hc
      have htk : l.take (k + 1) = l.take k ++ [c] := by rw [List.take_add_one, hc]; rfl
      have htk' := Lib.hid htk
      have hc' := Lib.hid hc
      clear hd hat htk hc
      cases hb : c.badB
      · have hb' := Lib.hid hb
        clear hb
        go_wp2_with (first | (refine wpList_load_mid (by rfl) 93 (.tmp 14) (by rfl) b (off + k * 3) (by rfl) c.cells _ hrg Tryz.underlying93 rfl (by exact info_ch) ?_) | fail)
        refine (check1_any _ c hcs).mono ?_
        rw [hb'.out]
        rintro e w' ⟨rfl, hE2⟩
        go_wp2_with fail
        go_roundw
        case rel =>
          have hbo : c.okB = true := by have := hb'.out; unfold Ch.badB at this; simpa using this
          exact ⟨k + 1, by omega, by go_num, by rw [htk'.out]; unfold chsB; rw [List.all_append]; have := hok'.out; unfold chsB at this; rw [this]; simp [hbo], hE.trans hE2⟩
        case measure => simp [intOf]; omega
      · have hb' := Lib.hid hb
        clear hb
        go_wp2_with (first | (refine wpList_load_mid (by rfl) 93 (.tmp 14) (by rfl) b (off + k * 3) (by rfl) c.cells _ hrg Tryz.underlying93 rfl (by exact info_ch) ?_) | fail)
        refine (check1_any _ c hcs).mono ?_
        rw [hb'.out]
        rintro e w' ⟨rfl, hE2⟩
        go_wp2_with fail
        go_ret
        refine ⟨k, rfl, .inr ⟨by omega, ?_⟩, hE.trans hE2⟩
        unfold chsB
        rw [List.all_eq_false]
        have hbo : c.okB = false := by have := hb'.out; unfold Ch.badB at this; simpa using this
        exact ⟨c, List.mem_of_getElem? hc'.out, by simp [hbo]⟩
    · have hli : ¬ (k : Int) < (l.length : Int) := by omega
      obtain rfl : k = l.length := by omega
      go_wp2_with fail
      go_ret
      exact ⟨_, rfl, .inl ⟨rfl, by have := hok'.out; rw [List.take_length] at this; exact this⟩, hE⟩
set_option maxRecDepth 100000 in
theorem ctf_any (w : World) (l : List Ch) (a : Option Addr) (cap : Nat) (h : ChsAt w l a cap) : Calls Tryz.prog 103 #[.slice a l.length cap, .func (.func 104) #[] #[]] w fun e w' => e = .returned (.bool (!chsB l)) ∧ Ext w w' := by
  go_enter Tryz.func103, Tryz.ntmps103
  go_wp2_with fail
  refine (ixf_any _ l a cap h).mono ?_
  rintro e w' ⟨r, rfl, hf, hE⟩
  have hE' := hE
  rcases hf with ⟨rfl, hb⟩ | ⟨h0, hb⟩
  · have hb' := Lib.hid hb
    clear hb
    go_wp2_with fail
    go_ret
    exact ⟨ret_bool (by rw [hb'.out]; rfl), hE⟩
  · have hb' := Lib.hid hb
    clear hb
    go_wp2_with fail
    go_ret
    exact ⟨ret_bool (by rw [hb'.out]; simp <;> omega), hE⟩
end Go.Proofs.YtmopjmhapeinjaaGreatDoor
