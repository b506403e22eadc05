/- A table's Put: what is refused. No condition. -/
import Derived.Test.YtfcpnkalcijflaaGreatDoorTab5
import Derived.BigGuardPart
namespace Go.Proofs.YtfcpnkalcijflaaGreatDoor
open Go.RowKit
theorem empty_iff (s : ByteArray) : s.toList.isEmpty = true ↔ s.size = 0 := by
  rw [List.isEmpty_iff, Lib.toList_data, ← List.length_eq_zero_iff, Array.length_toList]; rfl
theorem empty_not (s : ByteArray) : s.toList.isEmpty = false ↔ s.size ≠ 0 := by
  rw [ne_eq, ← empty_iff, Bool.not_eq_true]
theorem ret_bool {a b : Bool} (h : a = b) : Ending.returned (.bool a) = .returned (.bool b) := by rw [h]
def okeyB (s : ByteArray) : Bool := decide (1 ≤ s.size ∧ s.size ≤ 32)
theorem ocheck_any (w : World) (s : ByteArray) (hs : s.size ≤ 140737488351232) : Calls Tryz.prog 20 #[.string s] w fun e w' => e = .returned (.bool (okeyB s)) ∧ w = w' := by
  go_enter Tryz.func20, Tryz.ntmps20
  go_wp2
  all_goals
    rename_i h
    go_ret
    first | rw [empty_iff] at h | rw [empty_not] at h
    exact ⟨ret_bool (by unfold okeyB; rw [Bool.eq_iff_iff]; simp; omega), rfl⟩
/-- May an entry be put, so tall? -/
def fineB (x : En) : Bool := okeyB x.mark.key && (decide (x.val.size ≤ 256) && (!x.mark.gone || x.val.toList.isEmpty))
def okB (x : En) (tall : Int) : Bool := fineB x && (decide (1 ≤ tall) && decide (tall ≤ 8))
def En.small (x : En) : Prop := x.mark.key.size ≤ 140737488351232 ∧ x.val.size ≤ 140737488351232
theorem ok_false {x : En} {tall : Int} (h : okB x tall = false) : okeyB x.mark.key = false ∨ (okeyB x.mark.key = true ∧ 256 < x.val.size) ∨ (okeyB x.mark.key = true ∧ x.val.size ≤ 256 ∧ x.mark.gone = true ∧ x.val.toList.isEmpty = false) ∨
    (okeyB x.mark.key = true ∧ x.val.size ≤ 256 ∧ (x.mark.gone = false ∨ (x.mark.gone = true ∧ x.val.toList.isEmpty = true)) ∧ (tall < 1 ∨ (1 ≤ tall ∧ 8 < tall))) := by
  unfold okB fineB at h
  cases h1 : okeyB x.mark.key
  · exact .inl rfl
  · rw [h1] at h
    by_cases h2 : x.val.size ≤ 256
    · cases h3 : x.mark.gone
      · rw [h3] at h
        simp [h2] at h
        exact .inr (.inr (.inr ⟨rfl, h2, .inl rfl, by omega⟩))
      · rw [h3] at h
        cases h4 : x.val.toList.isEmpty
        · exact .inr (.inr (.inl ⟨rfl, h2, rfl, rfl⟩))
        · rw [h4] at h
          simp [h2] at h
          exact .inr (.inr (.inr ⟨rfl, h2, .inr ⟨rfl, rfl⟩, by omega⟩))
    · exact .inr (.inl ⟨rfl, by omega⟩)
set_option maxRecDepth 100000 in
set_option maxHeartbeats 1000000 in
theorem put_arg (w : World) (tb hd : Nat) (ns : List Nd) (x : En) (tall : Int) (hS : SkAt w tb hd ns) (hs : x.small) (h : okB x tall = false) : Calls Tryz.prog 6 #[.pointer (some ⟨tb, 0, none⟩), .agg (enRow x), .int .i64 tall] w fun e w' => e = .returned (.int .i64 1) ∧ Ext w w' := by
  obtain ⟨s1, s2⟩ := hs
  have hSa : ∀ o, SkAt (w.alloc o) tb hd ns := fun o => hS.ext ((Ext.refl _).alloc _)
  unfold enRow
  have h' := ok_false h
  clear h
  rcases h' with h1 | ⟨h1, h2⟩ | ⟨h1, h2, h3, h4⟩ | ⟨h1, h2, h3, h4⟩
  · have h1' := Lib.hid h1
    clear h1
    go_enter Tryz.func6, Tryz.ntmps6
    go_wp2_with fail
    refine (there_ok (hSa _)).mono ?_
    rintro e w' ⟨rfl, rfl⟩
    go_wp2_with fail
    refine (ocheck_any _ x.mark.key s1).mono ?_
    rw [h1'.out]
    rintro e w' ⟨rfl, rfl⟩
    go_wp2_with fail
    go_ret
    exact ⟨rfl, (Ext.refl _).alloc _⟩
  · have h1' := Lib.hid h1
    have h2' : (256 : Int) < (x.val.size : Int) := by omega
    clear h1 h2
    go_enter Tryz.func6, Tryz.ntmps6
    go_wp2_with fail
    refine (there_ok (hSa _)).mono ?_
    rintro e w' ⟨rfl, rfl⟩
    go_wp2_with fail
    refine (ocheck_any _ x.mark.key s1).mono ?_
    rw [h1'.out]
    rintro e w' ⟨rfl, rfl⟩
    go_wp2_with fail
    go_ret
    exact ⟨rfl, (Ext.refl _).alloc _⟩
  · have h1' := Lib.hid h1
    have h2' : ¬ (256 : Int) < (x.val.size : Int) := by omega
    clear h1 h2
    go_enter Tryz.func6, Tryz.ntmps6
    go_wp2_with fail
    refine (there_ok (hSa _)).mono ?_
    rintro e w' ⟨rfl, rfl⟩
    go_wp2_with fail
    refine (ocheck_any _ x.mark.key s1).mono ?_
    rw [h1'.out]
    rintro e w' ⟨rfl, rfl⟩
    go_wp2_with fail
    go_ret
    exact ⟨rfl, (Ext.refl _).alloc _⟩
  · have h1' := Lib.hid h1
    have h2' : ¬ (256 : Int) < (x.val.size : Int) := by omega
    clear h1 h2
    rcases h3 with h3 | ⟨h3, h5⟩
    all_goals
      rcases h4 with h4 | ⟨h4, h6⟩
      all_goals
        go_enter Tryz.func6, Tryz.ntmps6
        go_wp2_with fail
        refine (there_ok (hSa _)).mono ?_
        rintro e w' ⟨rfl, rfl⟩
        go_wp2_with fail
        refine (ocheck_any _ x.mark.key s1).mono ?_
        rw [h1'.out]
        rintro e w' ⟨rfl, rfl⟩
        go_wp2_with fail
        all_goals (go_ret; exact ⟨rfl, (Ext.refl _).alloc _⟩)
end Go.Proofs.YtfcpnkalcijflaaGreatDoor
