/- The document's Check and Fine. No condition. -/
import Derived.Test.YtfcpnkalcijflaaGreatDoorRg0
import Derived.Test.YtfcpnkalcijflaaGreatDoorPx7
namespace Go.Proofs.YtfcpnkalcijflaaGreatDoor
open Go.RowKit
set_option maxHeartbeats 2000000
theorem checkR_any (w : World) (s : ByteArray) (hs : s.size ≤ 140737488351232) : Calls Tryz.prog 66 #[.string s] w fun e w' => e = .returned (.bool (okeyB s)) ∧ w = w' := by
  by_cases h1 : 1 ≤ s.size
  · by_cases h2 : s.size ≤ 32
    · have hr : okeyB s = true := by unfold okeyB; exact decide_eq_true ⟨h1, h2⟩
      have h1i : (1 : Int) ≤ (s.size : Int) := by omega
      have h2i : (s.size : Int) ≤ 32 := by omega
      rw [hr]
      clear hr
      go_enter Tryz.func66, Tryz.ntmps66
      go_wp2_with fail
      go_ret
      exact ⟨rfl, rfl⟩
    · have hr : okeyB s = false := by unfold okeyB; exact decide_eq_false (fun h => h2 h.2)
      have h1i : (1 : Int) ≤ (s.size : Int) := by omega
      have h2i : ¬ (s.size : Int) ≤ 32 := by omega
      rw [hr]
      clear hr
      go_enter Tryz.func66, Tryz.ntmps66
      go_wp2_with fail
      go_ret
      exact ⟨rfl, rfl⟩
  · have hr : okeyB s = false := by unfold okeyB; exact decide_eq_false (fun h => h1 h.1)
    have h1i : ¬ (1 : Int) ≤ (s.size : Int) := by omega
    rw [hr]
    clear hr
    go_enter Tryz.func66, Tryz.ntmps66
    go_wp2_with fail
    go_ret
    exact ⟨rfl, rfl⟩
theorem fineR_any (w : World) (x : En) (hs : x.small) : Calls Tryz.prog 22 #[.agg (enRow x)] w fun e w' => e = .returned (.bool (fineB x)) ∧ Ext w w' := by
  obtain ⟨s1, s2⟩ := hs
  unfold enRow
  cases h1 : okeyB x.mark.key with
  | false =>
    have hf : fineB x = false := by unfold fineB; rw [h1]; rfl
    rw [hf]
    have h1' := Lib.hid h1
    clear h1 hf
    go_enter Tryz.func22, Tryz.ntmps22
    go_wp2_with fail
    refine (checkR_any _ x.mark.key s1).mono ?_
    rw [h1'.out]
    rintro e w' ⟨rfl, rfl⟩
    go_wp2_with fail
    go_ret
    exact ⟨rfl, (Ext.refl _).alloc _⟩
  | true =>
    by_cases h2 : x.val.size ≤ 256
    · have hi : (x.val.size : Int) ≤ 256 := by omega
      cases h3 : x.mark.gone
      · have hf : fineB x = true := by unfold fineB; rw [h1, h3]; simp [h2]
        rw [hf]
        have h1' := Lib.hid h1
        clear h1 hf h2
        go_enter Tryz.func22, Tryz.ntmps22
        go_wp2_with fail
        refine (checkR_any _ x.mark.key s1).mono ?_
        rw [h1'.out]
        rintro e w' ⟨rfl, rfl⟩
        go_wp2_with fail
        go_ret
        exact ⟨rfl, (Ext.refl _).alloc _⟩
      · have hf : fineB x = x.val.toList.isEmpty := by unfold fineB; rw [h1, h3]; simp [h2]
        rw [hf]
        have h1' := Lib.hid h1
        clear h1 hf h2
        cases h4 : x.val.toList.isEmpty
        all_goals
          go_enter Tryz.func22, Tryz.ntmps22
          go_wp2_with fail
          refine (checkR_any _ x.mark.key s1).mono ?_
          rw [h1'.out]
          rintro e w' ⟨rfl, rfl⟩
          go_wp2_with fail
          go_ret
          exact ⟨rfl, (Ext.refl _).alloc _⟩
    · have hi : ¬ (x.val.size : Int) ≤ 256 := by omega
      have hf : fineB x = false := by unfold fineB; rw [h1]; simp [h2]
      rw [hf]
      have h1' := Lib.hid h1
      clear h1 hf h2
      go_enter Tryz.func22, Tryz.ntmps22
      go_wp2_with fail
      refine (checkR_any _ x.mark.key s1).mono ?_
      rw [h1'.out]
      rintro e w' ⟨rfl, rfl⟩
      go_wp2_with fail
      go_ret
      exact ⟨rfl, (Ext.refl _).alloc _⟩
end Go.Proofs.YtfcpnkalcijflaaGreatDoor
