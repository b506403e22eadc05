/- Helpers of the laws of bucketlinelaw07: fine, entry. No condition. -/
import Derived.Test.YthhmehkclgmppaaEn
namespace Go.Proofs.Ythhmehkclgmppaa
open Go.RowKit
set_option maxHeartbeats 1000000 in
theorem fine_any (w : World) (x : En) (hs : x.small) : Calls Try.prog 18 #[.agg (enRow x)] w fun e w' => e = .returned (.bool (fineB x)) ∧ Ext w w' := by
  obtain ⟨s1, s2⟩ := hs
  unfold enRow
  cases h1 : okeyB x.mark.key with
  | false =>
    have hf : fineB x = false := by unfold fineB; rw [h1]; rfl
    rw [hf]
    have h1' := Lib.hid h1
    clear h1 hf
    go_enter Try.func18, Try.ntmps18
    go_wp2_with fail
    refine (ocheck_any _ x.mark.key s1).mono ?_
    rw [h1'.out]
    rintro e w' ⟨rfl, rfl⟩
    go_wp2_with fail
    go_ret
    exact ⟨rfl, (Ext.refl _).alloc _⟩
  | true =>
    by_cases h2 : x.val.size ≤ 256
    · have hi : (x.val.size : Int) ≤ 256 := by omega
      cases h3 : x.mark.gone
      · have hf : fineB x = true := by unfold fineB; rw [h1, h3]; simp [h2]
        rw [hf]
        have h1' := Lib.hid h1
        clear h1 hf h2
        go_enter Try.func18, Try.ntmps18
        go_wp2_with fail
        refine (ocheck_any _ x.mark.key s1).mono ?_
        rw [h1'.out]
        rintro e w' ⟨rfl, rfl⟩
        go_wp2_with fail
        go_ret
        exact ⟨rfl, (Ext.refl _).alloc _⟩
      · have hf : fineB x = x.val.toList.isEmpty := by unfold fineB; rw [h1, h3]; simp [h2]
        rw [hf]
        have h1' := Lib.hid h1
        clear h1 hf h2
        cases h4 : x.val.toList.isEmpty
        all_goals
          go_enter Try.func18, Try.ntmps18
          go_wp2_with fail
          refine (ocheck_any _ x.mark.key s1).mono ?_
          rw [h1'.out]
          rintro e w' ⟨rfl, rfl⟩
          go_wp2_with fail
          go_ret
          exact ⟨rfl, (Ext.refl _).alloc _⟩
    · have hi : ¬ (x.val.size : Int) ≤ 256 := by omega
      have hf : fineB x = false := by unfold fineB; rw [h1]; simp [h2]
      rw [hf]
      have h1' := Lib.hid h1
      clear h1 hf h2
      go_enter Try.func18, Try.ntmps18
      go_wp2_with fail
      refine (ocheck_any _ x.mark.key s1).mono ?_
      rw [h1'.out]
      rintro e w' ⟨rfl, rfl⟩
      go_wp2_with fail
      go_ret
      exact ⟨rfl, (Ext.refl _).alloc _⟩
/-- What 'entry' makes. -/
def mkEn (k : ByteArray) (s : Nat) (v : ByteArray) : En := ⟨⟨k, s, v.toList.isEmpty⟩, v⟩
set_option maxHeartbeats 1000000 in
theorem entry_any (w : World) (k : ByteArray) (s : Nat) (v : ByteArray) : Calls Try.prog 22 #[.string k, .int .u64 (s : Int), .string v] w fun e w' => e = .returned (.agg (enRow (mkEn k s v))) ∧ Ext w w' := by
  unfold mkEn
  cases h4 : v.toList.isEmpty
  all_goals
    go_enter Try.func22, Try.ntmps22
    go_wp2_with fail
    have hE : Ext w (w.alloc (.cells (enRow ⟨⟨k, s, v.toList.isEmpty⟩, v⟩) 26)) := (Ext.refl _).alloc _
    have hset := heap_alloc_new w (.cells (enRow ⟨⟨k, s, v.toList.isEmpty⟩, v⟩) 26)
    obtain ⟨b0, b1, b2, b3⟩ := en_cells hset
    rw [h4] at hE b0 b1 b2 b3
    simp only [enRow] at hE b0 b1 b2 b3
    generalize w.alloc _ = W at *
    exact bodyPost_ret (v := .agg (enRow ⟨⟨k, s, _⟩, v⟩)) (by simp [results, Try.results22, go_sem, b0, b1, b2, b3, enRow]) rfl ⟨rfl, hE⟩
end Go.Proofs.Ythhmehkclgmppaa
