import Derived.Test.YtdkhcamckjidcaaSuf3
namespace Go.Proofs.Ytdkhcamckjidcaa
open Go.RowKit
set_option maxRecDepth 100000 in
set_option maxHeartbeats 1000000 in
theorem heard_nil (w : World) (i : Int) : Calls Try.prog 11 #[.pointer none, .int .u64 i] w fun e w' => e = .returned (.int .i64 2) ∧ w' = w := by
  go_enter Try.func11, Try.ntmps11
  go_wp2
  go_ret
  exact ⟨rfl, rfl⟩
set_option maxRecDepth 100000 in
set_option maxHeartbeats 1000000 in
theorem heard_arg (w : World) (b f m : Nat) (R : Nat → List Value) (h : SufAt w b f m R) (hm : m ≤ 256) (hf : f + m < 18446744073709551615) (i : Nat) (hi : f + m < i) :
    Calls Try.prog 11 #[.pointer (some ⟨b, 0, none⟩), .int .u64 (i : Int)] w fun e w' => e = .returned (.int .i64 1) ∧ w' = w.drew := by
  have c3 := h.c3
  have hlt : (f : Int) + (m : Int) < (i : Int) := by omega
  go_enter Try.func11, Try.ntmps11
  go_wp2_with fail
  refine (last_any w b f m R h hm (by omega)).mono ?_
  rintro e w' ⟨rfl, rfl⟩
  go_wp2
  go_ret
  exact ⟨rfl, rfl⟩
theorem at_any' (w : World) (b n : Nat) (i : Int) (h : i = (n : Int)) : Calls Try.prog 26 #[.pointer (some ⟨b, 0, none⟩), .int .u64 i] w fun e w' => e = .returned (.pointer (some ⟨b, 2 + n % 256 * 11, none⟩)) ∧ w' = w := by
  subst h; exact at_any w b n
theorem zItem_one : zItem.toArray.all (·.oneCell') = true := by kernel_rfl
def firstOf (w : World) (b : Nat) : Nat := match w.cell? ⟨b, 0, none⟩ with | some (.int _ n) => n.toNat | _ => 0
theorem SufAt.first {w : World} {b : Nat} {f : Nat} {m : Int} {R : Nat → List Value} (h : SufAt w b f m R) : firstOf w b = f := by
  unfold firstOf; rw [h.c0]; simp
set_option maxRecDepth 100000 in
set_option maxHeartbeats 1000000 in
theorem heard_ok (w : World) (b f m : Nat) (R : Nat → List Value) (h : SufAt w b f m R) (hm : m ≤ 256) (hf : f + m < 18446744073709551615) (i : Nat) (hi : i ≤ f + m) :
    Calls Try.prog 11 #[.pointer (some ⟨b, 0, none⟩), .int .u64 (i : Int)] w fun e w' => e = .returned (.int .i64 0) ∧ ∃ R', SufAt w' b (max f i : Nat) ((f + m - max f i : Nat) : Int) R' ∧ (∀ k, max f i < k → k ≤ f + m → R' (k % 256) = R (k % 256)) ∧ OffB (fun k => k = b) w w' := by
  have c3 := h.c3
  have hlt : (i : Int) ≤ (f : Int) + (m : Int) := by omega
  go_enter Try.func11, Try.ntmps11
  go_wp2_with fail
  refine (last_any w b f m R h hm (by omega)).mono ?_
  rintro e w' ⟨rfl, rfl⟩
  have hSd : SufAt w.drew b f m R := h.off (B := fun _ => False) (.of_ext ((Ext.refl _).drew)) id
  have hEd : OffB (fun k => k = b) w w.drew := OffB.of_ext (Ext.refl _).drew
  obtain ⟨W, hW⟩ : ∃ W, W = w.drew := ⟨_, rfl⟩
  rw [← hW] at hSd hEd ⊢
  clear c3 hW
  go_wp2
  go_loopw [50] (fun _ wr => ∃ (k : Nat) (R' : Nat → List Value), f ≤ k ∧ k ≤ max f i ∧ SufAt wr b k ((f + m - k : Nat) : Int) R' ∧ (∀ j, k < j → j ≤ f + m → R' (j % 256) = R (j % 256)) ∧ OffB (fun k => k = b) w wr) (fun _ wr => i - firstOf wr b)
  case atStart => exact ⟨f, R, Nat.le_refl _, by omega, by rw [show f + m - f = m by omega]; exact hSd, fun _ _ _ => rfl, hEd⟩
  case round =>
    obtain ⟨k, R', hfk, hk, hS, hR, hE⟩ := hrel
    have c0 := hS.c0
    have c1 := hS.c1
    by_cases hki : k < i
    · have h1 : (k : Int) < (i : Int) := by omega
      have hp := hS.put0 ((k : Int) + 1)
      have f0 := hS.free 0
      have e1 : IntKind.u64.wrap ((k : Int) + 1) = (k : Int) + 1 := by rw [IntWalk.u64_in _ (by omega)]
      have p0 := hp.c0
      have hE1 := OffB.setCell (p := ⟨b, 0, none⟩) hE rfl (.int .u64 ((k : Int) + 1))
      go_wp2_with fail
      generalize wr.setCell ⟨b, 0, none⟩ (.int .u64 ((k : Int) + 1)) = W1 at *
      refine (at_any' W1 b (k + 1) _ (by simp)).mono ?_
      rintro e w' ⟨rfl, rfl⟩
      have hm1 : (k + 1) % 256 < 256 := Nat.mod_lt _ (by decide)
      have hjj : Hid (∃ j, j = (k + 1) % 256) := Lib.hid ⟨_, rfl⟩
      obtain ⟨j, hj⟩ := hjj.out
      rw [← hj] at hm1 ⊢
      have hj' := Lib.hid hj
      clear hj hjj
      have hp2 := hp.putR j hm1 zItem rfl
      have hE2 : OffB (fun k => k = b) w (w'.setCells b (2 + j * 11) zItem) := OffB.setCells (B := fun k => k = b) hE1 (b := b) rfl _ _
      have hth := hp.there j hm1
      go_wp2_with (refine wpList_store_mid (by rfl) 34 (.tmp 50) (.tmp 49) (by rfl) b (2 + j * 11) zItem.toArray (by rfl) (by rfl) hth info34 zItem_one ?_; clear hp hth c0 c1 hE1 p0 f0; generalize w'.setCells b (2 + j * 11) zItem.toArray.toList = W2 at *; have c1 := hp2.c1; have f1 := hp2.free 1; have e2 : IntKind.i64.wrap (((f + m - k : Nat) : Int) - 1) = ((f + m - (k + 1) : Nat) : Int) := by (rw [IntWalk.i64_in _ (by omega)]; omega))
      have hcl := And.intro hp2 hE2
      go_roundw
      case rel =>
        refine ⟨k + 1, _, by omega, by omega, by have := hp2.put1 ((f + m - (k + 1) : Nat) : Int); simpa using this, fun a h3 h4 => ?_, hE2.setCell rfl _⟩
        have hne : a % 256 ≠ j := by rw [hj'.out]; omega
        simp only [if_neg hne]
        exact hR a (by omega) h4
      case measure =>
        have z1 := (show SufAt wr b (k : Nat) _ _ from hS).first
        have z2 := hp2.put1 ((f + m - (k + 1) : Nat) : Int)
        have z3 := SufAt.first (f := k + 1) (by simpa using z2)
        rw [z1, z3]; omega
    · have h1 : ¬ (k : Int) < (i : Int) := by omega
      go_wp2
      go_ret
      obtain rfl : k = max f i := by omega
      exact ⟨rfl, R', hS, hR, hE⟩
end Go.Proofs.Ytdkhcamckjidcaa
