import Derived.Test.YtdkhcamckjidcaaSuf0
import Derived.Test.YtdkhcamckjidcaaKit2
import Derived.Lib.SliceRun
import Derived.Test.YtdkhcamckjidcaaKit3
namespace Go.Proofs.Ytdkhcamckjidcaa
open Go.RowKit
set_option maxRecDepth 100000 in
set_option maxHeartbeats 1000000 in
theorem new_any (x : Int) (w : World) : Calls Try.prog 9 #[.int .u64 x] w fun e w' => e = .returned (.pointer (some ⟨w.heap.size, 0, none⟩)) ∧ w' = w.alloc (.cells (sufZero x) 74) := by
  go_enter Try.func9, Try.ntmps9
  go_wp2_with (first | (refine wpList_build74 rfl _ rfl x rfl ?_) | fail)
  go_ret
  exact ⟨rfl, rfl⟩
set_option maxRecDepth 100000 in
set_option maxHeartbeats 1000000 in
theorem first_any (w : World) (b : Nat) (f m : Int) (R : Nat → List Value) (h : SufAt w b f m R) : Calls Try.prog 12 #[.pointer (some ⟨b, 0, none⟩)] w fun e w' => e = .returned (.int .u64 f) ∧ w' = w := by
  have h0 := h.c0
  clear h
  go_enter Try.func12, Try.ntmps12
  go_wp2
  go_ret
  exact ⟨rfl, rfl⟩
set_option maxRecDepth 100000 in
set_option maxHeartbeats 1000000 in
theorem last_any (w : World) (b : Nat) (f m : Nat) (R : Nat → List Value) (h : SufAt w b f m R) (hm : m ≤ 256) (hf : f + m < 18446744073709551616) : Calls Try.prog 13 #[.pointer (some ⟨b, 0, none⟩)] w fun e w' => e = .returned (.int .u64 ((f : Int) + (m : Int))) ∧ w' = w.drew := by
  have h0 := h.c0
  have h1 := h.c1
  have e1 : IntKind.u64.wrap (m : Int) = (m : Int) := by rw [IntWalk.u64_in _ (by omega)]
  have e2 : IntKind.u64.wrap ((f : Int) + (m : Int)) = (f : Int) + (m : Int) := by rw [IntWalk.u64_in _ (by omega)]
  clear h
  go_enter Try.func13, Try.ntmps13
  go_wp2
  go_still (by kernel_rfl)
  change Exit.then _ _ _ _ w.drew
  go_wp2
  go_ret
  exact ⟨rfl, rfl⟩
set_option maxRecDepth 100000 in
set_option maxHeartbeats 1000000 in
theorem at_any (w : World) (b i : Nat) : Calls Try.prog 26 #[.pointer (some ⟨b, 0, none⟩), .int .u64 (i : Int)] w fun e w' => e = .returned (.pointer (some ⟨b, 2 + i % 256 * 11, none⟩)) ∧ w' = w := by
  have e1 : (i : Int).tmod 256 = ((i % 256 : Nat) : Int) := by rw [Int.tmod_eq_emod_of_nonneg (by omega)]; simp
  have hm : i % 256 < 256 := Nat.mod_lt _ (by decide)
  generalize i % 256 = j at *
  have hj : (j : Int) < 256 := by omega
  go_enter Try.func26, Try.ntmps26
  go_wp2
  go_ret
  exact ⟨rfl, rfl⟩
theorem eql30 (w : World) (a : Option Addr) (n c n' c' : Nat) : (binOp .eql 30 (.slice a n c) (.slice none n' c')).run Try.prog w = .ok (.bool a.isNone) w := Lib.run_eql_slice_nil w _ _ a n c n' c' Try.underlying30
theorem made_row (w : World) (e : TypeId) (size : Nat) : (w.alloc (.cells #[] e)).ownsRow w.heap.size e size (.slice (some ⟨w.heap.size, 0, none⟩) 0 0) 0 [] := World.ownsRow_made w #[] 0 (Nat.le_refl _) (Nat.zero_le _) (by simp)
set_option maxRecDepth 100000 in
set_option maxHeartbeats 1000000 in
/-- slices.Clone at a row of changes. -/
theorem clone_any (w : World) (a : Option Addr) (n cap : Nat) (xs : List Value) (hr : RowIs w 3 (.slice a n cap) n xs) (h1 : ∀ u ∈ xs, u.oneCell' = true) (hn : n * 40 ≤ 140737488351232) :
    Calls Try.prog 25 #[.slice a n cap] w fun e w' => ∃ v, e = .returned v ∧ w'.ownsRow w.heap.size 77 3 v n xs ∧ Ext w w' := by
  have q30 := eql30
  cases a with
  | none =>
    obtain ⟨hl, _, ⟨rfl, a', cap', he, hc⟩ | ⟨b, off, cap', he, _⟩⟩ := hr
    · injection he with e1 _ e3
      subst e1 e3
      obtain rfl := hc rfl
      obtain rfl : xs = [] := List.eq_nil_of_length_eq_zero (by simpa using hl)
      go_enter Try.func25, Try.ntmps25
      go_wp2
      go_ret
      exact ⟨_, rfl, World.ownsRow_nil _ _ _ _, Ext.refl _⟩
    · injection he with e1; cases e1
  | some ad =>
    have hl := hr.2.1
    go_enter Try.func25, Try.ntmps25
    go_wp2_with (at_builtin; refine wpList_append_row rfl (.tmp 5) (.tmp 6) 30 77 rfl Try.underlying30 el77 (w.alloc (.cells #[] 77)) w.heap.size 0 [] _ (by rfl) (made_row w 77 3) (.slice (some ad) n cap) n xs rfl (hr.ext ((Ext.refl w).alloc _)) h1 (by omega) (by omega) (by simp) ?_; intro v' w' hown hb)
    go_ret
    rw [Nat.zero_add, List.nil_append] at hown
    exact ⟨_, rfl, hown, Below.trans ((Ext.refl w).alloc _) hb⟩

set_option maxRecDepth 100000 in
set_option maxHeartbeats 1000000 in
theorem clip30_any (w : World) (a : Option Addr) (n cap : Nat) (hc : n ≤ cap) : Calls Try.prog 27 #[.slice a n cap] w fun e w' => e = .returned (.slice a n n) ∧ w' = w := by
  go_enter Try.func27, Try.ntmps27
  go_wp2
  go_ret
  exact ⟨rfl, rfl⟩
set_option maxRecDepth 100000 in
set_option maxHeartbeats 1000000 in
theorem clip23_any (w : World) (a : Option Addr) (n cap : Nat) (hc : n ≤ cap) : Calls Try.prog 28 #[.slice a n cap] w fun e w' => e = .returned (.slice a n n) ∧ w' = w := by
  go_enter Try.func28, Try.ntmps28
  go_wp2
  go_ret
  exact ⟨rfl, rfl⟩
end Go.Proofs.Ytdkhcamckjidcaa
