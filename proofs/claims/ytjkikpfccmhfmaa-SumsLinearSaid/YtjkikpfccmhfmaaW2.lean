import Derived.Test.YtjkikpfccmhfmaaW1
namespace Go.Proofs.Ytjkikpfccmhfmaa
open Go.RowKit
theorem el5 : ElemIs Try.prog 5 1 1 := ElemIs.mk (z := .int .u8 0) (by kernel_rfl) rfl (by decide)
theorem BytesAt.of_own {w : World} {base : Nat} {v : Value} {n : Nat} {bs : List Nat} (h : w.ownsRow base 5 1 v n (u8s bs)) (hb : ∀ c ∈ bs, c < 256) : BytesAt w v bs := by
  have hl : bs.length = n := by have := h.1; simpa [u8s] using this
  exact ⟨hb, by rw [hl]; exact RowIs.of_own h⟩

set_option maxRecDepth 100000 in
set_option maxHeartbeats 400000 in
theorem repeat_any (c n : Nat) (w : World) (hc : c < 256) (hn : n ≤ 100000) :
    Calls Try.prog 23 #[.int .u8 c, .int .i64 n] w fun e w' => ∃ v, e = .returned v ∧ BytesAt w' v (List.replicate n c) ∧ Ext w w' := by
  go_enter Try.func23, Try.ntmps23
  go_wp2
  go_loopw [5, 6] (fun v i wr => ∃ k : Nat, k ≤ n ∧ i = .int .i64 k ∧ wr.ownsRow w.heap.size 5 1 v k (u8s (List.replicate k c)) ∧ Ext w wr) (fun _ i _ => n - (intOf i).toNat)
  case atStart => exact ⟨0, by omega, rfl, World.ownsRow_nil _ _ _ _, Ext.refl _⟩
  case round =>
    obtain ⟨k, hk, rfl, hown, hbel⟩ := hrel
    have hsz := hbel.size
    by_cases hlt : k < n
    · go_wp2_with (at_builtin; refine wpList_append_lit rfl _ _ 26 5 rfl Try.underlying26 el5 _ w.heap.size _ _ _ rfl hown #[.int .u8 c] rfl rfl (by simp [Value.oneCell']) (by omega) (by omega) hsz ?_; intro v' w1 hown' hb1)
      go_roundw
      case rel => exact ⟨k + 1, by omega, by go_num, by rw [List.replicate_succ', u8s_append]; exact hown', Below.trans hbel hb1⟩
      case measure => simp [intOf]; omega
    · obtain rfl : k = n := by omega
      go_wp2
      go_ret
      exact ⟨_, rfl, BytesAt.of_own hown (fun x hx => by rw [List.eq_of_mem_replicate hx]; exact hc), hbel⟩
end Go.Proofs.Ytjkikpfccmhfmaa
