import Derived.Test.YtjkikpfccmhfmaaMath
import Derived.WalkKit
import Derived.Lib.Hide
namespace Go.Proofs.Ytjkikpfccmhfmaa
open Go.RowKit
theorem xor_max (s : Nat) (h : s < 4294967296) : 4294967295 ^^^ s = 4294967295 - s := by
  apply Nat.eq_of_testBit_eq
  intro i
  have e : 4294967295 - s = 2 ^ 32 - (s + 1) := by omega
  rw [e, Nat.testBit_two_pow_sub_succ (by simpa using h), Nat.testBit_xor, show (4294967295 : Nat) = 2 ^ 32 - 1 by decide, Nat.testBit_two_pow_sub_one]
  by_cases hi : i < 32
  · simp [hi]
  · have : s.testBit i = false := Nat.testBit_lt_two_pow (Nat.lt_of_lt_of_le h (Nat.le_trans (by decide : 4294967296 ≤ 2 ^ 32) (Nat.pow_le_pow_right (by decide) (by omega))))
    simp [hi, this]
theorem xor_maxi (s : Nat) (h : s < 4294967296) : bits .xor .u32 IntKind.u32.max (s : Int) = ((Crc.inv s : Nat) : Int) := by
  have := u32_xor_nat 4294967295 s (by decide) h
  rw [show IntKind.u32.max = ((4294967295 : Nat) : Int) by rfl, this, xor_max s h]; rfl
theorem xor8 (n c : Nat) (hc : c < 256) : bits .xor .u8 ((n : Int) % 256) (c : Int) = ((n % 256 ^^^ c : Nat) : Int) := by
  rw [show ((n : Int) % 256) = ((n % 256 : Nat) : Int) by simp]
  exact u8_xor_nat _ _ (Nat.mod_lt _ (by decide)) hc
theorem xor8_lt (n c : Nat) (hc : c < 256) : n % 256 ^^^ c < 256 := Nat.xor_lt_two_pow (n := 8) (Nat.mod_lt _ (by decide)) hc
theorem shr8 (n m : Nat) (hn : n < 4294967296) (hm : m < 4294967296) : bits .xor .u32 ((n : Int) / 256) (m : Int) = ((n / 256 ^^^ m : Nat) : Int) := by
  rw [show ((n : Int) / 256) = ((n / 256 : Nat) : Int) by simp]
  exact u32_xor_nat _ _ (by omega) hm
theorem ret_int {k : IntKind} {a b : Int} (h : a = b) : Ending.returned (.int k a) = .returned (.int k b) := by rw [h]
theorem one_lt (T : Nat → Nat) (hT : ∀ i, i < 256 → T i < 4294967296) (n c : Nat) (hn : n < 4294967296) (hc : c < 256) : Crc.one T n c < 4294967296 := by
  unfold Crc.one
  exact Nat.xor_lt_two_pow (n := 32) (by omega) (hT _ (xor8_lt _ _ hc))
theorem run_lt (T : Nat → Nat) (hT : ∀ i, i < 256 → T i < 4294967296) : ∀ (l : List Nat) (n : Nat), n < 4294967296 → (∀ c ∈ l, c < 256) → Crc.run T n l < 4294967296
  | [], n, hn, _ => hn
  | c :: l, n, hn, h => run_lt T hT l _ (one_lt T hT n c hn (h c (by simp))) (fun x hx => h x (by simp [hx]))
theorem run_snoc (T : Nat → Nat) (n : Nat) (l : List Nat) (k : Nat) (h : k < l.length) : Crc.run T n (l.take (k + 1)) = Crc.one T (Crc.run T n (l.take k)) (l.getD k 0) := by
  unfold Crc.run
  rw [List.take_succ_eq_append_getElem h, List.foldl_append]
  simp [List.getD, h]
theorem and_one (n : Nat) : n &&& 1 = n % 2 := Nat.and_one_is_mod n
theorem step_u32 (n : Nat) (h : n < 4294967296) : bits .xor .u32 ((n : Int) / 2) (bits .and .u32 2197175160 (-bits .and .u32 (n : Int) 1 % 4294967296)) = ((Crc.stp n : Nat) : Int) := by
  have e1 : bits .and .u32 (n : Int) 1 = ((n % 2 : Nat) : Int) := by
    have := u32_and_nat n 1 h (by decide); rw [and_one] at this; exact this
  rw [e1]
  have hx : ∀ m : Nat, m < 4294967296 → bits .xor .u32 ((n : Int) / 2) (m : Int) = ((n / 2 ^^^ m : Nat) : Int) := by
    intro m hm
    rw [show ((n : Int) / 2) = ((n / 2 : Nat) : Int) by simp]
    exact u32_xor_nat _ _ (by omega) hm
  rcases Nat.mod_two_eq_zero_or_one n with e | e
  · rw [e]
    have e2 : bits .and .u32 2197175160 (-((0 : Nat) : Int) % 4294967296) = ((0 : Nat) : Int) := by decide +kernel
    rw [e2, hx 0 (by decide)]
    unfold Crc.stp; rw [if_neg (by omega)]
  · rw [e]
    have e2 : bits .and .u32 2197175160 (-((1 : Nat) : Int) % 4294967296) = ((2197175160 : Nat) : Int) := by decide +kernel
    rw [e2, hx _ (by decide)]
    unfold Crc.stp; rw [if_pos e]
theorem it_step (j x : Nat) : Crc.it (j + 1) x = Crc.stp (Crc.it j x) := by rw [Crc.it_add]; rfl
end Go.Proofs.Ytjkikpfccmhfmaa
