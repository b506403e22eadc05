import Derived.Test.YtjkikpfccmhfmaaMath2
/- The sums' plain laws: bytes in which bits are turned. -/
namespace Go.Proofs.Ytjkikpfccmhfmaa
namespace Crc
/-- Bit number p of the bytes is turned. -/
def turn (l : List Nat) (p : Nat) : List Nat := l.set (p / 8) (l.getD (p / 8) 0 ^^^ 2 ^ (p % 8))
theorem turn_length (l : List Nat) (p : Nat) : (turn l p).length = l.length := by simp [turn]
theorem turn_lt (l : List Nat) (p : Nat) (h : ∀ c ∈ l, c < 256) : ∀ c ∈ turn l p, c < 256 := by
  intro c hc
  unfold turn at hc
  rcases List.mem_or_eq_of_mem_set hc with hc | rfl
  · exact h c hc
  · refine Nat.xor_lt_two_pow (n := 8) ?_ (Nat.pow_lt_pow_right (by decide) (Nat.mod_lt _ (by decide)))
    by_cases hp : p / 8 < l.length
    · have e : l.getD (p / 8) 0 = l[p / 8] := by simp [List.getD, hp]
      rw [e]; exact h _ (List.getElem_mem _)
    · have e : l.getD (p / 8) 0 = 0 := by simp [List.getD, hp]
      rw [e]; decide
theorem le_set : ∀ (l : List Nat) (i x : Nat), i < l.length → (∀ c ∈ l, c < 256) → x < 256 → le (l.set i (l.getD i 0 ^^^ x)) = le l ^^^ (256 ^ i * x)
  | [], i, x, h, _, _ => by simp at h
  | c :: l, 0, x, _, hl, hx => by
    have hc := hl c (by simp)
    have hcx : c ^^^ x < 256 := Nat.xor_lt_two_pow (n := 8) hc hx
    simp only [List.set_cons_zero, le, List.getD_cons_zero, Nat.pow_zero, Nat.one_mul]
    rw [join256 _ _ hcx, join256 _ _ hc, Nat.xor_assoc, Nat.xor_assoc, Nat.xor_comm x]
  | c :: l, i + 1, x, h, hl, hx => by
    have hc := hl c (by simp)
    have ih := le_set l i x (by simpa using h) (fun y hy => hl y (by simp [hy])) hx
    simp only [List.set_cons_succ, le, List.getD_cons_succ]
    rw [ih, join256 _ _ hc, join256 _ _ hc, Nat.xor_assoc]
    congr 1
    have e : 256 * (le l ^^^ 256 ^ i * x) = (256 * le l) ^^^ (256 * (256 ^ i * x)) := by
      have := Nat.shiftLeft_xor_distrib (a := le l) (b := 256 ^ i * x) (i := 8)
      simpa [Nat.shiftLeft_eq, Nat.mul_comm] using this
    rw [e]
    congr 1
    rw [Nat.pow_succ, ← Nat.mul_assoc, Nat.mul_comm 256]
theorem le_turn (l : List Nat) (p : Nat) (hp : p < 8 * l.length) (hl : ∀ c ∈ l, c < 256) : le (turn l p) = le l ^^^ 2 ^ p := by
  unfold turn
  rw [le_set l (p / 8) (2 ^ (p % 8)) (by omega) hl (Nat.pow_lt_pow_right (a := 2) (by decide) (Nat.mod_lt p (by decide : 0 < 8)))]
  congr 1
  have e : (256 : Nat) = 2 ^ 8 := by decide
  rw [e, ← Nat.pow_mul, ← Nat.pow_add]
  congr 1
  omega
theorem bit_step (from_ bits k : Nat) : 2 ^ from_ * (bits % 2 ^ (k + 1)) = (2 ^ from_ * (bits % 2 ^ k)) ^^^ (if bits / 2 ^ k % 2 = 1 then 2 ^ (from_ + k) else 0) := by
  have h1 : bits % 2 ^ (k + 1) = bits % 2 ^ k + 2 ^ k * (bits / 2 ^ k % 2) := by rw [Nat.pow_succ]; exact Nat.mod_mul
  have hlt : bits % 2 ^ k < 2 ^ k := Nat.mod_lt _ (Nat.two_pow_pos k)
  rcases Nat.mod_two_eq_zero_or_one (bits / 2 ^ k) with h | h
  · rw [h1, h]; simp
  · rw [h1, h, if_pos rfl, Nat.mul_one]
    have e : bits % 2 ^ k + 2 ^ k = bits % 2 ^ k ^^^ 2 ^ k := by
      apply Nat.eq_of_testBit_eq
      intro i
      have := Nat.testBit_two_pow_mul_add 1 hlt i
      rw [Nat.mul_one, Nat.add_comm] at this
      rw [this, Nat.testBit_xor, Nat.testBit_two_pow]
      by_cases hik : i < k
      · simp [hik, show ¬ k = i by omega]
      · have hz : (bits % 2 ^ k).testBit i = false := Nat.testBit_lt_two_pow (Nat.lt_of_lt_of_le hlt (Nat.pow_le_pow_right (by decide) (by omega)))
        by_cases hki : k = i
        · subst hki; simp [hz]
        · have : Nat.testBit 1 (i - k) = false := by
            have : i - k ≠ 0 := by omega
            cases hq : i - k with
            | zero => omega
            | succ q => simp [Nat.testBit_succ]
          simp [hik, hz, hki, this]
    rw [e]
    have := Nat.shiftLeft_xor_distrib (a := bits % 2 ^ k) (b := 2 ^ k) (i := from_)
    simp only [Nat.shiftLeft_eq] at this
    rw [Nat.mul_comm, this, Nat.mul_comm, Nat.pow_add, Nat.mul_comm (2 ^ k)]
/-- Bytes that differ by a word of at most 32 bits, somewhere within them, have unlike sums. -/
theorem turned (x y : List Nat) (hl : x.length = y.length) (hx : ∀ c ∈ x, c < 256) (hy : ∀ c ∈ y, c < 256) (f d : Nat) (hf : f ≤ 8 * x.length) (hd : d < 2 ^ 32) (h0 : d ≠ 0) (h : le y = le x ^^^ (2 ^ f * d)) : on tab 0 y ≠ on tab 0 x := by
  intro he
  unfold on at he
  have h1 := inv_inj (rlt _ (inv_lt 0) y hy) (rlt _ (inv_lt 0) x hx) he
  rw [run_eq _ _ hy, run_eq _ _ hx, ← hl, h, ← Nat.xor_assoc, it_xor] at h1
  have h2 : it (8 * x.length) (2 ^ f * d) = 0 := by
    have := congrArg (· ^^^ it (8 * x.length) (inv 0 ^^^ le x)) h1
    simpa [Nat.xor_comm (it _ (inv 0 ^^^ le x)), Nat.xor_assoc] using this
  have e : 8 * x.length = f + (8 * x.length - f) := by omega
  rw [e, it_add, it_pow] at h2
  exact it_ne _ hd h0 h2
end Crc
end Go.Proofs.Ytjkikpfccmhfmaa
