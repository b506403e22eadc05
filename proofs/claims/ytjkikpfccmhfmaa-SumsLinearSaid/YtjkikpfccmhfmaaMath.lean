/- CRC -/
namespace Go.Proofs.Ytjkikpfccmhfmaa
namespace Crc
def stp (n : Nat) : Nat := (n / 2) ^^^ (if n % 2 = 1 then 0x82f63b78 else 0)
def it : Nat → Nat → Nat
  | 0, x => x
  | k + 1, x => it k (stp x)
theorem stp_zero : stp 0 = 0 := by decide
theorem xor_half (a b : Nat) : (a ^^^ b) / 2 = (a / 2) ^^^ (b / 2) := by
  apply Nat.eq_of_testBit_eq; intro i; simp [Nat.testBit_xor, Nat.testBit_div_two]
theorem xor_odd (a b : Nat) : (a ^^^ b) % 2 = (a % 2 + b % 2) % 2 := by
  have h := Nat.testBit_xor a b 0
  simp only [Nat.testBit_zero] at h
  have ha := Nat.mod_two_eq_zero_or_one a
  have hb := Nat.mod_two_eq_zero_or_one b
  have hc := Nat.mod_two_eq_zero_or_one (a ^^^ b)
  rcases ha with ha | ha <;> rcases hb with hb | hb <;> rcases hc with hc | hc <;> simp [ha, hb, hc] at h ⊢
theorem stp_xor (a b : Nat) : stp (a ^^^ b) = stp a ^^^ stp b := by
  unfold stp
  rw [xor_half, xor_odd]
  have ha := Nat.mod_two_eq_zero_or_one a
  have hb := Nat.mod_two_eq_zero_or_one b
  generalize a / 2 = x; generalize b / 2 = y
  rcases ha with ha | ha <;> rcases hb with hb | hb <;> simp only [ha, hb] <;> simp
  · rw [Nat.xor_assoc]
  · rw [Nat.xor_assoc, Nat.xor_comm y, ← Nat.xor_assoc]
  · generalize (2197175160 : Nat) = p
    rw [← Nat.xor_assoc, Nat.xor_assoc x p y, Nat.xor_comm p y, ← Nat.xor_assoc, Nat.xor_assoc (x ^^^ y) p p, Nat.xor_self, Nat.xor_zero]
theorem it_zero (k : Nat) : it k 0 = 0 := by induction k with | zero => rfl | succ k ih => rw [it, stp_zero, ih]
theorem it_xor (k : Nat) : ∀ a b, it k (a ^^^ b) = it k a ^^^ it k b := by
  induction k with
  | zero => intro a b; rfl
  | succ k ih => intro a b; rw [it, it, it, stp_xor, ih]
theorem it_add (j k : Nat) : ∀ x, it (j + k) x = it k (it j x) := by
  induction j with
  | zero => intro x; rw [Nat.zero_add]; rfl
  | succ j ih => intro x; rw [show j + 1 + k = (j + k) + 1 by omega, it, it, ih]
theorem stp_two (x : Nat) : stp (2 * x) = x := by unfold stp; rw [if_neg (by omega), Nat.xor_zero]; omega
theorem it_pow (k : Nat) : ∀ x, it k (2 ^ k * x) = x := by
  induction k with
  | zero => intro x; simp [it]
  | succ k ih => intro x; rw [it, Nat.pow_succ, show 2 ^ k * 2 * x = 2 * (2 ^ k * x) by rw [Nat.mul_comm (2^k) 2, Nat.mul_assoc], stp_two, ih]
theorem xor_zero_iff {a b : Nat} : a ^^^ b = 0 ↔ a = b := by
  constructor
  · intro h
    have : (a ^^^ b) ^^^ b = 0 ^^^ b := by rw [h]
    rwa [Nat.xor_assoc, Nat.xor_self, Nat.xor_zero, Nat.zero_xor] at this
  · rintro rfl; exact Nat.xor_self a
theorem stp_lt {n : Nat} (h : n < 2 ^ 32) : stp n < 2 ^ 32 := by
  unfold stp
  refine Nat.xor_lt_two_pow (by omega) ?_
  split <;> omega
theorem stp_ne {n : Nat} (h : n < 2 ^ 32) (h0 : n ≠ 0) : stp n ≠ 0 := by
  unfold stp
  intro e
  rw [xor_zero_iff] at e
  split at e <;> omega
theorem it_lt (k : Nat) : ∀ {n : Nat}, n < 2 ^ 32 → it k n < 2 ^ 32 := by
  induction k with
  | zero => intro n h; exact h
  | succ k ih => intro n h; exact ih (stp_lt h)
theorem it_ne (k : Nat) : ∀ {n : Nat}, n < 2 ^ 32 → n ≠ 0 → it k n ≠ 0 := by
  induction k with
  | zero => intro n _ h; exact h
  | succ k ih => intro n h h0; exact ih (stp_lt h) (stp_ne h h0)
theorem it_inj (k : Nat) {a b : Nat} (ha : a < 2 ^ 32) (hb : b < 2 ^ 32) (h : it k a = it k b) : a = b := by
  have e : it k (a ^^^ b) = 0 := by rw [it_xor, h, Nat.xor_self]
  rw [← xor_zero_iff]
  exact Decidable.byContradiction fun h0 => it_ne k (Nat.xor_lt_two_pow ha hb) h0 e

def tab (i : Nat) : Nat := it 8 i
def one (T : Nat → Nat) (n c : Nat) : Nat := (n / 256) ^^^ T ((n % 256) ^^^ c)
def run (T : Nat → Nat) (n : Nat) (l : List Nat) : Nat := l.foldl (one T) n
def inv (n : Nat) : Nat := 4294967295 - n
def on (T : Nat → Nat) (s : Nat) (l : List Nat) : Nat := inv (run T (inv s) l)

theorem inv_inv {n : Nat} (h : n < 4294967296) : inv (inv n) = n := by unfold inv; omega
theorem inv_lt (n : Nat) : inv n < 4294967296 := by unfold inv; omega
theorem inv_inj {a b : Nat} (ha : a < 4294967296) (hb : b < 4294967296) (h : inv a = inv b) : a = b := by unfold inv at h; omega
theorem join256 (a b : Nat) (h : a < 256) : a + 256 * b = a ^^^ (256 * b) := by
  apply Nat.eq_of_testBit_eq
  intro i
  have e : a + 256 * b = 2 ^ 8 * b + a := by omega
  rw [e, Nat.testBit_two_pow_mul_add b (i := 8) (by simpa using h), Nat.testBit_xor]
  have e2 : (256 * b).testBit i = (decide (8 ≤ i) && b.testBit (i - 8)) := by
    have := Nat.testBit_two_pow_mul (i := 8) (a := b) (j := i)
    simpa using this
  rw [e2]
  by_cases hi : i < 8
  · simp [hi, show ¬ 8 ≤ i by omega]
  · have : a.testBit i = false := Nat.testBit_lt_two_pow (Nat.lt_of_lt_of_le h (by
      calc 256 = 2 ^ 8 := by decide
        _ ≤ 2 ^ i := Nat.pow_le_pow_right (by decide) (by omega)))
    simp [hi, this, show 8 ≤ i by omega]
theorem it8 (n c : Nat) : it 8 (n ^^^ c) = one tab n c := by
  have e : n = (n % 256) ^^^ (256 * (n / 256)) := by rw [← join256 _ _ (Nat.mod_lt _ (by decide))]; omega
  have e2 : n ^^^ c = ((n % 256) ^^^ c) ^^^ (256 * (n / 256)) := by
    conv => lhs; rw [e]
    rw [Nat.xor_assoc, Nat.xor_comm _ c, ← Nat.xor_assoc]
  rw [e2, it_xor]
  have := it_pow 8 (n / 256)
  rw [show (2:Nat) ^ 8 = 256 by decide] at this
  rw [this, one, tab, Nat.xor_comm]
def le : List Nat → Nat
  | [] => 0
  | c :: l => c + 256 * le l
theorem run_eq : ∀ (l : List Nat) (s : Nat), (∀ c ∈ l, c < 256) → run tab s l = it (8 * l.length) (s ^^^ le l)
  | [], s, _ => by simp [run, le, it]
  | c :: l, s, h => by
    have hc : c < 256 := h c (by simp)
    have ih := run_eq l (one tab s c) (fun x hx => h x (by simp [hx]))
    show run tab (one tab s c) l = _
    rw [ih, show 8 * (c :: l).length = 8 + 8 * l.length by simp; omega, it_add, le, join256 _ _ hc, ← Nat.xor_assoc, it_xor 8, it8]
    have := it_pow 8 (le l)
    rw [show (2:Nat) ^ 8 = 256 by decide] at this
    rw [this]
end Crc
end Go.Proofs.Ytjkikpfccmhfmaa
