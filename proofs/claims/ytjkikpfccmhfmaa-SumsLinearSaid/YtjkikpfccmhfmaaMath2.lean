import Derived.Test.YtjkikpfccmhfmaaW0
/- The sums' plain laws: a sum behind its bytes, unlike sums, four bytes. -/
namespace Go.Proofs.Ytjkikpfccmhfmaa
namespace Crc
def bytes4 (n : Nat) : List Nat := [n % 256, n / 256 % 256, n / 65536 % 256, n / 16777216]
theorem le_bytes4 (n : Nat) (h : n < 4294967296) : le (bytes4 n) = n := by simp only [bytes4, le]; omega
theorem bytes4_lt (n : Nat) (hn : n < 4294967296) : ∀ c ∈ bytes4 n, c < 256 := by
  intro c hc
  simp only [bytes4, List.mem_cons, List.not_mem_nil, or_false] at hc
  omega
theorem run_append (T : Nat → Nat) (n : Nat) (x y : List Nat) : run T n (x ++ y) = run T (run T n x) y := by unfold run; rw [List.foldl_append]
theorem tab_lt (i : Nat) (h : i < 256) : tab i < 4294967296 := it_lt 8 (Nat.lt_trans h (by decide))
theorem rlt (n : Nat) (hn : n < 4294967296) (l : List Nat) (h : ∀ c ∈ l, c < 256) : run tab n l < 4294967296 := run_lt tab tab_lt l n hn h
theorem sealing (a : List Nat) (ha : ∀ c ∈ a, c < 256) : on tab 0 (a ++ bytes4 (on tab 0 a)) = inv (it 32 4294967295) := by
  unfold on
  have hr := rlt (inv 0) (inv_lt 0) a ha
  generalize hs : run tab (inv 0) a = s at *
  rw [run_append, hs, run_eq _ _ (bytes4_lt _ (inv_lt _)), le_bytes4 _ (inv_lt _)]
  have e : s ^^^ inv s = 4294967295 := by
    have := xor_max s hr
    rw [show inv s = 4294967295 - s from rfl, ← this, ← Nat.xor_assoc, Nat.xor_comm s, Nat.xor_assoc, Nat.xor_self, Nat.xor_zero]
  rw [e]; rfl
theorem xor_cancel {a b m : Nat} (h : a ^^^ m = b ^^^ m) : a = b := by
  have := congrArg (· ^^^ m) h
  simpa [Nat.xor_assoc] using this
theorem on_inj (x y : Nat) (hx : x < 4294967296) (hy : y < 4294967296) (l : List Nat) (hl : ∀ c ∈ l, c < 256) (h : on tab x l = on tab y l) : x = y := by
  unfold on at h
  have h1 := inv_inj (rlt _ (inv_lt x) l hl) (rlt _ (inv_lt y) l hl) h
  rw [run_eq _ _ hl, run_eq _ _ hl, it_xor, it_xor] at h1
  have h2 := xor_cancel h1
  exact inv_inj hx hy (it_inj _ (inv_lt x) (inv_lt y) h2)
theorem le_lt : ∀ (l : List Nat), (∀ c ∈ l, c < 256) → le l < 256 ^ l.length
  | [], _ => by simp [le]
  | c :: l, h => by
    have hc := h c (by simp)
    have ih := le_lt l (fun x hx => h x (by simp [hx]))
    rw [le, List.length_cons, Nat.pow_succ]
    omega
theorem le_inj : ∀ (x y : List Nat), x.length = y.length → (∀ c ∈ x, c < 256) → (∀ c ∈ y, c < 256) → le x = le y → x = y
  | [], [], _, _, _, _ => rfl
  | [], _ :: _, h, _, _, _ => by simp at h
  | _ :: _, [], h, _, _, _ => by simp at h
  | a :: x, b :: y, h, hx, hy, he => by
    have ha := hx a (by simp)
    have hb := hy b (by simp)
    simp only [le] at he
    obtain rfl : a = b := by omega
    rw [le_inj x y (by simpa using h) (fun c hc => hx c (by simp [hc])) (fun c hc => hy c (by simp [hc])) (by omega)]
theorem on_four (s : Nat) (x y : List Nat) (hl : x.length = y.length) (h4 : x.length ≤ 4) (hx : ∀ c ∈ x, c < 256) (hy : ∀ c ∈ y, c < 256) : on tab s x = on tab s y ↔ x = y := by
  constructor
  · intro h
    unfold on at h
    have h1 := inv_inj (rlt _ (inv_lt s) x hx) (rlt _ (inv_lt s) y hy) h
    rw [run_eq _ _ hx, run_eq _ _ hy, hl, it_xor, it_xor, Nat.xor_comm, Nat.xor_comm (it _ (inv s))] at h1
    have h2 := xor_cancel h1
    have p4 : 256 ^ x.length ≤ 256 ^ 4 := Nat.pow_le_pow_right (by decide) h4
    have b1 := le_lt x hx
    have b2 := le_lt y hy
    rw [← hl] at b2
    have e4 : (256 : Nat) ^ 4 = 2 ^ 32 := by decide
    exact le_inj x y hl hx hy (it_inj _ (by omega) (by omega) h2)
  · rintro rfl; rfl
end Crc
end Go.Proofs.Ytjkikpfccmhfmaa
