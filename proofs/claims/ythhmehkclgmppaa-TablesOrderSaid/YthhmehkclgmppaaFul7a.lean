/- Plain law of TablesFull: the tables of its entries. No condition. -/
import Derived.Test.YthhmehkclgmppaaPre7b
namespace Go.Proofs.Ythhmehkclgmppaa
open Go.RowKit
def fe (val : ByteArray) (i : Nat) : En := ⟨⟨⟨#[UInt8.ofNat (97 + i / 200), UInt8.ofNat (i % 7)]⟩, i, false⟩, val⟩
def ze (i : Nat) : En := mkEn ⟨#[122]⟩ i ⟨#[118]⟩
def fL (val : ByteArray) : Nat → List En
  | 0 => []
  | k + 1 => putL (fL val k) (fe val k) 1
theorem fe_fine (val : ByteArray) (i : Nat) (hv : val.size = 2) : fineB (fe val i) = true := by
  unfold fineB okeyB fe
  simp only [Bool.and_eq_true, decide_eq_true_eq, Bool.not_false, Bool.true_or, and_true]
  exact ⟨⟨(by show 1 ≤ 2; omega), (by show 2 ≤ 32; omega)⟩, by omega⟩
theorem ze_fine (i : Nat) : fineB (ze i) = true := by
  unfold fineB okeyB ze mkEn
  rw [show ((⟨#[118]⟩ : ByteArray).toList.isEmpty) = false by kernel_rfl]
  simp only [Bool.and_eq_true, decide_eq_true_eq, Bool.not_false, Bool.true_or, and_true]
  exact ⟨⟨by decide, by decide⟩, by decide⟩
theorem fL_mem (val : ByteArray) : ∀ k, ∀ e ∈ fL val k, ∃ j, j < k ∧ e = fe val j
  | 0, e, h => by cases h
  | k + 1, e, h => by
    rcases putL_mem h with h | ⟨h, _⟩
    · obtain ⟨j, hj, he⟩ := fL_mem val k e h; exact ⟨j, by omega, he⟩
    · exact ⟨k, by omega, h⟩
theorem put_new {L : List En} {x : En} {t : Int} (ht1 : 1 ≤ t) (ht8 : t ≤ 8) (hf : fineB x = true) (hn : ∀ e ∈ L, e.mark ≠ x.mark) : putC L x t = (if 4096 ≤ L.length then 6 else 0) ∧ putL L x t = (if 4096 ≤ L.length then L else insL L x) := by
  have hok : okB x t = true := by unfold okB; rw [hf, decide_eq_true ht1, decide_eq_true ht8]; rfl
  have hth : thereB L x.mark = false := by
    cases h : thereB L x.mark with
    | false => rfl
    | true => obtain ⟨e, he, hm⟩ := there_iff.1 h; exact absurd hm (hn e he)
  unfold putC putL
  rw [hok, hth]
  exact ⟨by simp, by simp⟩
theorem fL_put (val : ByteArray) (k : Nat) : ∀ e ∈ fL val k, e.mark ≠ (fe val k).mark := fun e he h => by
  obtain ⟨j, hj, rfl⟩ := fL_mem val k e he
  have : (fe val j).mark.seq = (fe val k).mark.seq := by rw [h]
  simp only [fe] at this; omega
theorem fL_length (val : ByteArray) (hv : val.size = 2) : ∀ k, k ≤ 4096 → (fL val k).length = k
  | 0, _ => rfl
  | k + 1, h => by
    have ih := fL_length val hv k (by omega)
    show (putL (fL val k) (fe val k) 1).length = _
    rw [(put_new (by decide) (by decide) (fe_fine val k hv) (fL_put val k)).2, if_neg (by omega), ins_length, ih]
theorem fL_putC (val : ByteArray) (hv : val.size = 2) (k : Nat) (hk : k < 4096) (t : Nat) (ht1 : 1 ≤ t) (ht8 : t ≤ 8) : putC (fL val k) (fe val k) (t : Int) = 0 ∧ putL (fL val k) (fe val k) (t : Int) = fL val (k + 1) := by
  have := fL_length val hv k (by omega)
  refine ⟨?_, putL_tall ht1 ht8⟩
  rw [(put_new (by omega) (by omega) (fe_fine val k hv) (fL_put val k)).1, if_neg (by omega)]
theorem fL_zero (val : ByteArray) (hv : val.size = 2) : ∀ k, 0 < k → k ≤ 4096 → fe val 0 ∈ fL val k
  | 0, h, _ => by omega
  | k + 1, _, h4 => by
    show fe val 0 ∈ putL (fL val k) (fe val k) 1
    have := fL_length val hv k (by omega)
    rw [(put_new (by decide) (by decide) (fe_fine val k hv) (fL_put val k)).2, if_neg (by omega), ins_mem]
    by_cases hk : 0 < k
    · exact .inr (fL_zero val hv k hk (by omega))
    · obtain rfl : k = 0 := by omega
      exact .inl rfl
/-- What loop 2 knows of the table. -/
structure Full (val : ByteArray) (k : Nat) (M : List En) : Prop where
  len : M.length = min k 4096
  old : ∀ e ∈ M, (∃ j, e = fe val j) ∨ ∃ j, j < k ∧ e = ze j
  first : fe val 0 ∈ M
theorem Full.start {val : ByteArray} (hv : val.size = 2) {n : Nat} (h0 : 0 < n) (hn : n ≤ 4096) : Full val n (fL val n) :=
  ⟨by rw [fL_length val hv n hn]; omega, fun e he => .inl (by obtain ⟨j, _, h⟩ := fL_mem val n e he; exact ⟨j, h⟩), fL_zero val hv n h0 hn⟩
theorem Full.new {val : ByteArray} {k : Nat} {M : List En} (h : Full val k M) : ∀ e ∈ M, e.mark ≠ (ze k).mark := fun e he hm => by
  rcases h.old e he with ⟨j, rfl⟩ | ⟨j, hj, rfl⟩
  · have := congrArg (fun m => m.key.size) hm
    simp only [fe, ze, mkEn] at this
    exact absurd this (by show ¬ 2 = 1; omega)
  · have := congrArg (fun m => m.seq) hm
    simp only [ze, mkEn] at this; omega
theorem Full.put {val : ByteArray} {k : Nat} {M : List En} (h : Full val k M) : putC M (ze k) 1 = (if k < 4096 then 0 else 6) ∧ Full val (k + 1) (putL M (ze k) 1) := by
  have hp := put_new (t := 1) (by decide) (by decide) (ze_fine k) h.new
  have hl := h.len
  by_cases hk : k < 4096
  · rw [if_neg (by omega), if_neg (by omega)] at hp
    rw [hp.1, if_pos hk, hp.2]
    refine ⟨rfl, by rw [ins_length]; omega, fun e he => ?_, ins_mem.2 (.inr h.first)⟩
    rcases ins_mem.1 he with rfl | he
    · exact .inr ⟨k, by omega, rfl⟩
    · rcases h.old e he with h1 | ⟨j, hj, h1⟩
      · exact .inl h1
      · exact .inr ⟨j, by omega, h1⟩
  · rw [if_pos (by omega), if_pos (by omega)] at hp
    rw [hp.1, if_neg hk, hp.2]
    refine ⟨rfl, by omega, fun e he => ?_, h.first⟩
    rcases h.old e he with h1 | ⟨j, hj, h1⟩
    · exact .inl h1
    · exact .inr ⟨j, by omega, h1⟩
def otherE : En := ⟨⟨⟨#[97, 0]⟩, 0, false⟩, ⟨#[111, 116, 104, 101, 114]⟩⟩
theorem Full.again {val : ByteArray} {k : Nat} {M : List En} (h : Full val k M) : putC M otherE 1 = 8 := by
  have hok : okB otherE 1 = true := by kernel_rfl
  have hth : thereB M otherE.mark = true := there_iff.2 ⟨_, h.first, rfl⟩
  unfold putC
  rw [hok, hth]; rfl
end Go.Proofs.Ythhmehkclgmppaa
