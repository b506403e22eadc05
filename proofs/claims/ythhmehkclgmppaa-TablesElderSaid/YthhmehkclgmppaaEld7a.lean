/- Plain law of TablesElder: the numbers of a key, each once. No condition. -/
import Derived.Test.YthhmehkclgmppaaPre7b
namespace Go.Proofs.Ythhmehkclgmppaa
open Go.RowKit
def keyB (key : ByteArray) (e : En) : Bool := e.mark.key.toList == key.toList
/-- Is number i the first one of its key that has its number? -/
def headB (L : List En) (key : ByteArray) (i : Nat) : Bool := match L[i]? with
  | none => false
  | some e => keyB key e && (i == 0 || (match L[i - 1]? with | none => true | some d => !keyB key d || !(d.mark.seq == e.mark.seq)))
def seqAt (L : List En) (i : Nat) : Nat := match L[i]? with
  | none => 0
  | some e => e.mark.seq
/-- How many of the first k are heads, with no greater number than s. -/
def cntB (L : List En) (key : ByteArray) (s : Nat) : Nat → Nat
  | 0 => 0
  | k + 1 => cntB L key s k + if headB L key k && decide (seqAt L k ≤ s) then 1 else 0
theorem cntB_le (L : List En) (key : ByteArray) (s : Nat) : ∀ k, cntB L key s k ≤ k
  | 0 => Nat.le_refl _
  | k + 1 => by have := cntB_le L key s k; unfold cntB; split <;> omega
/-- What stands between two of one key is of that key, and its number between theirs. -/
theorem rises_between {L : List En} (hr : Rises L) {i j : Nat} {a b : En} (hi : L[i]? = some a) (hj : L[j]? = some b) (hij : i < j) : a.mark.ltB b.mark = true := by
  obtain ⟨h1, rfl⟩ := List.getElem?_eq_some_iff.1 hi
  obtain ⟨h2, rfl⟩ := List.getElem?_eq_some_iff.1 hj
  exact List.pairwise_iff_getElem.1 hr i j h1 h2 hij
theorem lt_key {a b : Mk} (h : a.ltB b = true) (hk : a.key.toList = b.key.toList) : b.seq ≤ a.seq := by
  rcases Mk.lt_iff.1 h with h1 | ⟨_, h1 | ⟨h1, _⟩⟩
  · rw [hk, bl_irrefl] at h1; cases h1
  · omega
  · omega
theorem key_between {a b c : Mk} (h1 : a.ltB b = true) (h2 : b.ltB c = true) (hk : a.key.toList = c.key.toList) : b.key.toList = a.key.toList := by
  rcases Mk.lt_iff.1 h1 with h | ⟨h, _⟩
  · rcases Mk.lt_iff.1 h2 with h' | ⟨h', _⟩
    · have := bl_trans _ _ _ h h'; rw [hk, bl_irrefl] at this; cases this
    · rw [h', ← hk, bl_irrefl] at h; cases h
  · exact h.symm
theorem keyB_iff {key : ByteArray} {e : En} : keyB key e = true ↔ e.mark.key.toList = key.toList := by unfold keyB; rw [beq_iff_eq]
/-- None is told: no head has so small a number. -/
theorem cnt_none {L : List En} {key : ByteArray} {s : Nat} (h : L.find? (isP key s) = none) : ∀ k, cntB L key s k = 0
  | 0 => rfl
  | k + 1 => by
    unfold cntB
    rw [cnt_none h k, if_neg]
    intro h2
    rw [Bool.and_eq_true, decide_eq_true_eq] at h2
    obtain ⟨h3, h4⟩ := h2
    unfold headB at h3
    unfold seqAt at h4
    cases hx : L[k]? with
    | none => rw [hx] at h3; cases h3
    | some e =>
      rw [hx] at h3 h4
      simp only [Bool.and_eq_true] at h3 h4
      have := List.find?_eq_none.1 h e (List.mem_of_getElem? hx)
      exact this (isP_iff.2 ⟨keyB_iff.1 h3.1, h4⟩)
/-- One is told: it is a head, all other heads of a number up to s have a lesser one than it. -/
theorem cnt_some {L : List En} (hr : Rises L) {key : ByteArray} {s : Nat} {x : En} (h : L.find? (isP key s) = some x) : ∃ i0, i0 < L.length ∧ ∀ k, (if x.mark.seq = 0 then 0 else cntB L key (x.mark.seq - 1) k) + (if i0 < k then 1 else 0) = cntB L key s k := by
  obtain ⟨h1, p, r, hL, h3⟩ := List.find?_eq_some_iff_append.1 h
  obtain ⟨hk, hs⟩ := isP_iff.1 h1
  have hi0 : L[p.length]? = some x := by rw [hL]; simp
  have hpre : ∀ i e, i < p.length → L[i]? = some e → isP key s e = false := fun i e hi he => by
    rw [hL, List.getElem?_append_left hi] at he
    have := h3 e (List.mem_of_getElem? he)
    simpa using this
  have hone : ∀ k, (headB L key k && decide (seqAt L k ≤ s)) = ((k == p.length) || (!(x.mark.seq == 0) && (headB L key k && decide (seqAt L k ≤ x.mark.seq - 1)))) ∧ (k = p.length → (!(x.mark.seq == 0) && (headB L key k && decide (seqAt L k ≤ x.mark.seq - 1))) = false) := by
    intro k
    rcases Nat.lt_trichotomy k p.length with hkp | hkp | hkp
    · -- ahead
      have e1 : (headB L key k && decide (seqAt L k ≤ s)) = false := by
        cases hc : (headB L key k && decide (seqAt L k ≤ s)) with
        | false => rfl
        | true =>
          rw [Bool.and_eq_true, decide_eq_true_eq] at hc
          unfold headB seqAt at hc
          cases hx : L[k]? with
          | none => rw [hx] at hc; simp at hc
          | some e =>
            rw [hx] at hc
            simp only [Bool.and_eq_true] at hc
            have := hpre k e hkp hx
            rw [isP_iff.2 ⟨keyB_iff.1 hc.1.1, hc.2⟩] at this; cases this
      have e2 : (headB L key k && decide (seqAt L k ≤ x.mark.seq - 1)) = false := by
        cases hc : (headB L key k && decide (seqAt L k ≤ x.mark.seq - 1)) with
        | false => rfl
        | true =>
          rw [Bool.and_eq_true, decide_eq_true_eq] at hc
          rw [hc.1, decide_eq_true (by omega)] at e1; cases e1
      refine ⟨?_, fun h => by omega⟩
      rw [e1, e2]; simp; omega
    · -- it
      subst hkp
      have e1 : headB L key p.length = true := by
        unfold headB
        rw [hi0]
        simp only [Bool.and_eq_true, Bool.or_eq_true, beq_iff_eq]
        refine ⟨keyB_iff.2 hk, ?_⟩
        by_cases h0 : p.length = 0
        · exact .inl h0
        · right
          cases hx : L[p.length - 1]? with
          | none => rfl
          | some d =>
            simp only [Bool.or_eq_true, Bool.not_eq_true', beq_eq_false_iff_ne]
            have := hpre _ d (by omega) hx
            cases hkd : keyB key d with
            | false => exact .inl rfl
            | true =>
              right
              intro hsd
              rw [isP_iff.2 ⟨keyB_iff.1 hkd, by omega⟩] at this; cases this
      have e2 : seqAt L p.length = x.mark.seq := by unfold seqAt; rw [hi0]
      rw [e1, e2, decide_eq_true hs]
      refine ⟨by simp, fun _ => ?_⟩
      by_cases h0 : x.mark.seq = 0
      · simp [h0]
      · rw [decide_eq_false (by omega)]; simp
    · -- behind
      refine ⟨?_, fun h => by omega⟩
      have hne : (k == p.length) = false := by simp; omega
      rw [hne, Bool.false_or]
      cases hx : L[k]? with
      | none => unfold headB; rw [hx]; simp
      | some e =>
        by_cases hke : e.mark.key.toList = key.toList
        · have hlt := rises_between hr hi0 hx hkp
          have hse := lt_key hlt (hk.trans hke.symm)
          have hsq : seqAt L k = e.mark.seq := by unfold seqAt; rw [hx]
          rw [hsq]
          by_cases heq : e.mark.seq = x.mark.seq
          · have hh : headB L key k = false := by
              unfold headB
              rw [hx]
              have : L[k - 1]? = some (L[k - 1]'(by have := (List.getElem?_eq_some_iff.1 hx).1; omega)) := List.getElem?_eq_getElem _
              simp only [this]
              generalize hd : L[k - 1]'(by have := (List.getElem?_eq_some_iff.1 hx).1; omega) = d at this ⊢
              have hdk : d.mark.key.toList = key.toList ∧ d.mark.seq = e.mark.seq := by
                by_cases hpk : k - 1 = p.length
                · rw [hpk, hi0] at this
                  injection this with this
                  rw [← this]; exact ⟨hk, heq.symm⟩
                · have l1 := rises_between hr hi0 this (by omega)
                  have l2 := rises_between hr this hx (by omega)
                  have k1 := key_between l1 l2 (hk.trans hke.symm)
                  have s1 := lt_key l1 k1.symm
                  have s2 := lt_key l2 (k1.trans (hk.trans hke.symm))
                  exact ⟨k1.trans hk, by omega⟩
              rw [keyB_iff.2 hdk.1, hdk.2]
              simp; omega
            rw [hh]; simp
          · have : (decide (e.mark.seq ≤ s)) = true := decide_eq_true (by omega)
            rw [this, decide_eq_true (show e.mark.seq ≤ x.mark.seq - 1 by omega), show (x.mark.seq == 0) = false by simp; omega]; simp
        · have : headB L key k = false := by
            unfold headB; rw [hx]
            have : keyB key e = false := by cases h9 : keyB key e with | false => rfl | true => exact absurd (keyB_iff.1 h9) hke
            simp [this]
          rw [this]; simp
  refine ⟨p.length, (List.getElem?_eq_some_iff.1 hi0).1, fun k => ?_⟩
  induction k with
  | zero => simp [cntB]
  | succ k ih =>
    unfold cntB
    rw [(hone k).1, ← ih]
    have h9 := (hone k).2
    by_cases h0 : x.mark.seq = 0
    · rw [if_pos h0, if_pos h0]
      simp only [h0, beq_self_eq_true, Bool.not_true, Bool.false_and, Bool.or_false, beq_iff_eq]
      split <;> split <;> split <;> omega
    · rw [if_neg h0, if_neg h0]
      rw [show (x.mark.seq == 0) = false by simpa using h0] at h9 ⊢
      simp only [Bool.not_false, Bool.true_and] at h9 ⊢
      by_cases hkp : k = p.length
      · rw [h9 hkp]
        subst hkp
        simp
      · rw [show (k == p.length) = false by simpa using hkp, Bool.false_or]
        split <;> split <;> split <;> omega
end Go.Proofs.Ythhmehkclgmppaa
