/- Plain laws of a table after many Puts. No condition. -/
import Derived.Test.YthhmehkclgmppaaLaw7d
namespace Go.Proofs.Ythhmehkclgmppaa
open Go.RowKit
theorem there_iff {l : List En} {m : Mk} : thereB l m = true ↔ ∃ e ∈ l, e.mark = m := by
  unfold thereB
  rw [List.any_eq_true]
  constructor
  · rintro ⟨e, h1, h2⟩; exact ⟨e, h1, same_iff.1 h2⟩
  · rintro ⟨e, h1, h2⟩; exact ⟨e, h1, same_iff.2 h2⟩
theorem putL_length (l : List En) (x : En) (t : Int) : (putL l x t).length ≤ l.length + 1 := by
  unfold putL
  split
  · split
    · omega
    · split
      · omega
      · rw [ins_length]; omega
  · omega
theorem putL_there {l : List En} (hl : l.length < 4096) {x : En} {t : Int} {m : Mk} : thereB (putL l x t) m = true ↔ thereB l m = true ∨ (okB x t = true ∧ x.mark = m) := by
  rw [there_iff, there_iff]
  unfold putL
  split
  · rename_i hok
    split
    · rename_i hth
      constructor
      · intro h; exact .inl h
      · rintro (h | ⟨_, h⟩)
        · exact h
        · rw [← h]; exact there_iff.1 hth
    · rw [if_neg (by omega)]
      constructor
      · rintro ⟨e, h1, h2⟩
        rcases ins_mem.1 h1 with rfl | h1
        · exact .inr ⟨hok, h2⟩
        · exact .inl ⟨e, h1, h2⟩
      · rintro (⟨e, h1, h2⟩ | ⟨_, h⟩)
        · exact ⟨e, ins_mem.2 (.inr h1), h2⟩
        · exact ⟨x, ins_mem.2 (.inl rfl), h⟩
  · rename_i hok
    constructor
    · intro h; exact .inl h
    · rintro (h | ⟨h, _⟩)
      · exact h
      · exact absurd h hok
theorem putL_rises {l : List En} (hr : Rises l) (x : En) (t : Int) : Rises (putL l x t) := by
  unfold putL
  split
  · split
    · exact hr
    · rename_i hth
      split
      · exact hr
      · exact ins_rises hr (fun e he h => hth (there_iff.2 ⟨e, he, h⟩))
  · exact hr
theorem putAll_take {l : List (En × Int)} {k : Nat} {p : En × Int} (h : l[k]? = some p) : putAll (l.take (k + 1)) = putL (putAll (l.take k)) p.1 p.2 := by
  rw [List.take_add_one, h]
  exact putAll_snoc _ _
theorem putAll_length (l : List (En × Int)) (k : Nat) : (putAll (l.take k)).length ≤ k := by
  induction k with
  | zero => exact Nat.le_refl _
  | succ k ih =>
    cases h : l[k]? with
    | none =>
      rw [List.take_add_one, h]
      simp only [Option.toList, List.append_nil]
      omega
    | some p =>
      rw [putAll_take h]
      have := putL_length (putAll (l.take k)) p.1 p.2
      omega
theorem putAll_there (l : List (En × Int)) (k : Nat) (hk : k ≤ 4096) (m : Mk) : thereB (putAll (l.take k)) m = true ↔ ∃ p ∈ l.take k, okB p.1 p.2 = true ∧ p.1.mark = m := by
  induction k with
  | zero => simp [putAll, thereB]
  | succ k ih =>
    cases h : l[k]? with
    | none =>
      rw [List.take_add_one, h]
      simp only [Option.toList, List.append_nil]
      exact ih (by omega)
    | some p =>
      rw [putAll_take h, putL_there (by have := putAll_length l k; omega), ih (by omega), List.take_add_one, h]
      simp only [Option.toList, List.mem_append, List.mem_singleton]
      constructor
      · rintro (⟨q, h1, h2⟩ | h2)
        · exact ⟨q, .inl h1, h2⟩
        · exact ⟨p, .inr rfl, h2⟩
      · rintro ⟨q, h1 | h1, h2⟩
        · exact .inl ⟨q, h1, h2⟩
        · rw [h1] at h2; exact .inr h2
theorem putAll_rises (l : List (En × Int)) (k : Nat) (h0 : Rises ([] : List En)) : Rises (putAll (l.take k)) := by
  induction k with
  | zero => exact h0
  | succ k ih =>
    cases h : l[k]? with
    | none =>
      rw [List.take_add_one, h]
      simp only [Option.toList, List.append_nil]
      exact ih
    | some p => rw [putAll_take h]; exact putL_rises ih _ _
end Go.Proofs.Ythhmehkclgmppaa
