/- Plain law of TablesOrder. No condition. -/
import Derived.Test.YthhmehkclgmppaaFul7a
namespace Go.Proofs.Ythhmehkclgmppaa
open Go.RowKit
theorem rises_ext : ∀ {a b : List En}, Rises a → Rises b → (∀ e, e ∈ a ↔ e ∈ b) → a = b
  | [], [], _, _, _ => rfl
  | [], y :: b, _, _, h => by have := (h y).2 (List.mem_cons_self ..); cases this
  | x :: a, [], _, _, h => by have := (h x).1 (List.mem_cons_self ..); cases this
  | x :: a, y :: b, ha, hb, h => by
    obtain ⟨ha1, ha2⟩ := List.pairwise_cons.1 ha
    obtain ⟨hb1, hb2⟩ := List.pairwise_cons.1 hb
    have hxy : x = y := by
      rcases List.mem_cons.1 ((h x).1 (List.mem_cons_self ..)) with h1 | h1
      · exact h1
      · rcases List.mem_cons.1 ((h y).2 (List.mem_cons_self ..)) with h2 | h2
        · exact h2.symm
        · have l1 := hb1 x h1
          have l2 := ha1 y h2
          have := Mk.asymm l1
          rw [l2] at this; cases this
    subst hxy
    rw [rises_ext ha2 hb2 (fun e => ?_)]
    constructor
    · intro he
      rcases List.mem_cons.1 ((h e).1 (List.mem_cons_of_mem _ he)) with h1 | h1
      · subst h1; have := ha1 e he; rw [Mk.irrefl] at this; cases this
      · exact h1
    · intro he
      rcases List.mem_cons.1 ((h e).2 (List.mem_cons_of_mem _ he)) with h1 | h1
      · subst h1; have := hb1 e he; rw [Mk.irrefl] at this; cases this
      · exact h1
theorem tabL_all {l : List En} (hf : ∀ e ∈ l, fineB e = true) (hd : l.Pairwise fun a b => a.mark ≠ b.mark) (hl : l.length ≤ 4096) : ∀ k, ∀ e, e ∈ tabL (l.take k) ↔ e ∈ l.take k := by
  intro k
  induction k with
  | zero => intro e; simp [tabL]
  | succ k ih =>
    intro e
    cases hx : l[k]? with
    | none =>
      rw [List.take_add_one, hx]
      simp only [Option.toList, List.append_nil]
      exact ih e
    | some x =>
      have hkl := (List.getElem?_eq_some_iff.1 hx).1
      have hlen : (tabL (l.take k)).length ≤ k := by have := tabL_length (l.take k); rw [List.length_take] at this; omega
      have hnew : ∀ y ∈ tabL (l.take k), y.mark ≠ x.mark := fun y hy => by
        have hy2 := (ih y).1 hy
        have hsp : l.take k ++ x :: l.drop (k + 1) = l := by
          have : l.drop k = x :: l.drop (k + 1) := by
            rw [List.drop_eq_getElem_cons hkl]
            have h9 := List.getElem?_eq_getElem hkl
            rw [hx] at h9
            injection h9 with h9
            rw [← h9]
          rw [← this, List.take_append_drop]
        rw [← hsp] at hd
        exact (List.pairwise_append.1 hd).2.2 y hy2 x (List.mem_cons_self ..)
      rw [tabL_take hx, (put_new (by decide) (by decide) (hf x (List.mem_of_getElem? hx)) hnew).2, if_neg (by omega), ins_mem, List.take_add_one, hx, List.mem_append, ih e]
      simp only [Option.toList, List.mem_singleton]
      exact ⟨fun h => h.symm, fun h => h.symm⟩
theorem tabL_rot {L : List En} (hr : Rises L) (hf : ∀ e ∈ L, fineB e = true) (hl : L.length ≤ 4096) (r : Nat) : tabL (L.drop r ++ L.take r) = L := by
  have hmem : ∀ e, e ∈ L.drop r ++ L.take r ↔ e ∈ L := fun e => by
    rw [List.mem_append]
    conv => rhs; rw [← List.take_append_drop r L]
    rw [List.mem_append]
    exact ⟨fun h => h.symm, fun h => h.symm⟩
  have hsp := hr
  unfold Rises at hsp
  rw [← List.take_append_drop r L] at hsp
  obtain ⟨h1, h2, h3⟩ := List.pairwise_append.1 hsp
  have hne : ∀ {a b : En}, a.mark.ltB b.mark = true → a.mark ≠ b.mark := fun h he => by rw [he, Mk.irrefl] at h; cases h
  have hd : (L.drop r ++ L.take r).Pairwise fun a b => a.mark ≠ b.mark := by
    refine List.pairwise_append.2 ⟨h2.imp hne, h1.imp hne, fun a ha b hb => ?_⟩
    exact fun he => hne (h3 b hb a ha) he.symm
  have hlen : (L.drop r ++ L.take r).length ≤ 4096 := by simp; omega
  have ha := tabL_all (fun e he => hf e ((hmem e).1 he)) hd hlen (L.drop r ++ L.take r).length
  rw [List.take_of_length_le (Nat.le_refl _)] at ha
  exact rises_ext (tabL_rises _) hr (fun e => (ha e).trans (hmem e))
/-- Is number k the first one that may be, of its mark? -/
def firstB (l : List En) (k : Nat) (c : En) : Bool := fineB c && !thF (l.take k) c.mark
theorem first_count {l : List En} (hl : l.length ≤ 1000) {k : Nat} {c : En} (hc : l[k]? = some c) : (tabL (l.take (k + 1))).length = (tabL (l.take k)).length + if firstB l k c = true then 1 else 0 := by
  rw [tabL_take hc]
  have hkl := (List.getElem?_eq_some_iff.1 hc).1
  have hlen : (tabL (l.take k)).length ≤ k := by have := tabL_length (l.take k); rw [List.length_take] at this; omega
  unfold putL firstB
  rw [okB_one, thF_tabL (by rw [List.length_take]; omega)]
  cases fineB c <;> cases thF (l.take k) c.mark <;> simp [ins_length, show ¬ 4096 ≤ (tabL (l.take k)).length by omega]
theorem tabL_sub {l : List En} {e : En} : ∀ k, e ∈ tabL (l.take k) → ∀ j, e ∈ tabL (l.take (k + j))
  | k, h, 0 => h
  | k, h, j + 1 => by
    have ih := tabL_sub k h j
    cases hx : l[k + j]? with
    | none =>
      rw [← Nat.add_assoc, List.take_add_one, hx]
      simp only [Option.toList, List.append_nil]
      exact ih
    | some x =>
      rw [← Nat.add_assoc, tabL_take hx]
      unfold putL
      split
      · split
        · exact ih
        · split
          · exact ih
          · exact ins_mem.2 (.inr ih)
      · exact ih
theorem first_mem {l : List En} (hl : l.length ≤ 1000) {k : Nat} {c : En} (hc : l[k]? = some c) (h : firstB l k c = true) : c ∈ tabL l := by
  have hkl := (List.getElem?_eq_some_iff.1 hc).1
  have hlen : (tabL (l.take k)).length ≤ k := by have := tabL_length (l.take k); rw [List.length_take] at this; omega
  have h1 : c ∈ tabL (l.take (k + 1)) := by
    rw [tabL_take hc]
    unfold firstB at h
    rw [Bool.and_eq_true, Bool.not_eq_true'] at h
    unfold putL
    rw [okB_one, h.1, if_pos rfl, thF_tabL (by rw [List.length_take]; omega), h.2, if_neg (by decide), if_neg (by omega)]
    exact ins_mem.2 (.inl rfl)
  have := tabL_sub (k + 1) h1 (l.length - (k + 1))
  rw [List.take_of_length_le (by omega)] at this; exact this
def hasB (L : List En) (c : En) : Bool := L.any fun e => sameEB e c
theorem hasB_iff {L : List En} {c : En} : hasB L c = true ↔ c ∈ L := by
  unfold hasB; rw [List.any_eq_true]
  constructor
  · rintro ⟨e, h1, h2⟩; rw [← sameE_iff.1 h2]; exact h1
  · intro h; exact ⟨c, h, sameE_iff.2 rfl⟩
theorem hasB_take {L : List En} {c e : En} {k : Nat} (h : L[k]? = some e) : hasB (L.take (k + 1)) c = (hasB (L.take k) c || sameEB e c) := by
  unfold hasB; rw [List.take_add_one, h, List.any_append]; simp
end Go.Proofs.Ythhmehkclgmppaa
