/- Heaps of lists of entries, and lists merged: the plain law. No condition. -/
import Derived.Test.YtefllplgbalbkaaGreatDoorMark
namespace Go.Proofs.YtefllplgbalbkaaGreatDoor
/-- A list of entries, with the slice that it is. -/
abbrev Ls := Value × List En
theorem Mk.le_trans {a b c : Mk} (h1 : b.ltB a = false) (h2 : c.ltB b = false) : c.ltB a = false := by
  cases h : c.ltB a with
  | false => rfl
  | true =>
    cases hab : a.ltB b with
    | true => rw [Mk.trans h hab] at h2; cases h2
    | false => rw [Mk.tri hab h1] at h; rw [h] at h2; cases h2
def zM : Mk := ⟨⟨#[]⟩, 0, false⟩
def hdM (p : Ls) : Mk := match p.2 with | [] => zM | x :: _ => x.mark
/-- The one's first entry does not stand behind the other one's. -/
def leH (p q : Ls) : Prop := (hdM q).ltB (hdM p) = false
theorem leH.refl (p : Ls) : leH p p := Mk.irrefl _
theorem leH.trans {p q r : Ls} (h1 : leH p q) (h2 : leH q r) : leH p r := Mk.le_trans h1 h2
theorem leH.of_lt {p q : Ls} (h : (hdM p).ltB (hdM q) = true) : leH p q := Mk.asymm h
def Child (i j : Nat) : Prop := j = 2 * i + 1 ∨ j = 2 * i + 2
def HPx (lo : Nat) (hs : List Ls) : Prop := ∀ i j p q, lo ≤ i → Child i j → hs[i]? = some p → hs[j]? = some q → leH p q
/-- The like but at one place. -/
structure HPb (lo at_ : Nat) (hs : List Ls) : Prop where
  a : ∀ i j p q, lo ≤ i → i ≠ at_ → Child i j → hs[i]? = some p → hs[j]? = some q → leH p q
  b : ∀ i j p q, lo ≤ i → Child i at_ → Child at_ j → hs[i]? = some p → hs[j]? = some q → leH p q
theorem HPb.start {lo : Nat} {hs : List Ls} (h : HPx (lo + 1) hs) : HPb lo lo hs :=
  ⟨fun i j p q h1 h2 h3 => h i j p q (by omega) h3, fun i j p q h1 h2 _ => by rcases h2 with h2 | h2 <;> omega⟩
theorem HPb.done {lo at_ : Nat} {hs : List Ls} (h : HPb lo at_ hs) {x : Ls} (hx : hs[at_]? = some x) (hc : ∀ j q, Child at_ j → hs[j]? = some q → leH x q) : HPx lo hs := fun i j p q h1 h2 h3 h4 => by
  by_cases hi : i = at_
  · subst hi
    rw [hx] at h3
    injection h3 with h3
    subst h3
    exact hc j q h2 h4
  · exact h.a i j p q h1 hi h2 h3 h4
theorem child_inj {i i' j : Nat} (h : Child i j) (h' : Child i' j) : i = i' := by rcases h with h | h <;> rcases h' with h' | h' <;> omega
theorem child_lt {i j : Nat} (h : Child i j) : i < j := by rcases h with h | h <;> omega
theorem HPb.step {lo at_ nx : Nat} {hs : List Ls} (h : HPb lo at_ hs) (hlo : lo ≤ at_) (hch : Child at_ nx) {x y : Ls} (hx : hs[at_]? = some x) (hy : hs[nx]? = some y) (hle : leH y x) (hmin : ∀ j q, Child at_ j → hs[j]? = some q → leH y q) :
    HPb lo nx ((hs.set at_ y).set nx x) := by
  have hla : at_ < hs.length := (List.getElem?_eq_some_iff.1 hx).1
  have hln : nx < hs.length := (List.getElem?_eq_some_iff.1 hy).1
  have hne : at_ ≠ nx := by have := child_lt hch; omega
  have gat : ((hs.set at_ y).set nx x)[at_]? = some y := by
    rw [List.getElem?_set_ne (fun e => hne e.symm), List.getElem?_set_self hla]
  have gnx : ((hs.set at_ y).set nx x)[nx]? = some x := by
    rw [List.getElem?_set_self (by rw [List.length_set]; exact hln)]
  have gel : ∀ k, k ≠ at_ → k ≠ nx → ((hs.set at_ y).set nx x)[k]? = hs[k]? := fun k h1 h2 => by
    rw [List.getElem?_set_ne (fun e => h2 e.symm), List.getElem?_set_ne (fun e => h1 e.symm)]
  refine ⟨fun i j p q h1 h2 h3 h4 h5 => ?_, fun i j p q h1 h2 h3 h4 h5 => ?_⟩
  · by_cases hia : i = at_
    · subst hia
      rw [gat] at h4
      injection h4 with h4
      subst h4
      by_cases hjn : j = nx
      · subst hjn
        rw [gnx] at h5
        injection h5 with h5
        subst h5
        exact hle
      · rw [gel j (fun e => by have := child_lt h3; omega) hjn] at h5
        exact hmin j q h3 h5
    · rw [gel i hia h2] at h4
      by_cases hja : j = at_
      · subst hja
        rw [gat] at h5
        injection h5 with h5
        subst h5
        exact h.b i nx p y h1 h3 hch h4 hy
      · by_cases hjn : j = nx
        · subst hjn
          exact absurd (child_inj h3 hch) hia
        · rw [gel j hja hjn] at h5
          exact h.a i j p q h1 hia h3 h4 h5
  · have hia : i = at_ := child_inj h2 hch
    subst hia
    rw [gat] at h4
    injection h4 with h4
    subst h4
    have h6 := child_lt h3
    have h7 := child_lt hch
    rw [gel j (by omega) (by omega)] at h5
    exact h.a nx j y q (by omega) (fun e => hne e.symm) h3 hy h5
theorem HPx.top {hs : List Ls} (h : HPx 0 hs) {x : Ls} (hx : hs[0]? = some x) : ∀ (k : Nat) (q : Ls), hs[k]? = some q → leH x q := by
  intro k
  induction k using Nat.strongRecOn with
  | ind k ih =>
    intro q hq
    by_cases hk : k = 0
    · subst hk
      rw [hx] at hq
      injection hq with hq
      subst hq
      exact leH.refl _
    · have hlt : k < hs.length := (List.getElem?_eq_some_iff.1 hq).1
      obtain ⟨i, hi⟩ : ∃ i, i = (k - 1) / 2 := ⟨_, rfl⟩
      have hch : Child i k := by unfold Child; omega
      obtain ⟨p, hp⟩ : ∃ p, hs[i]? = some p := ⟨_, List.getElem?_eq_getElem (by have := child_lt hch; omega)⟩
      exact (ih i (child_lt hch) p hp).trans (h i k p q (by omega) hch hp hq)
theorem HPx.all {hs : List Ls} {lo : Nat} (hn : hs.length ≤ lo) : HPx lo hs := fun i j p q h1 _ h3 _ => by
  have := (List.getElem?_eq_some_iff.1 h3).1
  omega
theorem HPx.mono {hs : List Ls} {lo lo' : Nat} (h : HPx lo hs) (hl : lo ≤ lo') : HPx lo' hs := fun i j p q h1 => h i j p q (by omega)
theorem HPx.half {hs : List Ls} {lo : Nat} (h : hs.length ≤ 2 * lo + 1) : HPx lo hs := fun i j p q h1 h2 _ h4 => by
  have := (List.getElem?_eq_some_iff.1 h4).1
  rcases h2 with h2 | h2 <;> omega
theorem swap_perm {hs : List Ls} {i j : Nat} {x y : Ls} (hx : hs[i]? = some x) (hy : hs[j]? = some y) (hne : i ≠ j) : ((hs.set i y).set j x).Perm hs := by
  have h1 : i < hs.length := (List.getElem?_eq_some_iff.1 hx).1
  have h2 : j < hs.length := (List.getElem?_eq_some_iff.1 hy).1
  have e1 : hs[i] = x := (List.getElem?_eq_some_iff.1 hx).2
  have e2 : hs[j] = y := (List.getElem?_eq_some_iff.1 hy).2
  classical
  rw [List.perm_iff_count]
  intro z
  rw [List.count_set (by rw [List.length_set]; exact h2), List.count_set h1, List.getElem_set_ne hne, e1, e2]
  have c1 : x ∈ hs := List.mem_of_getElem? hx
  have c2 : y ∈ hs := List.mem_of_getElem? hy
  have p1 := List.count_pos_iff.2 c1
  have p2 := List.count_pos_iff.2 c2
  by_cases hxz : x = z <;> by_cases hyz : y = z <;> simp [hxz, hyz] <;> try omega
  all_goals (first | (subst hxz; omega) | (subst hyz; omega) | skip)
end Go.Proofs.YtefllplgbalbkaaGreatDoor
