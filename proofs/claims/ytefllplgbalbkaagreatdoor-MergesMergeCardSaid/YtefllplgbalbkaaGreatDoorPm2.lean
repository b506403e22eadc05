/- Entries, thinned: what stays of one key's entries. No condition. -/
import Derived.Test.YtefllplgbalbkaaGreatDoorPm1
namespace Go.Proofs.YtefllplgbalbkaaGreatDoor
def pS (s : Nat) (e : En) : Bool := decide (e.mark.seq ≤ s)
/-- Does an entry of g stay? -/
def stE (looks : List Nat) (g : List En) (e : En) : Bool := decide (g.head? = some e) || looks.any fun s => decide (g.find? (pS s) = some e)
def stF (looks : List Nat) (g : List En) : List En := g.filter (stE looks g)
theorem idx_eq {g : List En} (hn : g.Nodup) {i j : Nat} {e : En} (hi : g[i]? = some e) (hj : g[j]? = some e) : i = j := by
  obtain ⟨h1, e1⟩ := List.getElem?_eq_some_iff.1 hi
  obtain ⟨h2, e2⟩ := List.getElem?_eq_some_iff.1 hj
  exact (List.getElem_inj hn).1 (e1.trans e2.symm)
theorem stB_iff {looks : List Nat} {g : List En} (hn : g.Nodup) {i : Nat} {e : En} (hi : g[i]? = some e) : stayB looks g i = stE looks g e := by
  rw [Bool.eq_iff_iff]
  unfold stayB stE
  simp only [Bool.or_eq_true, beq_iff_eq, decide_eq_true_eq, List.any_eq_true]
  constructor
  · rintro (rfl | ⟨s, hs, h⟩)
    · left; rw [List.head?_eq_getElem?]; exact hi
    · right
      refine ⟨s, hs, ?_⟩
      cases hf : g.find? (pS s) with
      | none => rw [show seenI g s = -1 from seenI_none hf] at h; omega
      | some e' =>
        obtain ⟨j, hj, hj2⟩ := seenI_some (s := s) hf
        rw [hj] at h
        have : j = i := by omega
        subst this
        rw [hi] at hj2
        exact hj2.symm
  · rintro (h | ⟨s, hs, h⟩)
    · left
      rw [List.head?_eq_getElem?] at h
      exact idx_eq hn hi h
    · right
      refine ⟨s, hs, ?_⟩
      obtain ⟨j, hj, hj2⟩ := seenI_some (s := s) h
      rw [hj, idx_eq hn hj2 hi]
theorem stayP_eq {looks : List Nat} {g : List En} (hn : g.Nodup) : ∀ k, k ≤ g.length → stayP looks g k = (g.take k).filter (stE looks g)
  | 0, _ => by simp [stayP]
  | k + 1, hk => by
    obtain ⟨x, hx⟩ : ∃ x, g[k]? = some x := ⟨_, List.getElem?_eq_getElem (by omega)⟩
    have ht : g.take (k + 1) = g.take k ++ [x] := by rw [List.take_add_one, hx]; rfl
    rw [stayP_succ hx, stayP_eq hn k (by omega), ht, List.filter_append, stB_iff hn hx]
    cases h : stE looks g x <;> simp [h]
theorem stayL_eq {looks : List Nat} {g : List En} (hn : g.Nodup) : stayL looks g = stF looks g := by
  unfold stayL stF
  rw [stayP_eq hn g.length (Nat.le_refl _), List.take_length]
theorem find_filter {g : List En} {p f : En → Bool} (h : ∀ e, g.find? p = some e → f e = true) : (g.filter f).find? p = g.find? p := by
  induction g with
  | nil => rfl
  | cons x g ih =>
    rw [List.find?_cons] at h ⊢
    cases hp : p x with
    | true =>
      rw [hp] at h
      have hf := h x rfl
      rw [List.filter_cons, if_pos hf, List.find?_cons, hp]
    | false =>
      rw [hp] at h
      rw [List.filter_cons]
      split
      · rw [List.find?_cons, hp]; exact ih h
      · exact ih h
theorem stF_head {looks : List Nat} {g : List En} : (stF looks g).head? = g.head? := by
  unfold stF
  cases g with
  | nil => rfl
  | cons x g =>
    rw [List.filter_cons, if_pos (by unfold stE; simp)]
    rfl
theorem stF_find {looks : List Nat} {g : List En} {s : Nat} (hs : s ∈ looks ∨ ∀ e ∈ g, e.mark.seq ≤ s) : (stF looks g).find? (pS s) = g.find? (pS s) := by
  refine find_filter fun e he => ?_
  unfold stE
  rcases hs with hs | hs
  · rw [Bool.or_eq_true, List.any_eq_true]
    exact .inr ⟨s, hs, by simpa using he⟩
  · rw [Bool.or_eq_true]
    left
    cases g with
    | nil => cases he
    | cons x g =>
      rw [List.find?_cons, show pS s x = true by unfold pS; exact decide_eq_true (hs x (List.mem_cons_self ..))] at he
      injection he with he
      rw [← he]; simp
theorem stF_stE {looks : List Nat} {g : List En} (e : En) : stE looks (stF looks g) e = stE looks g e := by
  unfold stE
  rw [stF_head]
  congr 1
  rw [Bool.eq_iff_iff, List.any_eq_true, List.any_eq_true]
  constructor <;> (rintro ⟨s, hs, h⟩; exact ⟨s, hs, by rw [stF_find (.inl hs)] at *; exact h⟩)
theorem stF_idem {looks : List Nat} {g : List En} : stF looks (stF looks g) = stF looks g := by
  have : stF looks (stF looks g) = (stF looks g).filter (stE looks g) := by
    conv => lhs; unfold stF
    exact List.filter_congr fun e _ => stF_stE e
  rw [this]
  unfold stF
  rw [List.filter_filter]
  exact List.filter_congr fun e _ => by simp
theorem stF_ne {looks : List Nat} {g : List En} (h : g ≠ []) : stF looks g ≠ [] := by
  intro e
  have := stF_head (looks := looks) (g := g)
  rw [e] at this
  cases g with
  | nil => exact h rfl
  | cons x g => cases this
theorem stF_sub {looks : List Nat} {g : List En} : (stF looks g).Sublist g := List.filter_sublist
/-- What is trimmed. -/
theorem trim_split (l : List En) : ∃ d, l = trimL l ++ d ∧ (∀ e ∈ d, e.mark.gone = true) ∧ ∀ e, (trimL l).getLast? = some e → e.mark.gone = false := by
  unfold trimL
  refine ⟨(l.reverse.takeWhile (fun e => e.mark.gone)).reverse, ?_, fun e he => ?_, fun e he => ?_⟩
  · rw [← List.reverse_append, List.takeWhile_append_dropWhile, List.reverse_reverse]
  · exact mem_tw (List.mem_reverse.1 he)
  · rw [List.getLast?_reverse] at he
    have := List.head?_dropWhile_not (fun e : En => e.mark.gone) l.reverse
    rw [he] at this
    simpa using this
theorem trim_of {l : List En} (h : ∀ e, l.getLast? = some e → e.mark.gone = false) : trimL l = l := by
  unfold trimL
  rw [← List.head?_reverse] at h
  cases hr : l.reverse with
  | nil => rw [List.reverse_eq_nil_iff.1 hr]; rfl
  | cons x r =>
    rw [List.dropWhile_cons, if_neg (by rw [h x (by rw [hr]; rfl)]; decide), ← hr, List.reverse_reverse]
theorem trim_idem (l : List En) : trimL (trimL l) = trimL l := by
  obtain ⟨_, _, _, h⟩ := trim_split l
  exact trim_of h
theorem trim_app (a b : List En) : trimL (a ++ b) = if trimL b = [] then trimL a else a ++ trimL b := by
  unfold trimL
  rw [List.reverse_append]
  have key : ∀ (x y : List En), (x ++ y).dropWhile (fun e => e.mark.gone) = if x.dropWhile (fun e => e.mark.gone) = [] then y.dropWhile (fun e => e.mark.gone) else x.dropWhile (fun e => e.mark.gone) ++ y := by
    intro x y
    induction x with
    | nil => simp
    | cons z x ih =>
      rw [List.cons_append, List.dropWhile_cons, List.dropWhile_cons]
      cases hz : z.mark.gone with
      | true => simp only [if_true]; exact ih
      | false => simp
  rw [key]
  by_cases h : b.reverse.dropWhile (fun e => e.mark.gone) = []
  · rw [if_pos h, if_pos (by rw [h]; rfl)]
  · rw [if_neg h, if_neg (by intro e; exact h (List.reverse_eq_nil_iff.1 e)), List.reverse_append, List.reverse_reverse]
/-- One key's entries, thinned. -/
def thG (looks : List Nat) (last : Bool) (g : List En) : List En := if last then trimL (stF looks g) else stF looks g
theorem thG_sub {looks : List Nat} {last : Bool} {g : List En} : (thG looks last g).Sublist g := by
  unfold thG
  split
  · obtain ⟨d, h, _⟩ := trim_split (stF looks g)
    have h2 : (trimL (stF looks g)).Sublist (stF looks g) := by
      conv => rhs; rw [h]
      exact List.sublist_append_left _ _
    exact h2.trans stF_sub
  · exact stF_sub
theorem thG_see {looks : List Nat} {last : Bool} {g : List En} {s : Nat} (hs : s ∈ looks ∨ ∀ e ∈ g, e.mark.seq ≤ s) : seeG s (thG looks last g) = seeG s g := by
  have hf := stF_find hs
  have e0 : ∀ l, seeG s l = match l.find? (pS s) with | some e => if e.mark.gone then none else some ⟨e.mark.key, e.val⟩ | none => none := fun l => rfl
  unfold thG
  split
  · obtain ⟨d, h, hd, _⟩ := trim_split (stF looks g)
    rw [e0, e0, ← hf]
    conv => rhs; rw [h, List.find?_append]
    cases ht : (trimL (stF looks g)).find? (pS s) with
    | some e => rfl
    | none =>
      rw [Option.none_or]
      cases hdf : d.find? (pS s) with
      | none => rfl
      | some e =>
        show none = if e.mark.gone = true then none else some _
        rw [hd e (List.mem_of_find?_eq_some hdf)]; rfl
  · rw [e0, e0, hf]
theorem thG_idem {looks : List Nat} {last : Bool} {g : List En} (hn : g.Nodup) : thG looks last (thG looks last g) = thG looks last g := by
  unfold thG
  cases last with
  | false => simp only [Bool.false_eq_true, if_false]; exact stF_idem
  | true =>
    simp only [if_true]
    obtain ⟨d, h, hd, hl⟩ := trim_split (stF looks g)
    have hnd : (trimL (stF looks g) ++ d).Nodup := by rw [← h]; exact hn.sublist stF_sub
    have hst : stF looks (trimL (stF looks g)) = trimL (stF looks g) := by
      rw [stF, List.filter_eq_self]
      intro e he
      have hem : e ∈ stF looks g := by rw [h]; exact List.mem_append_left _ he
      have h1 : stE looks (stF looks g) e = true := by rw [stF_stE]; exact (List.mem_filter.1 hem).2
      unfold stE at h1 ⊢
      rw [Bool.or_eq_true] at h1 ⊢
      rcases h1 with h1 | h1
      · left
        have h2 := of_decide_eq_true h1
        rw [h] at h2
        refine decide_eq_true ?_
        cases ht : trimL (stF looks g) with
        | nil => rw [ht] at he; cases he
        | cons x r => rw [ht] at h2; exact h2
      · right
        rw [List.any_eq_true] at h1 ⊢
        obtain ⟨s, hs, h2⟩ := h1
        refine ⟨s, hs, ?_⟩
        have h3 := of_decide_eq_true h2
        rw [h, List.find?_append] at h3
        refine decide_eq_true ?_
        cases ht : (trimL (stF looks g)).find? (pS s) with
        | some e' => rw [ht] at h3; exact h3
        | none =>
          rw [ht, Option.none_or] at h3
          have hed := List.mem_of_find?_eq_some h3
          exact absurd rfl ((List.nodup_append.1 hnd).2.2 e he e hed)
    rw [hst, trim_of hl]
theorem thinK_eq {looks : List Nat} {last : Bool} : ∀ (gs : List (List En)), (∀ g ∈ gs, g.Nodup) → ∀ out, (last = true → trimL out = out) → gs.foldl (thinStep looks last) out = out ++ (gs.map (thG looks last)).flatten
  | [], _, out, _ => by simp
  | g :: gs, hn, out, ho => by
    have hg := hn g (List.mem_cons_self ..)
    have hstep : thinStep looks last out g = out ++ thG looks last g := by
      unfold thinStep thG
      rw [stayL_eq hg]
      cases last with
      | false => rfl
      | true =>
        simp only [if_true]
        rw [trim_app]
        split
        · rename_i h; rw [h, List.append_nil]; exact ho rfl
        · rfl
    rw [List.foldl_cons, hstep, thinK_eq gs (fun x hx => hn x (List.mem_cons_of_mem _ hx)) _ (fun hl => ?_), List.map_cons, List.flatten_cons, List.append_assoc]
    subst hl
    unfold thG
    simp only [if_true]
    rw [trim_app, trim_idem]
    split
    · rename_i h; rw [h, List.append_nil]; exact ho rfl
    · rfl
theorem thinL_eq {looks : List Nat} {last : Bool} {l : List En} (h : Rises l) : thinL l looks last = ((keyG l).map (thG looks last)).flatten := by
  unfold thinL thinK
  rw [thinK_eq _ (fun g hg => (grp_rises h hg).nodup) [] (fun _ => rfl), List.nil_append]
end Go.Proofs.YtefllplgbalbkaaGreatDoor
