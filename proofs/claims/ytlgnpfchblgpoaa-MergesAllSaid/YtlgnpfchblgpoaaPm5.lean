/- Plain facts that the laws of bucketlinelaw12 ask for. No condition. -/
import Derived.Test.YtlgnpfchblgpoaaPm4
namespace Go.Proofs.Ytlgnpfchblgpoaa
theorem split_at {α : Type} {l : List α} {k : Nat} {x : α} (h : l[k]? = some x) : l = l.take k ++ x :: l.drop (k + 1) := by
  obtain ⟨h1, h2⟩ := List.getElem?_eq_some_iff.1 h
  have := List.take_append_drop k l
  rw [List.drop_eq_getElem_cons h1, h2] at this
  exact this.symm
theorem hdL_at {l : List En} {f : En → Bool} {k : Nat} {x : En} (hx : l[k]? = some x) (hf : f x = true) : ∃ r, hdL none (l.filter f) = hdL none ((l.take k).filter f) ++ (hd1 (lastK none ((l.take k).filter f)) x ++ r) := by
  refine ⟨hdL (some x.mark.key.toList) ((l.drop (k + 1)).filter f), ?_⟩
  conv => lhs; rw [split_at hx]
  rw [List.filter_append, List.filter_cons, if_pos hf, hdL_app]
  rfl
/-- Of one key's entries the first one is at the head of a group. -/
theorem grp_head : ∀ {gs : List (List En)}, Grps gs → ∀ {i : Nat} {x : En}, gs.flatten[i]? = some x → (∀ j y, i = j + 1 → gs.flatten[j]? = some y → y.mark.key.toList ≠ x.mark.key.toList) → ∃ g ∈ gs, g.head? = some x
  | [], _, i, x, hx, _ => by simp at hx
  | g :: gs, h, i, x, hx, hh => by
    rw [List.flatten_cons] at hx hh
    by_cases hi : i < g.length
    · rw [List.getElem?_append_left hi] at hx
      cases i with
      | zero => exact ⟨g, List.mem_cons_self .., by rw [List.head?_eq_getElem?]; exact hx⟩
      | succ j =>
        obtain ⟨y, hy⟩ : ∃ y, g[j]? = some y := ⟨_, List.getElem?_eq_getElem (by omega)⟩
        have := hh j y rfl (by rw [List.getElem?_append_left (by omega)]; exact hy)
        exact absurd (h.one g (List.mem_cons_self ..) y (List.mem_of_getElem? hy) x (List.mem_of_getElem? hx)) this
    · rw [List.getElem?_append_right (by omega)] at hx
      obtain ⟨g', hg', hd⟩ := grp_head h.tail hx (fun j y hj hy => hh (g.length + j) y (by omega) (by rw [List.getElem?_append_right (by omega), Nat.add_sub_cancel_left]; exact hy))
      exact ⟨g', List.mem_cons_of_mem _ hg', hd⟩
theorem head_left {l : List En} (h : Rises l) {looks : List Nat} {i : Nat} {x : En} (hx : l[i]? = some x) (hh : ∀ j y, i = j + 1 → l[j]? = some y → y.mark.key.toList ≠ x.mark.key.toList) : x ∈ thinL l looks false := by
  obtain ⟨g, hg, hd⟩ := grp_head (gs := keyG l) (keyG_grps h) (i := i) (x := x) (by rw [keyG_flat]; exact hx) (fun j y hj hy => hh j y hj (by rw [keyG_flat] at hy; exact hy))
  rw [thinL_eq h]
  refine List.mem_flatten.2 ⟨thG looks false g, List.mem_map_of_mem hg, ?_⟩
  show x ∈ stF looks g
  refine List.mem_filter.2 ⟨List.mem_of_head? hd, ?_⟩
  unfold stE
  rw [hd]
  simp
theorem thin_le {l : List En} (h : Rises l) (looks : List Nat) : (thinL l looks true).length ≤ (thinL l looks false).length := by
  rw [thinL_eq h, thinL_eq h]
  generalize keyG l = gs
  induction gs with
  | nil => exact Nat.le_refl _
  | cons g gs ih =>
    rw [List.map_cons, List.flatten_cons, List.map_cons, List.flatten_cons, List.length_append, List.length_append]
    have h1 : (thG looks true g).length ≤ (thG looks false g).length := by
      obtain ⟨d, hd, _⟩ := trim_split (stF looks g)
      show (trimL (stF looks g)).length ≤ (stF looks g).length
      conv => rhs; rw [hd, List.length_append]
      omega
    omega
theorem rises_at {b : List En} (h : Rises b) {p q : Nat} {x y : En} (hp : b[p]? = some x) (hq : b[q]? = some y) (hpq : p < q) : x.mark.ltB y.mark = true := by
  obtain ⟨h1, rfl⟩ := List.getElem?_eq_some_iff.1 hp
  obtain ⟨h2, rfl⟩ := List.getElem?_eq_some_iff.1 hq
  exact List.pairwise_iff_getElem.1 h p q h1 h2 hpq
theorem at_le {b : List En} (h : Rises b) {p q : Nat} {x y : En} (hp : b[p]? = some x) (hq : b[q]? = some y) (hlt : y.mark.ltB x.mark = true) : q ≤ p := by
  rcases Nat.lt_or_ge p q with h1 | h1
  · have := rises_at h hp hq h1
    rw [Mk.asymm this] at hlt
    cases hlt
  · exact h1
theorem rises_ne {b : List En} (h : Rises b) {p q : Nat} {x y : En} (hp : b[p]? = some x) (hq : b[q]? = some y) (hpq : p < q) : x ≠ y := fun e => by
  have := rises_at h hp hq hpq
  rw [e, Mk.irrefl] at this
  cases this
/-- A sublist of what has no entry twice is what is in it. -/
theorem sub_filter {s l : List En} (h : s.Sublist l) (hn : l.Nodup) : s = l.filter fun e => decide (e ∈ s) := by
  induction h with
  | slnil => rfl
  | cons x h ih =>
    obtain ⟨h1, h2⟩ := List.nodup_cons.1 hn
    rw [List.filter_cons, if_neg (by simpa using fun hm => h1 (h.mem hm))]
    exact ih h2
  | cons_cons x h ih =>
    rename_i s' l'
    obtain ⟨h1, h2⟩ := List.nodup_cons.1 hn
    rw [List.filter_cons, if_pos (by simp)]
    congr 1
    rw [← (show l'.filter (fun e => decide (e ∈ s')) = l'.filter (fun e => decide (e ∈ x :: s')) from ?_)]
    · exact ih h2
    · refine List.filter_congr fun e he => ?_
      have : e ≠ x := fun q => h1 (q ▸ he)
      simp [this]
theorem mem_thin {l : List En} (h : Rises l) {looks : List Nat} {e : En} : e ∈ thinL l looks false ↔ ∃ g ∈ keyG l, e ∈ g ∧ stE looks g e = true := by
  rw [thinL_eq h]
  constructor
  · intro he
    obtain ⟨t, ht, he⟩ := List.mem_flatten.1 he
    obtain ⟨g, hg, rfl⟩ := List.mem_map.1 ht
    obtain ⟨h1, h2⟩ := List.mem_filter.1 (show e ∈ g.filter (stE looks g) from he)
    exact ⟨g, hg, h1, h2⟩
  · rintro ⟨g, hg, h1, h2⟩
    exact List.mem_flatten.2 ⟨_, List.mem_map_of_mem hg, show e ∈ g.filter (stE looks g) from List.mem_filter.2 ⟨h1, h2⟩⟩
theorem mem_both {l : List En} (h : Rises l) {a b : List Nat} {e : En} : e ∈ thinL l (a ++ b) false ↔ e ∈ thinL l a false ∨ e ∈ thinL l b false := by
  rw [mem_thin h, mem_thin h, mem_thin h]
  have hs : ∀ g, stE (a ++ b) g e = (stE a g e || stE b g e) := fun g => by
    unfold stE
    rw [List.any_append]
    cases decide (g.head? = some e) <;> simp
  constructor
  · rintro ⟨g, hg, h1, h2⟩
    rw [hs, Bool.or_eq_true] at h2
    rcases h2 with h2 | h2
    · exact .inl ⟨g, hg, h1, h2⟩
    · exact .inr ⟨g, hg, h1, h2⟩
  · rintro (⟨g, hg, h1, h2⟩ | ⟨g, hg, h1, h2⟩)
    · exact ⟨g, hg, h1, by rw [hs, h2]; rfl⟩
    · exact ⟨g, hg, h1, by rw [hs, h2]; simp⟩
/-- What is left of some looks, as a choice of what is left of more. -/
theorem thin_of {l : List En} (h : Rises l) {a c : List Nat} (hs : ∀ e, e ∈ thinL l a false → e ∈ thinL l c false) : thinL l a false = (thinL l c false).filter fun e => decide (e ∈ thinL l a false) := by
  have h1 := sub_filter (thin_sub (looks := a) (last := false) h) h.nodup
  have h2 := sub_filter (thin_sub (looks := c) (last := false) h) h.nodup
  conv => rhs; rw [h2]
  rw [List.filter_filter]
  conv => lhs; rw [h1]
  refine List.filter_congr fun e _ => ?_
  by_cases he : e ∈ thinL l a false
  · simp [he, hs e he]
  · simp [he]
/-- A choice of c, gone through beside c. -/
theorem flt_at {a c : List En} {f : En → Bool} (h : a = c.filter f) {k : Nat} {x : En} (hx : c[k]? = some x) : (f x = true → a[((c.take k).filter f).length]? = some x) ∧ (f x = false → a[((c.take k).filter f).length]? ≠ some x) ∧ (c.take (k + 1)).filter f = if f x then (c.take k).filter f ++ [x] else (c.take k).filter f := by
  refine ⟨fun hf => ?_, fun hf e => ?_, ?_⟩
  · conv => lhs; rw [h]
    conv => lhs; arg 1; rw [split_at hx, List.filter_append, List.filter_cons, if_pos hf]
    rw [List.getElem?_append_right (Nat.le_refl _), Nat.sub_self]
    rfl
  · have hm := List.mem_of_getElem? e
    rw [h] at hm
    rw [(List.mem_filter.1 hm).2] at hf
    cases hf
  · rw [List.take_add_one, hx, List.filter_append]
    cases h : f x <;> simp [h]
theorem flt_le {c : List En} {f : En → Bool} (k : Nat) : ((c.take k).filter f).length ≤ (c.filter f).length := (List.Sublist.filter f (List.take_sublist k c)).length_le
/-- Cut where the keys part. -/
theorem key_split {l : List En} (h : Rises l) {k : Nat} (hk : ∀ x ∈ l.take k, ∀ y ∈ l.drop k, Op.bytesLess x.mark.key.toList y.mark.key.toList = true) : keyG l = keyG (l.take k) ++ keyG (l.drop k) := by
  have h1 := keyG_grps (h.sublist (List.take_sublist k l))
  have h2 := keyG_grps (h.sublist (List.drop_sublist k l))
  have hg : Grps (keyG (l.take k) ++ keyG (l.drop k)) := by
    refine ⟨fun g hg => ?_, fun g hg => ?_, List.pairwise_append.2 ⟨h1.lt, h2.lt, fun g hg g' hg' x hx y hy => hk x ?_ y ?_⟩⟩
    · rcases List.mem_append.1 hg with hg | hg
      · exact h1.ne g hg
      · exact h2.ne g hg
    · rcases List.mem_append.1 hg with hg | hg
      · exact h1.one g hg
      · exact h2.one g hg
    · have := keyG_flat (l.take k)
      rw [← this]; exact List.mem_flatten.2 ⟨g, hg, hx⟩
    · have := keyG_flat (l.drop k)
      rw [← this]; exact List.mem_flatten.2 ⟨g', hg', hy⟩
  have := keyG_of hg
  rwa [List.flatten_append, keyG_flat, keyG_flat, List.take_append_drop] at this
theorem thin_split {l : List En} (h : Rises l) {k : Nat} (hk : ∀ x ∈ l.take k, ∀ y ∈ l.drop k, Op.bytesLess x.mark.key.toList y.mark.key.toList = true) (looks : List Nat) (last : Bool) : thinL l looks last = thinL (l.take k) looks last ++ thinL (l.drop k) looks last := by
  rw [thinL_eq h, thinL_eq (h.sublist (List.take_sublist k l)), thinL_eq (h.sublist (List.drop_sublist k l)), key_split h hk, List.map_append, List.flatten_append]
theorem see_split {l : List En} (h : Rises l) {k : Nat} (hk : ∀ x ∈ l.take k, ∀ y ∈ l.drop k, Op.bytesLess x.mark.key.toList y.mark.key.toList = true) (s : Nat) : seeL l s = seeL (l.take k) s ++ seeL (l.drop k) s := by
  unfold seeL
  rw [key_split h hk, List.filterMap_append]
/-- Parted where the keys are not ahead of a key any more. -/
theorem cut_lt {l : List En} (h : Rises l) {k : Nat} {s : ByteArray} (h1 : ∀ j x, j < k → l[j]? = some x → Op.bytesLess x.mark.key.toList s.toList = true) (h2 : ∀ x, l[k]? = some x → Op.bytesLess x.mark.key.toList s.toList = false) : ∀ x ∈ l.take k, ∀ y ∈ l.drop k, Op.bytesLess x.mark.key.toList y.mark.key.toList = true := by
  intro x hx y hy
  obtain ⟨j, hj⟩ := List.mem_iff_getElem?.1 hx
  obtain ⟨i, hi⟩ := List.mem_iff_getElem?.1 hy
  rw [List.getElem?_drop] at hi
  rw [List.getElem?_take] at hj
  split at hj
  · rename_i hjk
    have a1 := h1 j x hjk hj
    obtain ⟨z, hz⟩ : ∃ z, l[k]? = some z := ⟨_, List.getElem?_eq_getElem (by have := (List.getElem?_eq_some_iff.1 hi).1; omega)⟩
    have a2 := h2 z hz
    have a3 : Op.bytesLess y.mark.key.toList s.toList = false := by
      cases i with
      | zero =>
        rw [Nat.add_zero, hz] at hi
        injection hi with hi
        rw [← hi]; exact a2
      | succ i =>
        have hlt := rises_at h hz hi (by omega)
        cases hb : Op.bytesLess y.mark.key.toList s.toList with
        | false => rfl
        | true =>
          rcases Mk.lt_iff.1 hlt with e | ⟨e, _⟩
          · rw [bl_trans _ _ _ e hb] at a2; cases a2
          · rw [e, hb] at a2; cases a2
    cases hb : Op.bytesLess x.mark.key.toList y.mark.key.toList with
    | true => rfl
    | false =>
      by_cases hyx : Op.bytesLess y.mark.key.toList x.mark.key.toList = true
      · rw [bl_trans _ _ _ hyx a1] at a3; cases a3
      · have := bl_tri _ _ hb (by simpa using hyx)
        rw [← this, a1] at a3; cases a3
  · cases hj
end Go.Proofs.Ytlgnpfchblgpoaa
