/- Rows by their keys: what is found in rows behind changes; rows that rise are told by what is found in them. No condition. -/
import Derived.Test.YtmjoaiepfipmaaaMod11
namespace Go.Proofs.Ytmjoaiepfipmaaa
open Go.RowKit
theorem ba_data {a b : ByteArray} (h : a.data.toList = b.data.toList) : a = b := by
  obtain ⟨⟨a⟩⟩ := a; obtain ⟨⟨b⟩⟩ := b
  simp only at h
  rw [h]
theorem isK_iff {k : ByteArray} {r : Rw} : isK k r = true ↔ r.key = k := by
  unfold isK
  rw [beq_iff_eq]
  exact ⟨ba_data, fun h => by rw [h]⟩
theorem isK_false {k : ByteArray} {r : Rw} : isK k r = false ↔ r.key ≠ k := by
  rw [← Bool.not_eq_true, Ne, isK_iff]
theorem find_insW (x : Rw) (k : ByteArray) : ∀ l : List Rw, (∀ r ∈ l, r.key ≠ x.key) → findW (insW x l) k = if x.key = k then some x else findW l k
  | [], _ => by
    unfold insW findW
    rw [List.find?_cons]
    by_cases h : x.key = k
    · rw [isK_iff.2 h, if_pos h]
    · rw [isK_false.2 h, if_neg h]
  | y :: r, hl => by
    have ih := find_insW x k r (fun z hz => hl z (List.mem_cons_of_mem _ hz))
    have hy := hl y (List.mem_cons_self ..)
    unfold insW
    unfold findW at *
    split
    · rw [List.find?_cons]
      by_cases h : x.key = k
      · rw [isK_iff.2 h, if_pos h]
      · rw [isK_false.2 h, if_neg h]
    · rw [List.find?_cons, ih, List.find?_cons]
      by_cases h : x.key = k
      · have : y.key ≠ k := fun e => hy (e.trans h.symm)
        rw [isK_false.2 this, if_pos h]
      · rw [if_neg h, if_neg h]
theorem find_filter (k k' : ByteArray) : ∀ l : List Rw, findW (l.filter fun r => !(r.key.data.toList == k.data.toList)) k' = if k = k' then none else findW l k'
  | [] => by unfold findW; simp
  | y :: r => by
    have ih := find_filter k k' r
    unfold findW at *
    have e : (y.key.data.toList == k.data.toList) = isK k y := rfl
    rw [List.filter_cons, e, List.find?_cons]
    by_cases hy : y.key = k
    · rw [isK_iff.2 hy]
      simp only [Bool.not_true, Bool.false_eq_true, if_false]
      rw [ih]
      by_cases h : k = k'
      · rw [if_pos h, if_pos h]
      · rw [if_neg h, if_neg h, isK_false.2 (fun e => h (hy.symm.trans e))]
    · rw [isK_false.2 hy]
      simp only [Bool.not_false, if_true]
      rw [List.find?_cons, ih]
      by_cases h : k = k'
      · rw [if_pos h, if_pos h, isK_false.2 (fun e => hy (e.trans h.symm))]
      · rw [if_neg h, if_neg h]
theorem find_del (l : List Rw) (k k' : ByteArray) : findW (delW l k) k' = if k = k' then none else findW l k' := find_filter k k' l
theorem filter_ne {l : List Rw} {k : ByteArray} : ∀ r ∈ l.filter (fun r => !(r.key.data.toList == k.data.toList)), r.key ≠ k := by
  intro r hr
  have := (List.mem_filter.1 hr).2
  have e : (r.key.data.toList == k.data.toList) = isK k r := rfl
  rw [e, Bool.not_eq_true'] at this
  exact isK_false.1 this
theorem find_put (l : List Rw) (k v k' : ByteArray) : findW (putW l k v) k' = if k = k' then some ⟨k, v⟩ else findW l k' := by
  unfold putW
  rw [find_insW _ _ _ filter_ne, find_filter]
  by_cases h : k = k'
  · rw [if_pos h, if_pos h]
  · rw [if_neg h, if_neg h, if_neg h]
theorem find_ch (l : List Rw) (c : Ch) (k : ByteArray) : findW (chW l c) k = if c.key = k then (if c.gone then none else some ⟨c.key, c.val⟩) else findW l k := by
  unfold chW
  cases c.gone
  · simp only [Bool.false_eq_true, if_false]; exact find_put ..
  · simp only [if_true]; exact find_del ..
theorem find_chs_out : ∀ (cs : List Ch) (l : List Rw) (k : ByteArray), (∀ c ∈ cs, c.key ≠ k) → findW (chsW l cs) k = findW l k
  | [], _, _, _ => rfl
  | c :: cs, l, k, h => by
    have := find_chs_out cs (chW l c) k (fun d hd => h d (List.mem_cons_of_mem _ hd))
    unfold chsW at *
    rw [List.foldl_cons, this, find_ch, if_neg (h c (List.mem_cons_self ..))]
/-- What is found behind changes hangs on what was found there before. -/
theorem find_chs_congr : ∀ (cs : List Ch) (l l' : List Rw) (k : ByteArray), findW l k = findW l' k → findW (chsW l cs) k = findW (chsW l' cs) k
  | [], _, _, _, h => h
  | c :: cs, l, l', k, h => by
    have := find_chs_congr cs (chW l c) (chW l' c) k (by rw [find_ch, find_ch, h])
    unfold chsW at *
    exact this
theorem find_none {l : List Rw} {k : ByteArray} (h : findW l k = none) : ∀ r ∈ l, r.key ≠ k := fun r hr => by
  unfold findW at h
  rw [List.find?_eq_none] at h
  exact isK_false.1 (by simpa using h r hr)
theorem find_key' {l : List Rw} {k : ByteArray} {r : Rw} (h : findW l k = some r) : r.key = k ∧ r ∈ l := ⟨isK_iff.1 (List.find?_some h), List.mem_of_find?_eq_some h⟩
theorem before_irrefl (a : List UInt8) : bytesBefore a a ≠ true := by rw [Go.WideAt.bytes_irrefl]; simp
/-- Rows that rise are one if the same is found in them. -/
theorem rows_ext : ∀ {l l' : List Rw}, sortR l → sortR l' → (∀ k, findW l k = findW l' k) → l = l'
  | [], [], _, _, _ => rfl
  | [], y :: r, _, _, h => by
    have := h y.key
    unfold findW at this
    rw [List.find?_cons, isK_iff.2 rfl] at this; cases this
  | x :: r, [], _, _, h => by
    have := h x.key
    unfold findW at this
    rw [List.find?_cons, isK_iff.2 rfl] at this; cases this
  | x :: r, y :: s, h1, h2, h => by
    have a1 := List.pairwise_cons.1 h1
    have a2 := List.pairwise_cons.1 h2
    have hx := h x.key
    have hy := h y.key
    have fx : findW (x :: r) x.key = some x := by unfold findW; rw [List.find?_cons, isK_iff.2 rfl]
    have fy : findW (y :: s) y.key = some y := by unfold findW; rw [List.find?_cons, isK_iff.2 rfl]
    have hxy : x = y := by
      rw [fx] at hx
      rw [fy] at hy
      rcases List.mem_cons.1 (find_key' hx.symm).2 with e | e
      · exact e
      · rcases List.mem_cons.1 (find_key' hy).2 with e' | e'
        · exact e'.symm
        · have b1 := a2.1 x e
          have b2 := a1.1 y e'
          exact absurd (Go.WideShapes.bytes_trans _ _ _ b1 b2) (before_irrefl _)
    subst hxy
    refine congrArg (x :: ·) (rows_ext a1.2 a2.2 fun k => ?_)
    by_cases hk : x.key = k
    · have g1 : findW r k = none := by
        unfold findW
        rw [List.find?_eq_none]
        intro z hz
        have := a1.1 z hz
        rw [isK_iff]
        intro e
        rw [e, ← hk] at this
        exact before_irrefl _ this
      have g2 : findW s k = none := by
        unfold findW
        rw [List.find?_eq_none]
        intro z hz
        have := a2.1 z hz
        rw [isK_iff]
        intro e
        rw [e, ← hk] at this
        exact before_irrefl _ this
      rw [g1, g2]
    · have := h k
      unfold findW at this ⊢
      rw [List.find?_cons, List.find?_cons, isK_false.2 hk] at this
      exact this
theorem filter_ins {p : Rw → Bool} {x : Rw} (h : p x = false) : ∀ l : List Rw, (insW x l).filter p = l.filter p
  | [] => by unfold insW; simp [h]
  | y :: r => by
    unfold insW
    split
    · rw [List.filter_cons, h]; rfl
    · rw [List.filter_cons, List.filter_cons, filter_ins h r]
theorem del_put (l : List Rw) (k v : ByteArray) : delW (putW l k v) k = delW l k := by
  unfold delW putW
  rw [filter_ins (by simp), List.filter_filter]
  simp
theorem del_del (l : List Rw) (k : ByteArray) : delW (delW l k) k = delW l k := by
  unfold delW
  rw [List.filter_filter]; simp
end Go.Proofs.Ytmjoaiepfipmaaa
