/- The document's Thin, told by its parts; it is merges.Thin's. No condition. -/
import Derived.Test.YtefllplgbalbkaaGreatDoorRf2
namespace Go.Proofs.YtefllplgbalbkaaGreatDoor
/-- Is an entry the newest of its key at a number? -/
def seenE (l : List En) (s : Nat) (e : En) : Bool := decide (l.find? (fun y => y.mark.key.toList == e.mark.key.toList && pS s y) = some e)
theorem seenE_at {l : List En} (hn : l.Nodup) {i : Nat} {x : En} (hx : l[i]? = some x) (s : Nat) : seenB l i s = seenE l s x := by
  unfold seenB seenE
  rw [hx]
  show (pS s x && !(l.take i).any (fun e => e.mark.key.toList == x.mark.key.toList && pS s e)) = _
  have hi : i < l.length := (List.getElem?_eq_some_iff.1 hx).1
  rw [Bool.eq_iff_iff, Bool.and_eq_true, decide_eq_true_iff, List.find?_eq_some_iff_getElem, Bool.not_eq_true', List.any_eq_false]
  constructor
  · rintro ⟨h1, h2⟩
    refine ⟨by simp [h1], i, hi, (List.getElem?_eq_some_iff.1 hx).2, fun j hj => ?_⟩
    have := h2 l[j] (List.mem_of_getElem? (i := j) (by rw [List.getElem?_take, if_pos hj]; exact List.getElem?_eq_getElem _))
    rw [Bool.not_eq_true'] 
    exact Bool.eq_false_iff.2 this
  · rintro ⟨h1, j, hj, h2, h3⟩
    have hji : j = i := idx_eq hn (by rw [List.getElem?_eq_getElem hj, h2]) hx
    subst hji
    refine ⟨by rw [Bool.and_eq_true] at h1; exact h1.2, fun e he => ?_⟩
    obtain ⟨m, hm⟩ := List.mem_iff_getElem?.1 he
    rw [List.getElem?_take] at hm
    by_cases hmj : m < j
    · rw [if_pos hmj] at hm
      have := h3 m hmj
      rw [(List.getElem?_eq_some_iff.1 hm).2, Bool.not_eq_true'] at this
      exact Bool.eq_false_iff.1 this
    · rw [if_neg hmj] at hm; cases hm
def topS : Nat := 18446744073709551615
def leftP (l : List En) (looks : List Nat) (e : En) : Bool := seenE l topS e || looks.any fun s => seenE l s e
theorem key_only : ∀ {gs : List (List En)}, Grps gs → ∀ {g : List En} {e : En}, g ∈ gs → e ∈ g → gs.flatten.filter (fun y => y.mark.key.toList == e.mark.key.toList) = g
  | [], _, _, _, h, _ => nomatch h
  | g0 :: gs, h, g, e, hg, he => by
    rw [List.flatten_cons, List.filter_append]
    have hlt := (List.pairwise_cons.1 h.lt).1
    rcases List.mem_cons.1 hg with rfl | hg
    · have h1 : g.filter (fun y => y.mark.key.toList == e.mark.key.toList) = g := List.filter_eq_self.2 fun y hy => by rw [h.one g (List.mem_cons_self ..) y hy e he]; simp
      have h2 : gs.flatten.filter (fun y => y.mark.key.toList == e.mark.key.toList) = [] := List.filter_eq_nil_iff.2 fun y hy => by
        obtain ⟨g', hg', hy⟩ := List.mem_flatten.1 hy
        have h3 := hlt g' hg' e he y hy
        intro h4
        rw [beq_iff_eq.1 h4, bl_irrefl] at h3
        cases h3
      rw [h1, h2, List.append_nil]
    · have h1 : g0.filter (fun y => y.mark.key.toList == e.mark.key.toList) = [] := List.filter_eq_nil_iff.2 fun y hy => by
        have h3 := hlt g hg y hy e he
        intro h4
        rw [beq_iff_eq.1 h4, bl_irrefl] at h3
        cases h3
      rw [h1, List.nil_append]
      exact key_only h.tail hg he
theorem left_group {l : List En} (h : Rises l) (hq : ∀ e ∈ l, e.mark.seq ≤ topS) (looks : List Nat) : l.filter (leftP l looks) = ((keyG l).map (stF looks)).flatten := by
  have hG := keyG_grps h
  have hfl := keyG_flat l
  have h1 : l.filter (leftP l looks) = ((keyG l).map (fun g => g.filter (leftP l looks))).flatten := by
    rw [← List.filter_flatten, hfl]
  rw [h1]
  congr 1
  refine List.map_congr_left fun g hg => ?_
  unfold stF
  refine List.filter_congr fun e he => ?_
  have hf : ∀ s, seenE l s e = decide (g.find? (pS s) = some e) := fun s => by
    unfold seenE
    have := key_only hG hg he
    rw [hfl] at this
    rw [← this, List.find?_filter]
    exact congrArg (fun f => decide (List.find? f l = some e)) (funext fun y => by rw [Bool.decide_and, Bool.decide_eq_true, Bool.decide_eq_true])
  unfold leftP stE
  have hh : g.find? (pS topS) = g.head? := by
    cases g with
    | nil => rfl
    | cons x t =>
      rw [List.find?_cons, show pS topS x = true from decide_eq_true (hq x (by rw [← hfl]; exact List.mem_flatten.2 ⟨_, hg, List.mem_cons_self ..⟩))]
      rfl
  rw [hf, hh]
  congr 1
  congr 1
  funext s
  exact hf s
/-- What stays of a list: what is there, or stands ahead of one of its key that is. -/
def stK (x : En) (l : List En) : Bool := !x.mark.gone || l.any fun y => y.mark.key.toList == x.mark.key.toList && !y.mark.gone
def trR : List En → List En
  | [] => []
  | x :: l => if stK x l then x :: trR l else trR l
theorem trim_nil_iff {l : List En} : trimL l = [] ↔ ∀ e ∈ l, e.mark.gone = true := by
  unfold trimL
  rw [List.reverse_eq_nil_iff]
  constructor
  · intro h e he
    obtain ⟨a, b, hab⟩ : ∃ a b, l.reverse = a ++ b ∧ (∀ x ∈ a, x.mark.gone = true) ∧ b = [] := ⟨l.reverse.takeWhile (fun e => e.mark.gone), l.reverse.dropWhile (fun e => e.mark.gone), (List.takeWhile_append_dropWhile ..).symm, fun x hx => mem_tw (p := fun e => e.mark.gone) hx, h⟩
    rw [hab.2.2, List.append_nil] at hab
    exact hab.2.1 e (by rw [← hab.1]; exact List.mem_reverse.2 he)
  · intro h
    have : ∀ m : List En, (∀ e ∈ m, e.mark.gone = true) → m.dropWhile (fun e => e.mark.gone) = [] := fun m => by
      induction m with
      | nil => intro _; rfl
      | cons x m ih => intro hm; rw [List.dropWhile_cons, if_pos (hm x (List.mem_cons_self ..))]; exact ih fun e he => hm e (List.mem_cons_of_mem _ he)
    exact this _ fun e he => h e (List.mem_reverse.1 he)
theorem trR_app : ∀ (g r : List En), (∀ x ∈ g, ∀ y ∈ g, x.mark.key.toList = y.mark.key.toList) → (∀ x ∈ g, ∀ y ∈ r, y.mark.key.toList ≠ x.mark.key.toList) → trR (g ++ r) = trimL g ++ trR r
  | [], _, _, _ => rfl
  | x :: g, r, h1, h2 => by
    have ih := trR_app g r (fun a ha b hb => h1 a (List.mem_cons_of_mem _ ha) b (List.mem_cons_of_mem _ hb)) (fun a ha => h2 a (List.mem_cons_of_mem _ ha))
    have e1 : r.any (fun y => y.mark.key.toList == x.mark.key.toList && !y.mark.gone) = false := List.any_eq_false.2 fun y hy => by
      have := h2 x (List.mem_cons_self ..) y hy
      simp [this]
    have e2 : g.any (fun y => y.mark.key.toList == x.mark.key.toList && !y.mark.gone) = !decide (trimL g = []) := by
      rw [Bool.eq_iff_iff, List.any_eq_true, Bool.not_eq_true', decide_eq_false_iff_not, trim_nil_iff]
      constructor
      · rintro ⟨y, hy, h⟩ ha
        rw [ha y hy] at h
        simp at h
      · intro h
        obtain ⟨y, hy⟩ := Classical.not_forall.1 h
        obtain ⟨hy, hg⟩ := Classical.not_imp.1 hy
        exact ⟨y, hy, by rw [h1 y (List.mem_cons_of_mem _ hy) x (List.mem_cons_self ..), Bool.eq_false_iff.2 hg]; simp⟩
    have e3 := trim_app [x] g
    rw [List.singleton_append] at e3
    rw [List.cons_append, trR, ih, e3]
    unfold stK
    rw [List.any_append, e1, e2, Bool.or_false]
    by_cases ht : trimL g = []
    · rw [if_pos ht, ht]
      cases hx : x.mark.gone with
      | true =>
        have : trimL [x] = [] := trim_nil_iff.2 fun e he => by rw [List.mem_singleton.1 he]; exact hx
        rw [this]; simp
      | false =>
        have : trimL [x] = [x] := trimL_snoc_here (l := []) hx
        rw [this]; simp
    · rw [if_neg ht]
      simp [ht]
theorem trR_flat : ∀ (gs : List (List En)), (∀ g ∈ gs, ∀ x ∈ g, ∀ y ∈ g, x.mark.key.toList = y.mark.key.toList) → gs.Pairwise (fun g r => ∀ x ∈ g, ∀ y ∈ r, y.mark.key.toList ≠ x.mark.key.toList) → trR gs.flatten = (gs.map trimL).flatten
  | [], _, _ => rfl
  | g :: gs, h1, h2 => by
    obtain ⟨h3, h4⟩ := List.pairwise_cons.1 h2
    rw [List.flatten_cons, trR_app g gs.flatten (h1 g (List.mem_cons_self ..)) (fun x hx y hy => by
      obtain ⟨r, hr, hy⟩ := List.mem_flatten.1 hy
      exact h3 r hr x hx y hy), trR_flat gs (fun a ha => h1 a (List.mem_cons_of_mem _ ha)) h4]
    rfl
def thinD (l : List En) (looks : List Nat) (last : Bool) : List En := if last then trR (l.filter (leftP l looks)) else l.filter (leftP l looks)
theorem thin_doc {l : List En} (h : Rises l) (hq : ∀ e ∈ l, e.mark.seq ≤ topS) (looks : List Nat) (last : Bool) : thinD l looks last = thinL l looks last := by
  unfold thinD
  rw [left_group h hq, thinL_eq h]
  have hG := keyG_grps h
  cases last with
  | false => simp only [Bool.false_eq_true, if_false]; rfl
  | true =>
    simp only [if_true]
    rw [trR_flat]
    · rw [List.map_map]; rfl
    · intro g hg x hx y hy
      obtain ⟨g', hg', rfl⟩ := List.mem_map.1 hg
      exact hG.one g' hg' x (stF_sub.mem hx) y (stF_sub.mem hy)
    · rw [List.pairwise_map]
      refine hG.lt.imp fun {a b} hab x hx y hy e => ?_
      have := hab x (stF_sub.mem hx) y (stF_sub.mem hy)
      rw [e, bl_irrefl] at this
      cases this
end Go.Proofs.YtefllplgbalbkaaGreatDoor
