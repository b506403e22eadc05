/- Rows that are seen, told one by one; what is left at a key's end. No condition. -/
import Derived.Test.YtefllplgbalbkaaGreatDoorPm3
namespace Go.Proofs.YtefllplgbalbkaaGreatDoor
def rowE (x : En) : Rw := ⟨x.mark.key, x.val⟩
/-- The rows of the first of each key, one by one: p: the key before. -/
def hd1 (p : Option (List UInt8)) (x : En) : List Rw := if (p != some x.mark.key.toList && !x.mark.gone) = true then [rowE x] else []
def hdL : Option (List UInt8) → List En → List Rw
  | _, [] => []
  | p, x :: l => hd1 p x ++ hdL (some x.mark.key.toList) l
def lastK : Option (List UInt8) → List En → Option (List UInt8)
  | p, [] => p
  | _, x :: l => lastK (some x.mark.key.toList) l
theorem hdL_app : ∀ (p : Option (List UInt8)) (a b : List En), hdL p (a ++ b) = hdL p a ++ hdL (lastK p a) b
  | _, [], _ => rfl
  | p, x :: a, b => by
    rw [List.cons_append, hdL, hdL_app _ a b, hdL, lastK, List.append_assoc]
theorem lastK_snoc : ∀ (p : Option (List UInt8)) (a : List En) (x : En), lastK p (a ++ [x]) = some x.mark.key.toList
  | _, [], _ => rfl
  | p, y :: a, x => by rw [List.cons_append, lastK]; exact lastK_snoc _ a x
theorem hdL_snoc (p : Option (List UInt8)) (a : List En) (x : En) : hdL p (a ++ [x]) = hdL p a ++ hd1 (lastK p a) x := by
  rw [hdL_app]
  show hdL p a ++ (hd1 _ x ++ []) = _
  rw [List.append_nil]
def hdG (g : List En) : Option Rw := match g with
  | [] => none
  | x :: _ => if x.mark.gone then none else some (rowE x)
theorem hdL_same (k : List UInt8) : ∀ (t : List En), (∀ y ∈ t, y.mark.key.toList = k) → hdL (some k) t = [] ∧ lastK (some k) t = some k
  | [], _ => ⟨rfl, rfl⟩
  | y :: t, h => by
    have hy := h y (List.mem_cons_self ..)
    obtain ⟨e1, e2⟩ := hdL_same k t fun z hz => h z (List.mem_cons_of_mem _ hz)
    rw [hdL, lastK, hy, e1, e2]
    refine ⟨?_, rfl⟩
    unfold hd1
    rw [hy]; simp
theorem hdL_grps : ∀ (gs : List (List En)) (p : Option (List UInt8)), Grps gs → (∀ g x, gs.head? = some g → x ∈ g → p ≠ some x.mark.key.toList) → hdL p gs.flatten = gs.filterMap hdG
  | [], _, _, _ => rfl
  | [] :: gs, _, h, _ => absurd rfl (h.ne [] (List.mem_cons_self ..))
  | (x :: t) :: gs, p, h, hp => by
    have hx := hp (x :: t) x rfl (List.mem_cons_self ..)
    obtain ⟨e1, e2⟩ := hdL_same x.mark.key.toList t fun y hy => h.one _ (List.mem_cons_self ..) y (List.mem_cons_of_mem _ hy) x (List.mem_cons_self ..)
    have ih := hdL_grps gs (some x.mark.key.toList) h.tail (fun g y hg hy => fun e => by
      have := (List.pairwise_cons.1 h.lt).1 g (List.mem_of_head? hg) x (List.mem_cons_self ..) y hy
      injection e with e
      rw [e, bl_irrefl] at this
      cases this)
    rw [List.flatten_cons, hdL_app, hdL, lastK, e1, e2, ih, List.append_nil, List.filterMap_cons]
    have hb : (p != some x.mark.key.toList) = true := by rw [bne_iff_ne]; exact hx
    have e3 : hdG (x :: t) = if x.mark.gone then none else some (rowE x) := rfl
    rw [e3]
    unfold hd1
    rw [hb]
    cases x.mark.gone <;> rfl
/-- What See tells are the rows of the first of each key that is not above the number. -/
theorem see_heads {l : List En} (h : Rises l) (s : Nat) : seeL l s = hdL none (l.filter (pS s)) := by
  have hg : Grps (((keyG l).map fun g => g.filter (pS s)).filter fun g => !g.isEmpty) := (keyG_grps h).sub fun g _ => List.filter_sublist
  have hfl : (((keyG l).map fun g => g.filter (pS s)).filter fun g => !g.isEmpty).flatten = l.filter (pS s) := by
    rw [List.flatten_filter_not_isEmpty]
    conv => rhs; rw [← keyG_flat l]
    rw [List.filter_flatten]
  rw [← hfl, hdL_grps _ none hg (fun _ _ _ _ => by simp), fm_filter rfl, List.filterMap_map]
  unfold seeL
  refine fm_congr fun g _ => ?_
  show seeG s g = hdG (g.filter (pS s))
  have e0 : seeG s g = match g.find? (pS s) with | some e => if e.mark.gone then none else some ⟨e.mark.key, e.val⟩ | none => none := rfl
  rw [e0, ← List.head?_filter]
  cases g.filter (pS s) with
  | nil => rfl
  | cons x t => rfl
theorem see_again {l : List En} (h : Rises l) {s m : Nat} (hm : ∀ e ∈ l, e.mark.seq ≤ m) : seeL (l.filter (pS s)) m = seeL l s := by
  rw [see_heads h, see_heads (h.sublist List.filter_sublist)]
  congr 1
  exact List.filter_eq_self.2 fun e he => decide_eq_true (hm e (List.mem_filter.1 he).1)
/-- At a key's end stands none that is gone. -/
def endB : List En → Bool
  | [] => true
  | [x] => !x.mark.gone
  | x :: y :: l => (!x.mark.gone || y.mark.key.toList == x.mark.key.toList) && endB (y :: l)
theorem end_app : ∀ (g : List En) (r : List En), (∀ e, g.getLast? = some e → e.mark.gone = false) → (∀ x ∈ g, ∀ y ∈ g, x.mark.key.toList = y.mark.key.toList) → endB r = true → endB (g ++ r) = true
  | [], _, _, _, h => h
  | [x], r, hl, _, h => by
    have := hl x rfl
    cases r with
    | nil => show (!x.mark.gone) = true; rw [this]; rfl
    | cons y r =>
      show ((!x.mark.gone || y.mark.key.toList == x.mark.key.toList) && endB (y :: r)) = true
      rw [this, h]; rfl
  | x :: y :: g, r, hl, hk, h => by
    have ih := end_app (y :: g) r (fun e he => hl e (by rw [List.getLast?_cons_cons]; exact he)) (fun a ha b hb => hk a (List.mem_cons_of_mem _ ha) b (List.mem_cons_of_mem _ hb)) h
    show ((!x.mark.gone || y.mark.key.toList == x.mark.key.toList) && endB (y :: (g ++ r))) = true
    rw [show endB (y :: (g ++ r)) = true from ih, hk y (List.mem_cons_of_mem _ (List.mem_cons_self ..)) x (List.mem_cons_self ..)]
    simp
theorem thin_end {looks : List Nat} {l : List En} (h : Rises l) : endB (thinL l looks true) = true := by
  rw [thinL_eq h]
  have hg := keyG_grps h
  generalize keyG l = gs at hg
  induction gs with
  | nil => rfl
  | cons g gs ih =>
    rw [List.map_cons, List.flatten_cons]
    refine end_app _ _ ?_ ?_ (ih hg.tail)
    · unfold thG
      obtain ⟨_, _, _, hl⟩ := trim_split (stF looks g)
      exact hl
    · exact fun x hx y hy => hg.one g (List.mem_cons_self ..) x (thG_sub.mem hx) y (thG_sub.mem hy)
theorem end_at : ∀ {l : List En} {i : Nat} {x : En}, endB l = true → l[i]? = some x → x.mark.gone = true → ∃ y, l[i + 1]? = some y ∧ y.mark.key.toList = x.mark.key.toList
  | [], _, _, _, hi, _ => by cases hi
  | [z], 0, x, h, hi, hx => by
    injection hi with hi
    subst hi
    have : (!z.mark.gone) = true := h
    rw [hx] at this; cases this
  | [z], i + 1, x, _, hi, _ => by simp at hi
  | z :: y :: l, 0, x, h, hi, hx => by
    injection hi with hi
    subst hi
    refine ⟨y, rfl, ?_⟩
    have : ((!z.mark.gone || y.mark.key.toList == z.mark.key.toList) && endB (y :: l)) = true := h
    rw [hx, Bool.and_eq_true] at this
    simpa using this.1
  | z :: y :: l, i + 1, x, h, hi, hx => by
    have : ((!z.mark.gone || y.mark.key.toList == z.mark.key.toList) && endB (y :: l)) = true := h
    rw [Bool.and_eq_true] at this
    exact end_at (l := y :: l) this.2 (by simpa using hi) hx
end Go.Proofs.YtefllplgbalbkaaGreatDoor
