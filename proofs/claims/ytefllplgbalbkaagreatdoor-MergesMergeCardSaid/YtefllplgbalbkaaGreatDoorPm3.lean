/- Entries, thinned and seen: what holds of them. No condition. -/
import Derived.Test.YtefllplgbalbkaaGreatDoorPm2
namespace Go.Proofs.YtefllplgbalbkaaGreatDoor
theorem Grps.sub {gs : List (List En)} (h : Grps gs) {f : List En → List En} (hf : ∀ g ∈ gs, (f g).Sublist g) : Grps ((gs.map f).filter fun g => !g.isEmpty) := by
  refine ⟨fun g hg => ?_, fun g hg => ?_, ?_⟩
  · have := (List.mem_filter.1 hg).2
    intro e; rw [e] at this; cases this
  · obtain ⟨g', hg', rfl⟩ := List.mem_map.1 (List.mem_filter.1 hg).1
    exact fun x hx y hy => h.one g' hg' x ((hf g' hg').mem hx) y ((hf g' hg').mem hy)
  · refine List.Pairwise.filter _ ?_
    rw [List.pairwise_map]
    refine List.Pairwise.imp_of_mem ?_ h.lt
    intro a b ha hb hab x hx y hy
    exact hab x ((hf a ha).mem hx) y ((hf b hb).mem hy)
theorem key_thin {looks : List Nat} {last : Bool} {l : List En} (h : Rises l) : keyG (thinL l looks last) = ((keyG l).map (thG looks last)).filter fun g => !g.isEmpty := by
  rw [thinL_eq h, ← List.flatten_filter_not_isEmpty]
  exact keyG_of ((keyG_grps h).sub fun g _ => thG_sub)
theorem thin_sub {looks : List Nat} {last : Bool} {l : List En} (h : Rises l) : (thinL l looks last).Sublist l := by
  rw [thinL_eq h]
  conv => rhs; rw [← keyG_flat l]
  generalize keyG l = gs
  induction gs with
  | nil => exact List.Sublist.refl _
  | cons g gs ih =>
    rw [List.map_cons, List.flatten_cons, List.flatten_cons]
    exact List.Sublist.append thG_sub ih
theorem thin_rises {looks : List Nat} {last : Bool} {l : List En} (h : Rises l) : Rises (thinL l looks last) := h.sublist (thin_sub h)
theorem see_nil (s : Nat) : seeG s [] = none := rfl
theorem fm_filter {f : List En → Option Rw} (h : f [] = none) : ∀ gs : List (List En), (gs.filter fun g => !g.isEmpty).filterMap f = gs.filterMap f
  | [] => rfl
  | [] :: gs => by
    rw [List.filter_cons, if_neg (by simp), List.filterMap_cons, h]
    exact fm_filter h gs
  | (x :: g) :: gs => by
    rw [List.filter_cons, if_pos (by simp), List.filterMap_cons, List.filterMap_cons, fm_filter h gs]
theorem fm_congr {f g : List En → Option Rw} : ∀ {l : List (List En)}, (∀ x ∈ l, f x = g x) → l.filterMap f = l.filterMap g
  | [], _ => rfl
  | x :: l, h => by
    rw [List.filterMap_cons, List.filterMap_cons, h x (List.mem_cons_self ..), fm_congr fun y hy => h y (List.mem_cons_of_mem _ hy)]
theorem thin_see {looks : List Nat} {last : Bool} {l : List En} (h : Rises l) {s : Nat} (hs : s ∈ looks ∨ ∀ e ∈ l, e.mark.seq ≤ s) : seeL (thinL l looks last) s = seeL l s := by
  unfold seeL
  rw [key_thin h, fm_filter (see_nil s), List.filterMap_map]
  refine fm_congr fun g hg => ?_
  refine thG_see ?_
  rcases hs with hs | hs
  · exact .inl hs
  · exact .inr fun e he => hs e (by rw [← keyG_flat l]; exact List.mem_flatten.2 ⟨g, hg, he⟩)
theorem thin_idem {looks : List Nat} {last : Bool} {l : List En} (h : Rises l) : thinL (thinL l looks last) looks last = thinL l looks last := by
  rw [thinL_eq (thin_rises h), key_thin h]
  conv => rhs; rw [thinL_eq h]
  rw [← List.flatten_filter_not_isEmpty (L := (keyG l).map (thG looks last))]
  congr 1
  have : ∀ g ∈ ((keyG l).map (thG looks last)).filter (fun g => !g.isEmpty), thG looks last g = g := by
    intro g hg
    obtain ⟨g', hg', rfl⟩ := List.mem_map.1 (List.mem_filter.1 hg).1
    exact thG_idem (grp_rises h hg').nodup
  conv => rhs; rw [← List.map_id (((keyG l).map (thG looks last)).filter fun g => !g.isEmpty)]
  exact List.map_congr_left this
end Go.Proofs.YtefllplgbalbkaaGreatDoor
