/- Entries, thinned and seen: the plain law. No condition. -/
import Derived.Test.YtefllplgbalbkaaGreatDoorMg8
import Derived.Test.YtefllplgbalbkaaGreatDoorMg9
namespace Go.Proofs.YtefllplgbalbkaaGreatDoor
theorem en_ext {a b : En} (h1 : a.mark.key.toList = b.mark.key.toList) (h2 : a.mark.seq = b.mark.seq) (h3 : a.mark.gone = b.mark.gone) (h4 : a.val.toList = b.val.toList) : a = b := by
  obtain ⟨⟨k, s, g⟩, v⟩ := a
  obtain ⟨⟨k', s', g'⟩, v'⟩ := b
  simp only at h1 h2 h3 h4
  rw [ba_ext h1, h2, h3, ba_ext h4]
/-- Groups: of one key each, none empty; keys rise. -/
structure Grps (gs : List (List En)) : Prop where
  ne : ∀ g ∈ gs, g ≠ []
  one : ∀ g ∈ gs, ∀ x ∈ g, ∀ y ∈ g, x.mark.key.toList = y.mark.key.toList
  lt : gs.Pairwise fun g g' => ∀ x ∈ g, ∀ y ∈ g', Op.bytesLess x.mark.key.toList y.mark.key.toList = true
theorem Grps.tail {g : List En} {gs : List (List En)} (h : Grps (g :: gs)) : Grps gs := ⟨fun x hx => h.ne x (List.mem_cons_of_mem _ hx), fun x hx => h.one x (List.mem_cons_of_mem _ hx), (List.pairwise_cons.1 h.lt).2⟩
theorem tw_app {p : En → Bool} : ∀ (a b : List En), (∀ x ∈ a, p x = true) → (∀ x, b.head? = some x → p x = false) → (a ++ b).takeWhile p = a ∧ (a ++ b).dropWhile p = b
  | [], [], _, _ => ⟨rfl, rfl⟩
  | [], x :: b, _, h => by
    have := h x rfl
    rw [List.nil_append, List.takeWhile_cons, List.dropWhile_cons, this]
    exact ⟨rfl, rfl⟩
  | x :: a, b, h1, h2 => by
    obtain ⟨e1, e2⟩ := tw_app a b (fun y hy => h1 y (List.mem_cons_of_mem _ hy)) h2
    rw [List.cons_append, List.takeWhile_cons, List.dropWhile_cons, h1 x (List.mem_cons_self ..), if_pos rfl, if_pos rfl, e1, e2]
    exact ⟨rfl, rfl⟩
theorem keyG_of : ∀ {gs : List (List En)}, Grps gs → keyG gs.flatten = gs
  | [], _ => by rw [List.flatten_nil, keyG_nil]
  | [] :: gs, h => absurd rfl (h.ne [] (List.mem_cons_self ..))
  | (x :: g) :: gs, h => by
    have ih := keyG_of h.tail
    obtain ⟨e1, e2⟩ := tw_app (p := sk x) g gs.flatten (fun y hy => by
      unfold sk
      rw [beq_iff_eq]
      exact (h.one _ (List.mem_cons_self ..) x (List.mem_cons_self ..) y (List.mem_cons_of_mem _ hy)).symm) (fun y hy => by
      have hm : y ∈ gs.flatten := List.mem_of_head? hy
      obtain ⟨g', hg', hy'⟩ := List.mem_flatten.1 hm
      have := (List.pairwise_cons.1 h.lt).1 g' hg' x (List.mem_cons_self ..) y hy'
      unfold sk
      rw [beq_eq_false_iff_ne]
      intro he
      rw [he, bl_irrefl] at this
      cases this)
    rw [List.flatten_cons, List.cons_append, keyG_cons, e1, e2, ih]
theorem mem_tw {p : En → Bool} {l : List En} {y : En} (h : y ∈ l.takeWhile p) : p y = true := by
  induction l with
  | nil => cases h
  | cons x l ih =>
    rw [List.takeWhile_cons] at h
    split at h
    · rcases List.mem_cons.1 h with rfl | h
      · assumption
      · exact ih h
    · cases h
theorem rises_key {a b : En} (h : a.mark.ltB b.mark = true) (hk : a.mark.key.toList ≠ b.mark.key.toList) : Op.bytesLess a.mark.key.toList b.mark.key.toList = true := by
  rcases Mk.lt_iff.1 h with h | ⟨e, _⟩
  · exact h
  · exact absurd e hk
theorem keyG_grps {l : List En} (h : Rises l) : Grps (keyG l) := by
  induction l using keyG.induct with
  | case1 => rw [keyG_nil]; exact ⟨fun g hg => (by cases hg), fun g hg => (by cases hg), List.Pairwise.nil⟩
  | case2 x l ih =>
    obtain ⟨h1, h2⟩ := List.pairwise_cons.1 h
    have hsub : (l.dropWhile (sk x)).Sublist l := List.dropWhile_sublist _
    have ih' := ih (h2.sublist hsub)
    rw [keyG_cons]
    have htk : ∀ y ∈ x :: l.takeWhile (sk x), y.mark.key.toList = x.mark.key.toList := fun y hy => by
      rcases List.mem_cons.1 hy with rfl | hy
      · rfl
      · have := mem_tw hy
        unfold sk at this
        exact beq_iff_eq.1 this
    refine ⟨fun g hg => ?_, fun g hg => ?_, List.pairwise_cons.2 ⟨fun g' hg' y hy z hz => ?_, ih'.lt⟩⟩
    · rcases List.mem_cons.1 hg with rfl | hg
      · simp
      · exact ih'.ne g hg
    · rcases List.mem_cons.1 hg with rfl | hg
      · exact fun a ha b hb => (htk a ha).trans (htk b hb).symm
      · exact ih'.one g hg
    · rw [htk y hy]
      have hzd : z ∈ l.dropWhile (sk x) := by rw [← keyG_flat (l.dropWhile (sk x))]; exact List.mem_flatten.2 ⟨g', hg', hz⟩
      -- the first of the rest has another key, and stands behind x
      match hd : l.dropWhile (sk x), hzd with
      | [], hzd => cases hzd
      | u :: r, hzd =>
        have hu : sk x u = false := by
          have := List.head?_dropWhile_not (sk x) l
          rw [hd] at this
          simpa using this
        have hul : u ∈ l := hsub.mem (by rw [hd]; exact List.mem_cons_self ..)
        have hxu : Op.bytesLess x.mark.key.toList u.mark.key.toList = true := rises_key (h1 u hul) (fun e => by
          unfold sk at hu
          rw [beq_eq_false_iff_ne] at hu
          exact hu e.symm)
        rcases List.mem_cons.1 hzd with rfl | hzr
        · exact hxu
        · have h3 := (List.pairwise_cons.1 (hd ▸ h2.sublist hsub)).1 z hzr
          by_cases hk : u.mark.key.toList = z.mark.key.toList
          · rw [← hk]; exact hxu
          · exact bl_trans _ _ _ hxu (rises_key h3 hk)
theorem grp_rises {l : List En} (h : Rises l) {g : List En} (hg : g ∈ keyG l) : Rises g := by
  have : g.Sublist l := by rw [← keyG_flat l]; exact List.sublist_flatten_of_mem hg
  exact h.sublist this
theorem Rises.nodup {l : List En} (h : Rises l) : l.Nodup := h.imp fun {a b} hab e => by rw [e, Mk.irrefl] at hab; cases hab
end Go.Proofs.YtefllplgbalbkaaGreatDoor
