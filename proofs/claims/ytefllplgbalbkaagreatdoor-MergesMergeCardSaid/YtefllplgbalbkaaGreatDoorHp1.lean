/- Lists that rise, merged: the plain law. No condition. -/
import Derived.Test.YtefllplgbalbkaaGreatDoorHp0
namespace Go.Proofs.YtefllplgbalbkaaGreatDoor
def risesB : List En → Bool
  | x :: y :: l => x.mark.ltB y.mark && risesB (y :: l)
  | _ => true
theorem risesB_iff : ∀ l : List En, risesB l = true ↔ Rises l
  | [] => ⟨fun _ => List.Pairwise.nil, fun _ => rfl⟩
  | [x] => ⟨fun _ => List.pairwise_singleton _ _, fun _ => rfl⟩
  | x :: y :: l => by
    have ih := risesB_iff (y :: l)
    constructor
    · intro h
      rw [risesB, Bool.and_eq_true] at h
      have h2 := ih.1 h.2
      refine List.pairwise_cons.2 ⟨fun z hz => ?_, h2⟩
      rcases List.mem_cons.1 hz with rfl | hz
      · exact h.1
      · exact Mk.trans h.1 ((List.pairwise_cons.1 h2).1 z hz)
    · intro h
      obtain ⟨h1, h2⟩ := List.pairwise_cons.1 h
      rw [risesB, Bool.and_eq_true]
      exact ⟨h1 y (List.mem_cons_self ..), ih.2 h2⟩
theorem risesB_adj : ∀ l : List En, (∀ (j : Nat) (x y : En), l[j]? = some x → l[j + 1]? = some y → x.mark.ltB y.mark = true) → risesB l = true
  | [], _ => rfl
  | [_], _ => rfl
  | x :: y :: l, h => by
    rw [risesB, Bool.and_eq_true]
    exact ⟨h 0 x y rfl rfl, risesB_adj (y :: l) fun j a b ha hb => h (j + 1) a b ha hb⟩
theorem risesB_not {l : List En} {j : Nat} {x y : En} (hx : l[j]? = some x) (hy : l[j + 1]? = some y) (h : x.mark.ltB y.mark = false) : risesB l = false := by
  cases hr : risesB l with
  | false => rfl
  | true =>
    have h1 := (risesB_iff l).1 hr
    have h2 := (List.pairwise_iff_getElem.1 h1) j (j + 1) (List.getElem?_eq_some_iff.1 hx).1 (List.getElem?_eq_some_iff.1 hy).1 (by omega)
    rw [(List.getElem?_eq_some_iff.1 hx).2, (List.getElem?_eq_some_iff.1 hy).2, h] at h2
    cases h2
/-- Entries none of which stands behind a later one. -/
def WS (l : List En) : Prop := l.Pairwise fun a b => b.mark.ltB a.mark = false
theorem Rises.ws {l : List En} (h : Rises l) : WS l := h.imp fun h => Mk.asymm h
theorem Rises.same {l : List En} (h : Rises l) {x y : En} (hx : x ∈ l) (hy : y ∈ l) (he : x.mark = y.mark) : x = y := by
  induction l with
  | nil => cases hx
  | cons a l ih =>
    obtain ⟨h1, h2⟩ := List.pairwise_cons.1 h
    rcases List.mem_cons.1 hx with hxa | hx <;> rcases List.mem_cons.1 hy with hya | hy
    · rw [hxa, hya]
    · have := h1 y hy; rw [← hxa, he, Mk.irrefl] at this; cases this
    · have := h1 x hx; rw [← hya, ← he, Mk.irrefl] at this; cases this
    · exact ih h2 hx hy
theorem ws_perm : ∀ {out l : List En}, WS out → Rises l → out.Perm l → out = l
  | [], l, _, _, hp => (List.nil_perm.1 hp).symm
  | o :: out, [], _, _, hp => absurd hp.length_eq (by simp)
  | o :: out, x :: l, hw, hr, hp => by
    obtain ⟨w1, w2⟩ := List.pairwise_cons.1 hw
    obtain ⟨r1, r2⟩ := List.pairwise_cons.1 hr
    have ho : o ∈ x :: l := hp.mem_iff.1 (List.mem_cons_self ..)
    have hx : x ∈ o :: out := hp.mem_iff.2 (List.mem_cons_self ..)
    have e : o = x := by
      rcases List.mem_cons.1 ho with h | h
      · exact h
      · rcases List.mem_cons.1 hx with h' | h'
        · exact h'.symm
        · have k1 := w1 x h'
          have k2 := r1 o h
          rw [k1] at k2
          cases k2
    subst e
    rw [ws_perm w2 r2 (List.Perm.cons_inv hp)]
def flatH (hs : List Ls) : List En := hs.flatMap (·.2)
/-- Between two takings of the top. -/
structure MI (all out : List En) (hs : List Ls) : Prop where
  perm : (out ++ flatH hs).Perm all
  ws : WS out
  le : ∀ e ∈ out, ∀ p ∈ hs, ∀ x ∈ p.2, x.mark.ltB e.mark = false
  ri : ∀ p ∈ hs, Rises p.2 ∧ p.2 ≠ []
  hp : HPx 0 hs
theorem MI.start {hs : List Ls} (hr : ∀ p ∈ hs, Rises p.2 ∧ p.2 ≠ []) (hh : HPx 0 hs) : MI (flatH hs) [] hs :=
  ⟨List.Perm.refl _, List.Pairwise.nil, (fun _ h => by cases h), hr, hh⟩
theorem MI.perm_hs {all out : List En} {hs hs' : List Ls} (h : MI all out hs) (hp : hs'.Perm hs) (hh : HPx 0 hs') : MI all out hs' := by
  refine ⟨List.Perm.trans (List.Perm.append_left _ (List.Perm.flatMap_right _ hp)) h.perm, h.ws, fun e he p hp' => h.le e he p (hp.mem_iff.1 hp'), fun p hp' => h.ri p (hp.mem_iff.1 hp'), hh⟩
theorem hd_le {p : Ls} (h : Rises p.2) {x : En} (hx : x ∈ p.2) : x.mark.ltB (hdM p) = false := by
  unfold hdM
  cases hp : p.2 with
  | nil => rw [hp] at hx; cases hx
  | cons a l =>
    rw [hp] at hx h
    rcases List.mem_cons.1 hx with rfl | hx
    · exact Mk.irrefl _
    · exact Mk.asymm ((List.pairwise_cons.1 h).1 x hx)
/-- The top's first entry is taken. -/
theorem MI.take {all out : List En} {v v' : Value} {t : En} {ts : List En} {rest rest' : List Ls} (h : MI all out ((v, t :: ts) :: rest)) (hr : rest'.Perm (if ts = [] then rest else (v', ts) :: rest)) (hh : HPx 0 rest') : MI all (out ++ [t]) rest' := by
  have htop : ∀ p ∈ (v, t :: ts) :: rest, ∀ x ∈ p.2, x.mark.ltB t.mark = false := fun p hp x hx => by
    obtain ⟨k, hk⟩ := List.getElem?_of_mem hp
    have h1 : leH (v, t :: ts) p := h.hp.top (x := (v, t :: ts)) rfl k p hk
    exact Mk.le_trans h1 (hd_le (h.ri p hp).1 hx)
  have hmem : ∀ p ∈ rest', (∃ q ∈ (v, t :: ts) :: rest, ∀ x ∈ p.2, x ∈ q.2) ∧ Rises p.2 ∧ p.2 ≠ [] := fun p hp => by
    have := hr.mem_iff.1 hp
    split at this
    · exact ⟨⟨p, List.mem_cons_of_mem _ this, fun x hx => hx⟩, h.ri p (List.mem_cons_of_mem _ this)⟩
    · rename_i hts
      rcases List.mem_cons.1 this with rfl | this
      · exact ⟨⟨_, List.mem_cons_self .., fun x hx => List.mem_cons_of_mem _ hx⟩, (List.pairwise_cons.1 (h.ri _ (List.mem_cons_self ..)).1).2, hts⟩
      · exact ⟨⟨p, List.mem_cons_of_mem _ this, fun x hx => hx⟩, h.ri p (List.mem_cons_of_mem _ this)⟩
  have hfl : (flatH rest').Perm (ts ++ flatH rest) := by
    refine List.Perm.trans (List.Perm.flatMap_right _ hr) ?_
    split
    · rename_i hts; subst hts; exact List.Perm.refl _
    · exact List.Perm.refl _
  refine ⟨?_, ?_, fun e he p hp x hx => ?_, fun p hp => (hmem p hp).2, hh⟩
  · refine List.Perm.trans (List.Perm.append_left _ hfl) ?_
    have : out ++ [t] ++ (ts ++ flatH rest) = out ++ flatH ((v, t :: ts) :: rest) := by
      unfold flatH
      rw [List.flatMap_cons, List.append_assoc]
      rfl
    rw [this]
    exact h.perm
  · refine List.pairwise_append.2 ⟨h.ws, List.pairwise_singleton _ _, fun a ha b hb => ?_⟩
    rw [List.mem_singleton.1 hb]
    exact h.le a ha _ (List.mem_cons_self ..) t (List.mem_cons_self ..)
  · obtain ⟨⟨q, hq, hqx⟩, _⟩ := hmem p hp
    rcases List.mem_append.1 he with he | he
    · exact h.le e he q hq x (hqx x hx)
    · rw [List.mem_singleton.1 he]; exact htop q hq x (hqx x hx)
theorem MI.done {all out : List En} (h : MI all out []) : WS out ∧ out.Perm all := ⟨h.ws, by have := h.perm; unfold flatH at this; simpa using this⟩
/-- What Merge tells of lists. -/
structure MergedL (ls : List (List En)) (out : List En) : Prop where
  ws : WS out
  perm : out.Perm ls.flatten
theorem MergedL.rises {ls : List (List En)} {out L : List En} (h : MergedL ls out) (hL : Rises L) (hp : ls.flatten.Perm L) : out = L := ws_perm h.ws hL (h.perm.trans hp)
theorem not_rises {ls : List (List En)} {out : List En} (h : out.Perm ls.flatten) (hd : ¬ (ls.flatten.map En.mark).Nodup) : risesB out = false := by
  cases hr : risesB out with
  | false => rfl
  | true =>
    refine absurd ?_ hd
    have h1 := (risesB_iff out).1 hr
    have h2 : (out.map En.mark).Nodup := by
      refine List.pairwise_map.2 (h1.imp fun {a b} hab he => ?_)
      rw [he, Mk.irrefl] at hab
      cases hab
    exact (List.Perm.nodup_iff (h.map En.mark)).1 h2
end Go.Proofs.YtefllplgbalbkaaGreatDoor
