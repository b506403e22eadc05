/- Marks in order: the order that order.Cmp tells, as a plain law on bytes and numbers. No condition. -/
import Derived.WalkKit
import Derived.WalkLawsBesides
import Derived.Lib.Strings
namespace Go.Proofs.YtfcpnkalcijflaaGreatDoor
theorem bl_irrefl : ∀ x : List UInt8, Op.bytesLess x x = false
  | [] => rfl
  | a :: x => by
    have h1 : ¬ a < a := UInt8.lt_irrefl a
    simp [Op.bytesLess, h1, bl_irrefl x]
theorem bl_trans : ∀ x y z : List UInt8, Op.bytesLess x y = true → Op.bytesLess y z = true → Op.bytesLess x z = true
  | _, _, [], _, h => by simp [Op.bytesLess] at h
  | _, [], _ :: _, h, _ => by simp [Op.bytesLess] at h
  | [], _ :: _, _ :: _, _, _ => rfl
  | a :: x, b :: y, c :: z, h1, h2 => by
    simp only [Op.bytesLess, Bool.or_eq_true, Bool.and_eq_true, decide_eq_true_eq, beq_iff_eq] at h1 h2 ⊢
    rcases h1 with h1 | ⟨rfl, h1⟩
    · rcases h2 with h2 | ⟨rfl, _⟩
      · exact .inl (UInt8.lt_trans h1 h2)
      · exact .inl h1
    · rcases h2 with h2 | ⟨rfl, h2⟩
      · exact .inl h2
      · exact .inr ⟨rfl, bl_trans x y z h1 h2⟩
theorem bl_tri : ∀ x y : List UInt8, Op.bytesLess x y = false → Op.bytesLess y x = false → x = y
  | [], [], _, _ => rfl
  | [], _ :: _, h, _ => by simp [Op.bytesLess] at h
  | _ :: _, [], _, h => by simp [Op.bytesLess] at h
  | a :: x, b :: y, h1, h2 => by
    simp only [Op.bytesLess, Bool.or_eq_false_iff, decide_eq_false_iff_not, Bool.and_eq_false_iff, beq_eq_false_iff_ne] at h1 h2
    have hab : a = b := UInt8.le_antisymm (UInt8.not_lt.1 h2.1) (UInt8.not_lt.1 h1.1)
    subst hab
    have h3 : Op.bytesLess x y = false := by rcases h1.2 with h | h; exact absurd rfl h; exact h
    have h4 : Op.bytesLess y x = false := by rcases h2.2 with h | h; exact absurd rfl h; exact h
    rw [bl_tri x y h3 h4]
theorem bl_asymm (x y : List UInt8) (h : Op.bytesLess x y = true) : Op.bytesLess y x = false := by
  cases h2 : Op.bytesLess y x with
  | false => rfl
  | true => have := bl_trans x y x h h2; rw [bl_irrefl] at this; cases this
/-- A mark. -/
structure Mk where
  key : ByteArray
  seq : Nat
  gone : Bool
theorem ba_ext {s t : ByteArray} (h : s.toList = t.toList) : s = t := by
  rw [Lib.toList_data, Lib.toList_data] at h
  cases s; cases t
  simp only at h
  rw [Array.toList_inj.1 h]
def goneN (b : Bool) : Nat := if b then 1 else 0
def Mk.ltB (a b : Mk) : Bool := Op.bytesLess a.key.toList b.key.toList || (a.key.toList == b.key.toList && (decide (b.seq < a.seq) || (a.seq == b.seq && decide (goneN b.gone < goneN a.gone))))
theorem Mk.lt_iff {a b : Mk} : a.ltB b = true ↔ Op.bytesLess a.key.toList b.key.toList = true ∨ (a.key.toList = b.key.toList ∧ (b.seq < a.seq ∨ (a.seq = b.seq ∧ goneN b.gone < goneN a.gone))) := by
  simp only [Mk.ltB, Bool.or_eq_true, Bool.and_eq_true, decide_eq_true_eq, beq_iff_eq]
theorem Mk.irrefl (a : Mk) : a.ltB a = false := by
  rw [← Bool.not_eq_true, Mk.lt_iff, bl_irrefl]
  simp
theorem Mk.trans {a b c : Mk} (h1 : a.ltB b = true) (h2 : b.ltB c = true) : a.ltB c = true := by
  rw [Mk.lt_iff] at *
  rcases h1 with h1 | ⟨e1, h1⟩
  · rcases h2 with h2 | ⟨e2, _⟩
    · exact .inl (bl_trans _ _ _ h1 h2)
    · exact .inl (e2 ▸ h1)
  · rcases h2 with h2 | ⟨e2, h2⟩
    · exact .inl (e1 ▸ h2)
    · exact .inr ⟨e1.trans e2, by omega⟩
theorem Mk.asymm {a b : Mk} (h : a.ltB b = true) : b.ltB a = false := by
  cases h2 : b.ltB a with
  | false => rfl
  | true => have := Mk.trans h h2; rw [Mk.irrefl] at this; cases this
theorem Mk.tri {a b : Mk} (h1 : a.ltB b = false) (h2 : b.ltB a = false) : a = b := by
  rw [← Bool.not_eq_true, Mk.lt_iff] at h1 h2
  have k1 : a.key.toList = b.key.toList := bl_tri _ _ (by rw [← Bool.not_eq_true]; exact fun h => h1 (.inl h)) (by rw [← Bool.not_eq_true]; exact fun h => h2 (.inl h))
  have s1 : ¬ (b.seq < a.seq ∨ (a.seq = b.seq ∧ goneN b.gone < goneN a.gone)) := fun h => h1 (.inr ⟨k1, h⟩)
  have s2 : ¬ (a.seq < b.seq ∨ (b.seq = a.seq ∧ goneN a.gone < goneN b.gone)) := fun h => h2 (.inr ⟨k1.symm, h⟩)
  obtain ⟨ak, as, ag⟩ := a
  obtain ⟨bk, bs, bg⟩ := b
  simp only at k1 s1 s2
  obtain rfl := ba_ext k1
  have hs : as = bs := by omega
  subst hs
  have hg : ag = bg := by
    cases ag <;> cases bg <;> simp [goneN] at s1 s2 <;> rfl
  rw [hg]
/-- What order.Cmp tells. -/
def cmpM (a b : Mk) : Int := if a.ltB b then -1 else if b.ltB a then 1 else 0
theorem cmpM_neg {a b : Mk} : cmpM a b < 0 ↔ a.ltB b = true := by
  unfold cmpM
  cases h : a.ltB b <;> cases h2 : b.ltB a <;> simp
theorem cmpM_ge {a b : Mk} : 0 ≤ cmpM a b ↔ a.ltB b = false := by
  unfold cmpM
  cases h : a.ltB b <;> cases h2 : b.ltB a <;> simp
structure En where
  mark : Mk
  val : ByteArray
/-- Entries that rise. -/
def Rises (l : List En) : Prop := l.Pairwise (fun a b => a.mark.ltB b.mark = true)
def aheadL (l : List En) (m : Mk) : List En := l.takeWhile (fun e => e.mark.ltB m)
def restL (l : List En) (m : Mk) : List En := l.dropWhile (fun e => e.mark.ltB m)
theorem ahead_rest (l : List En) (m : Mk) : aheadL l m ++ restL l m = l := List.takeWhile_append_dropWhile ..
theorem ahead_lt {l : List En} {m : Mk} {e : En} (h : e ∈ aheadL l m) : e.mark.ltB m = true := by
  unfold aheadL at h
  induction l with
  | nil => simp at h
  | cons x l ih =>
    rw [List.takeWhile_cons] at h
    split at h
    · rcases List.mem_cons.1 h with rfl | h
      · assumption
      · exact ih h
    · cases h
theorem rest_ge {l : List En} (hs : Rises l) {m : Mk} {e : En} (h : e ∈ restL l m) : e.mark.ltB m = false := by
  unfold restL at h
  induction l with
  | nil => simp at h
  | cons x l ih =>
    obtain ⟨h1, h2⟩ := List.pairwise_cons.1 hs
    rw [List.dropWhile_cons] at h
    split at h
    · exact ih h2 h
    · rename_i hx
      rcases List.mem_cons.1 h with rfl | h
      · simpa using hx
      · cases he : e.mark.ltB m with
        | false => rfl
        | true => exact absurd (Mk.trans (h1 e h) he) hx
theorem mem_ahead_rest {l : List En} {m : Mk} {e : En} : e ∈ l ↔ e ∈ aheadL l m ∨ e ∈ restL l m := by
  rw [← List.mem_append, ahead_rest]
theorem rises_parts {l : List En} (hs : Rises l) (m : Mk) : Rises (aheadL l m) ∧ Rises (restL l m) := by
  have h : Rises (aheadL l m ++ restL l m) := by rw [ahead_rest]; exact hs
  obtain ⟨h1, h2, _⟩ := List.pairwise_append.1 h
  exact ⟨h1, h2⟩
/-- An entry of the mark m stands first behind what is ahead of m, or there is none. -/
theorem rest_first {l : List En} (hs : Rises l) {m : Mk} {e : En} (he : e ∈ l) (hm : e.mark = m) : ∃ r, restL l m = e :: r := by
  have h1 : e ∈ restL l m := by
    rcases mem_ahead_rest.1 he with h | h
    · have := ahead_lt h; rw [hm, Mk.irrefl] at this; cases this
    · exact h
  have hr := (rises_parts hs m).2
  have hg : ∀ x ∈ restL l m, x.mark.ltB m = false := fun x hx => rest_ge hs hx
  cases h : restL l m with
  | nil => rw [h] at h1; cases h1
  | cons y r =>
    rw [h] at h1 hr hg
    rcases List.mem_cons.1 h1 with rfl | h1
    · exact ⟨r, rfl⟩
    · have := (List.pairwise_cons.1 hr).1 e h1
      rw [hm] at this
      have h2 := hg y (List.mem_cons_self ..)
      rw [this] at h2; cases h2
def insL (l : List En) (x : En) : List En := aheadL l x.mark ++ x :: restL l x.mark
theorem ins_mem {l : List En} {x e : En} : e ∈ insL l x ↔ e = x ∨ e ∈ l := by
  unfold insL
  rw [List.mem_append, List.mem_cons, mem_ahead_rest (l := l) (m := x.mark)]
  constructor
  · rintro (h | h | h)
    · exact .inr (.inl h)
    · exact .inl h
    · exact .inr (.inr h)
  · rintro (h | h | h)
    · exact .inr (.inl h)
    · exact .inl h
    · exact .inr (.inr h)
theorem ins_length (l : List En) (x : En) : (insL l x).length = l.length + 1 := by
  have h := congrArg List.length (ahead_rest l x.mark)
  unfold insL
  rw [List.length_append] at h ⊢
  rw [List.length_cons]; omega
theorem ins_rises {l : List En} (hs : Rises l) {x : En} (hx : ∀ e ∈ l, e.mark ≠ x.mark) : Rises (insL l x) := by
  obtain ⟨h1, h2⟩ := rises_parts hs x.mark
  refine List.pairwise_append.2 ⟨h1, List.pairwise_cons.2 ⟨fun e he => ?_, h2⟩, fun a ha b hb => ?_⟩
  · have hg := rest_ge hs he
    cases h : x.mark.ltB e.mark with
    | true => rfl
    | false => exact absurd (Mk.tri hg h) (hx e (mem_ahead_rest.2 (.inr he)))
  · have hlt := ahead_lt ha
    rcases List.mem_cons.1 hb with rfl | hb
    · exact hlt
    · have hg := rest_ge hs hb
      cases h : a.mark.ltB b.mark with
      | true => rfl
      | false =>
        cases h2 : b.mark.ltB a.mark with
        | true => rw [Mk.trans h2 hlt] at hg; cases hg
        | false => rw [Mk.tri h h2] at hlt; rw [hlt] at hg; cases hg
end Go.Proofs.YtfcpnkalcijflaaGreatDoor
