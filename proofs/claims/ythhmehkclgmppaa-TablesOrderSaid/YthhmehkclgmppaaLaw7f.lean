/- Plain laws of the table that entries make. No condition. -/
import Derived.Test.YthhmehkclgmppaaPut7
namespace Go.Proofs.Ythhmehkclgmppaa
open Go.RowKit
theorem putL_mem {l : List En} {x e : En} {t : Int} (h : e ∈ putL l x t) : e ∈ l ∨ (e = x ∧ okB x t = true) := by
  unfold putL at h
  split at h
  · rename_i hok
    split at h
    · exact .inl h
    · split at h
      · exact .inl h
      · rcases ins_mem.1 h with h | h
        · exact .inr ⟨h, hok⟩
        · exact .inl h
  · exact .inl h
theorem tabL_mem {l : List En} : ∀ k, ∀ e ∈ tabL (l.take k), e ∈ l ∧ fineB e = true := by
  intro k
  induction k with
  | zero => intro e he; simp [tabL] at he
  | succ k ih =>
    intro e he
    cases hx : l[k]? with
    | none =>
      rw [List.take_add_one, hx] at he
      simp only [Option.toList, List.append_nil] at he
      exact ih e he
    | some x =>
      rw [tabL_take hx] at he
      rcases putL_mem he with he | ⟨rfl, h2⟩
      · exact ih e he
      · exact ⟨List.mem_of_getElem? hx, by rw [← okB_one]; exact h2⟩
theorem tabL_fine {l : List En} {e : En} (he : e ∈ tabL l) : e ∈ l ∧ fineB e = true := tabL_mem l.length e (by rw [List.take_of_length_le (Nat.le_refl _)]; exact he)
def zMk : Mk := ⟨⟨#[]⟩, 0, false⟩
theorem fine_key {e : En} (h : fineB e = true) : 1 ≤ e.mark.key.size ∧ e.mark.key.size ≤ 32 := by
  unfold fineB okeyB at h
  simp only [Bool.and_eq_true, decide_eq_true_eq] at h
  exact h.1
theorem fine_zero {e : En} (h : fineB e = true) : e.mark.ltB zMk = false := by
  have hk := fine_key h
  cases h2 : e.mark.ltB zMk with
  | false => rfl
  | true =>
    rcases Mk.lt_iff.1 h2 with h3 | ⟨h3, _⟩
    · rw [show zMk.key.toList = [] from by kernel_rfl] at h3
      cases hh : e.mark.key.toList <;> rw [hh] at h3 <;> simp [Op.bytesLess] at h3
    · rw [show zMk.key.toList = [] from by kernel_rfl] at h3
      have := (empty_iff e.mark.key).1 (by rw [h3]; rfl)
      omega
theorem rest_zero {L : List En} (h : ∀ e ∈ L, fineB e = true) : restL L zMk = L := by
  cases L with
  | nil => rfl
  | cons x r =>
    unfold restL
    rw [List.dropWhile_cons, fine_zero (h x (List.mem_cons_self ..))]; rfl
theorem rest_tabL (l : List En) : restL (tabL l) zMk = tabL l := rest_zero fun _ he => (tabL_fine he).2
/-- Has an entry this key, and no greater number? -/
def isP (key : ByteArray) (seq : Nat) (e : En) : Bool := e.mark.key.toList == key.toList && decide (e.mark.seq ≤ seq)
theorem isP_iff {key : ByteArray} {seq : Nat} {e : En} : isP key seq e = true ↔ e.mark.key.toList = key.toList ∧ e.mark.seq ≤ seq := by
  unfold isP; rw [Bool.and_eq_true, beq_iff_eq, decide_eq_true_eq]
theorem ahead_notP {key : ByteArray} {seq : Nat} {e : En} (h : e.mark.ltB ⟨key, seq, true⟩ = true) : isP key seq e = false := by
  cases hp : isP key seq e with
  | false => rfl
  | true =>
    obtain ⟨h1, h2⟩ := isP_iff.1 hp
    rcases Mk.lt_iff.1 h with h3 | ⟨_, h3 | ⟨_, h3⟩⟩
    · simp only at h3; rw [h1, bl_irrefl] at h3; cases h3
    · simp only at h3; omega
    · cases hg : e.mark.gone <;> rw [hg] at h3 <;> simp [goneN] at h3
theorem rest_seq {key : ByteArray} {seq : Nat} {e : En} (h : e.mark.ltB ⟨key, seq, true⟩ = false) (hk : e.mark.key.toList = key.toList) : e.mark.seq ≤ seq := by
  cases Nat.lt_or_ge seq e.mark.seq with
  | inl h2 =>
    have : e.mark.ltB ⟨key, seq, true⟩ = true := Mk.lt_iff.2 (.inr ⟨hk, .inl h2⟩)
    rw [h] at this; cases this
  | inr h2 => exact h2
theorem getS_find {L : List En} (hr : Rises L) (key : ByteArray) (seq : Nat) : getS L key seq = L.find? (isP key seq) := by
  have hL := ahead_rest L ⟨key, seq, true⟩
  have h1 : L.find? (isP key seq) = (restL L ⟨key, seq, true⟩).find? (isP key seq) := by
    conv => lhs; rw [← hL]
    rw [List.find?_append, List.find?_eq_none.2 (fun x hx => by simp [ahead_notP (ahead_lt hx)])]
    simp
  rw [h1]
  unfold getS
  cases hh : restL L ⟨key, seq, true⟩ with
  | nil => rfl
  | cons x r =>
    simp only
    have hx := rest_ge hr (m := ⟨key, seq, true⟩) (e := x) (by rw [hh]; exact List.mem_cons_self ..)
    by_cases hk : x.mark.key.toList = key.toList
    · rw [if_pos (by simpa using hk), List.find?_cons, isP_iff.2 ⟨hk, rest_seq hx hk⟩]
    · rw [if_neg (by simpa using hk)]
      refine (List.find?_eq_none.2 fun y hy => ?_).symm
      intro hp
      obtain ⟨hy1, hy2⟩ := isP_iff.1 hp
      have hR : Rises (x :: r) := by have := (rises_parts hr ⟨key, seq, true⟩).2; rw [hh] at this; exact this
      rcases List.mem_cons.1 hy with rfl | hy
      · exact hk hy1
      · have h3 := (List.pairwise_cons.1 hR).1 y hy
        rcases Mk.lt_iff.1 h3 with h4 | ⟨h4, _⟩
        · rw [hy1] at h4
          have : x.mark.ltB ⟨key, seq, true⟩ = true := Mk.lt_iff.2 (.inl h4)
          rw [hx] at this; cases this
        · exact hk (h4.trans hy1)
theorem find_take {α : Type} {p : α → Bool} {l : List α} {k : Nat} {x : α} (h : l[k]? = some x) : (l.take (k + 1)).find? p = ((l.take k).find? p).or (if p x then some x else none) := by
  rw [List.take_add_one, h, List.find?_append]
  simp only [Option.toList, List.find?_cons, List.find?_nil]
  cases p x <;> rfl
theorem find_again {L : List En} {key : ByteArray} {seq : Nat} {x : En} (h : L.find? (isP key seq) = some x) : L.find? (isP key x.mark.seq) = some x := by
  obtain ⟨h1, p, r, rfl, h3⟩ := List.find?_eq_some_iff_append.1 h
  obtain ⟨hk, hs⟩ := isP_iff.1 h1
  refine List.find?_eq_some_iff_append.2 ⟨isP_iff.2 ⟨hk, Nat.le_refl _⟩, p, r, rfl, fun y hy => ?_⟩
  have hy2 := h3 y hy
  rw [Bool.not_eq_true'] at hy2 ⊢
  cases hp : isP key x.mark.seq y with
  | false => rfl
  | true =>
    obtain ⟨a, b⟩ := isP_iff.1 hp
    have := isP_iff.2 (⟨a, Nat.le_trans b hs⟩ : y.mark.key.toList = key.toList ∧ y.mark.seq ≤ seq)
    rw [hy2] at this; cases this
theorem exec_eql_en (o : Oper) (a : Act) (x y : Operand) (ho : o.op = .binOp .eql 26 x y 26) (m n : En) (hx : a.eval x = .agg (enRow m)) (hy : a.eval y = .agg (enRow n)) (w : World) : (execOp a.eval o).run Try.prog w = .ok (.value (.bool (sameEB m n))) w := by
  unfold execOp
  simp only [ho, hx, hy, enRow]
  have hs : ((m.mark.seq : Int) = (n.mark.seq : Int)) ↔ m.mark.seq = n.mark.seq := by omega
  go_simp
  unfold sameEB sameB
  by_cases h1 : m.mark.key.toList = n.mark.key.toList <;> by_cases h2 : m.mark.seq = n.mark.seq <;> by_cases h3 : m.mark.gone = n.mark.gone <;> by_cases h4 : m.val.toList = n.val.toList <;> simp [h1, h2, h3, h4]
theorem wpList_eql_en {ops : Array Oper} {rest : List Oper} {o : Oper} {a : Act} {Q : Exit → Act → World → Prop} {w : World} (hg : Region.wanted o (yielded ops a.tmps) = true) (x y : Operand) (ho : o.op = .binOp .eql 26 x y 26) (m n : En) (hx : a.eval x = .agg (enRow m)) (hy : a.eval y = .agg (enRow n))
    (h : wpList Try.prog ops Q rest (a.put o.dst (.bool (sameEB m n))) w) : wpList Try.prog ops Q (o :: rest) a w := by
  unfold wpList
  rw [if_pos hg]
  refine .inl ?_
  unfold Oper.wp
  rw [exec_eql_en o a x y ho m n hx hy w]
  exact h
theorem wpQuiet_eql_en {ops : Array Oper} {C : World → Prop} {Q : Act → Prop} {o : Oper} {rest : List Oper} {a : Act} (hg : Region.wanted o (yielded ops a.tmps) = true) (x y : Operand) (ho : o.op = .binOp .eql 26 x y 26) (m n : En) (hx : a.eval x = .agg (enRow m)) (hy : a.eval y = .agg (enRow n))
    (k : wpQuiet Try.prog ops C Q rest (a.put o.dst (.bool (sameEB m n)))) : wpQuiet Try.prog ops C Q (o :: rest) a :=
  wpQuiet_value _ hg (fun w _ => exec_eql_en o a x y ho m n hx hy w) k
end Go.Proofs.Ythhmehkclgmppaa
