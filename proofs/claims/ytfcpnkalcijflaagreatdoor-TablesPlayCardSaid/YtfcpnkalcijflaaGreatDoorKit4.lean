/- Append at one operation (in a region that draws its order too), and append to one of several rows of the call's own. No condition. -/
import Derived.Test.YtfcpnkalcijflaaGreatDoorKit3
import Derived.Maps.AppendAt
namespace Go.Proofs.YtfcpnkalcijflaaGreatDoor
open Go.RowKit

theorem wp_append_row {P : Program} {o : Oper} {a : Act} {K : Act → World → Prop} {Q : Exit → Act → World → Prop} (s x : Operand) (t e : TypeId)
    (ho : o.op = .call { callee := .builtin .append, args := #[s, x], argTypes := #[t, t] }) (ht : P.underlying t = some (.slice e)) {size bytes : Nat} (hel : ElemIs P e size bytes)
    (w : World) (base n : Nat) (xs : List Value) (v : Value) (hs : a.eval s = v) (hown : w.ownsRow base e size v n xs) (xv : Value) (m : Nat) (news : List Value)
    (hx : a.eval x = xv) (hr : RowIs w size xv m news) (h1 : ∀ u ∈ news, u.oneCell' = true) (hn : n + m ≤ 9223372036854775807) (hb : (n + m) * bytes ≤ 140737488355328) (hbase : base ≤ w.heap.size)
    (h : ∀ v' w', w'.ownsRow base e size v' (n + m) (xs ++ news) → Below base w w' → K (a.put o.dst v') w') : o.wp P a w K Q := by
  obtain ⟨i, z, hi, hz, hsize, hby, hzs, hpos⟩ := hel
  have hk : ∀ ad c, xv = .slice (some ad) m c → (∀ j u, news[j]? = some u → w.cell? (ad.add j) = some u) → o.wp P a w K Q := by
    intro ad c hxv hcell
    refine wp_append_own w s x t ho base e i z size bytes ht hi hz hsize hby hzs hpos v n xs hs hown ad m c news (by rw [hx, hxv]) hr.1 hcell h1 (by unfold maxLen; omega) hb hbase ?_
    intro v' w' hown' hg _
    exact h v' w' hown' ((Below.refl base w).grown hg hbase (fun k hk => (hown.lt k hk).1))
  obtain ⟨hl, _, ⟨rfl, ad, c, rfl, hnil⟩ | ⟨b, off, c, rfl, hc, hd⟩⟩ := hr
  · have hnews : news = [] := List.eq_nil_of_length_eq_zero (by omega)
    subst hnews
    cases ad with
    | none =>
      obtain rfl := hnil rfl
      have hrun := run_append_owned_none (P := P) (w := w) base t o.type e i size ht hi v n xs hown
      unfold Oper.wp
      simp [execOp, ho, resolve, invoke, builtin, hs, hx, hrun, Result.andThen]
      exact h v w (by simpa using hown) (Below.refl _ _)
    | some ad => exact hk ad c rfl (fun j u hj => by simp at hj)
  · refine hk ⟨b, off, none⟩ c rfl (fun j u hj => ?_)
    have hj' : j < news.length := (List.getElem?_eq_some_iff.1 hj).1
    rw [Addr.add_mid, hd j (by omega), hj]

theorem step_append_row {P : Program} {ops : Array Oper} {o : Oper} {a : Act} {K : Act → World → Prop} {Q : Exit → Act → World → Prop} {E : Prop} (hg : Region.wanted o (yielded ops a.tmps) = true) (s x : Operand) (t e : TypeId)
    (ho : o.op = .call { callee := .builtin .append, args := #[s, x], argTypes := #[t, t] }) (ht : P.underlying t = some (.slice e)) {size bytes : Nat} (hel : ElemIs P e size bytes)
    (w : World) (base n : Nat) (xs : List Value) (v : Value) (hs : a.eval s = v) (hown : w.ownsRow base e size v n xs) (xv : Value) (m : Nat) (news : List Value)
    (hx : a.eval x = xv) (hr : RowIs w size xv m news) (h1 : ∀ u ∈ news, u.oneCell' = true) (hn : n + m ≤ 9223372036854775807) (hb : (n + m) * bytes ≤ 140737488355328) (hbase : base ≤ w.heap.size)
    (h : ∀ v' w', w'.ownsRow base e size v' (n + m) (xs ++ news) → Below base w w' → K (a.put o.dst v') w') : if Region.wanted o (yielded ops a.tmps) = true then Oper.wp P o a w K Q else E := by
  rw [if_pos hg]
  exact wp_append_row s x t e ho ht hel w base n xs v hs hown xv m news hx hr h1 hn hb hbase h

/-- Two slices do not lie in one block. -/
def Sep (v u : Value) : Prop := ∀ g, v.ownBlock = some g → u.ownBlock ≠ some g
theorem Sep.symm {v u : Value} (h : Sep v u) : Sep u v := fun g hg hu => h g hu hg
theorem Sep.nil (u : Value) : Sep (.slice none 0 0) u := fun g hg => by simp [Value.ownBlock] at hg
/-- What another row of the call's own is, behind an append to v that gave v'. -/
def Keeps (w w' : World) (v v' : Value) : Prop := ∀ (base : Nat) (e : TypeId) (size : Nat) (u : Value) (n : Nat) (xs : List Value), w.ownsRow base e size u n xs → Sep v u → w'.ownsRow base e size u n xs ∧ Sep v' u

theorem wpList_append_sep {P : Program} {ops : Array Oper} {rest : List Oper} {o : Oper} {a : Act} {Q : Exit → Act → World → Prop} (hgd : o.guard = none) (s x : Operand) (t e : TypeId)
    (ho : o.op = .call { callee := .builtin .append, args := #[s, x], argTypes := #[t, t] }) (ht : P.underlying t = some (.slice e)) {size bytes : Nat} (hel : ElemIs P e size bytes)
    (w : World) (base n : Nat) (xs : List Value) (v : Value) (hs : a.eval s = v) (hown : w.ownsRow base e size v n xs) (cs : Array Value)
    (hx : a.eval x = .slice (some ⟨w.heap.size, 0, none⟩) 1 1) (hcs : cs.size = size) (h1 : ∀ u ∈ cs.toList, u.oneCell' = true) (hn : n < 9223372036854775807) (hb : (n + 1) * bytes ≤ 140737488355328) (hbase : base ≤ w.heap.size)
    (h : ∀ v' w', w'.ownsRow base e size v' (n + 1) (xs ++ cs.toList) → Below base w w' → Keeps w w' v v' → wpList P ops Q rest (a.put o.dst v') w') : wpList P ops Q (o :: rest) a (w.alloc (.cells cs e)) := by
  obtain ⟨i, z, hi, hz, hsize, hby, hzs, hpos⟩ := hel
  refine wpList_append_own_at _ hgd s x t ho base e i z size bytes ht hi hz hsize hby hzs hpos v n xs hs (hown.alloc _) ⟨w.heap.size, 0, none⟩ 1 1 cs.toList hx (by simp [hcs]) ?_ h1 (by unfold maxLen; omega) hb (by simp; omega) ?_
  · intro j u hu
    rw [Addr.add_mid, Nat.zero_add, cell_of_row _ _ j cs e (0, 0) (heap_alloc_new w _)]
    simpa using hu
  · intro v' w' hown' hg _ hat
    refine h v' w' hown' (((Below.refl base w).alloc hbase _).grown hg (by simp; omega) (fun k hk => (hown.lt k hk).1)) ?_
    intro base2 e2 size2 u n2 xs2 hu hsep
    refine ⟨(hu.alloc _).kept hg ?_, ?_⟩
    · cases hub : u.ownBlock with
      | none => exact .inl rfl
      | some k => exact .inr (fun hk => hsep.symm k hub hk.symm)
    · intro g hg' hug
      rcases hat with hat | hat
      · exact hsep g (hat ▸ hg') hug
      · rw [hat] at hg'
        have := (hu.lt g hug).2
        simp at hg'
        omega
end Go.Proofs.YtfcpnkalcijflaaGreatDoor
