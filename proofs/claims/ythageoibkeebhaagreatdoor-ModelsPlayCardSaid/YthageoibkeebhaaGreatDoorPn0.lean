/- A state, the document's state and a book side by side: each call turns its own alone. No condition. -/
import Derived.Test.YthageoibkeebhaaGreatDoorGrN
import Derived.Test.YthageoibkeebhaaGreatDoorGrY
import Derived.Test.YthageoibkeebhaaGreatDoorMod16
namespace Go.Proofs.YthageoibkeebhaaGreatDoor
open Go.RowKit
set_option maxHeartbeats 1000000
/-- The blocks that a call on one of the three may turn, at w. -/
def mutB (w0 w : World) (q : Nat) : Prop := w0.heap.size ≤ q ∧ ((∃ es cl, w.heap[q]? = some (.map es cl)) ∨ ∃ c t, w.heap[q]? = some (.cells c t (0, 0)) ∧ (t = 96 ∨ t = 112 ∨ bkOwn t))
theorem own_not {t : TypeId} (h : bkOwn t) : t ≠ 96 ∧ t ≠ 112 ∧ t ≠ 84 ∧ t ≠ 102 ∧ t ≠ 87 := by
  rcases h with rfl | ⟨j, hj, rfl⟩
  · decide
  · rcases hj with rfl | rfl | rfl <;> decide
theorem any_not {t : TypeId} (h : bkAny t) : t ≠ 96 ∧ t ≠ 112 := by
  rcases h with h | ⟨j, hj, rfl⟩
  · exact ⟨(own_not h).1, (own_not h).2.1⟩
  · rcases hj with rfl | rfl | rfl <;> decide
theorem ref_not {t : TypeId} (h : refTy t) : t ≠ 96 ∧ ¬ bkOwn t := by
  rcases h with rfl | rfl | rfl
  · exact ⟨by decide, fun h => (own_not h).2.1 rfl⟩
  · exact ⟨by decide, fun h => (own_not h).2.2.1 rfl⟩
  · exact ⟨by decide, fun h => (own_not h).2.2.2.2 rfl⟩
/-- A block of another type stays as it is. -/
theorem mut_row {w0 w w' : World} (hO : OffB (mutB w0 w) w w') {k : Nat} {c : Array Value} {t : TypeId} (h : w.heap[k]? = some (.cells c t (0, 0))) (h1 : t ≠ 96) (h2 : t ≠ 112) (h3 : ¬ bkOwn t) : w'.heap[k]? = some (.cells c t (0, 0)) := by
  refine (hO.block k (Array.getElem?_eq_some_iff.1 h).1 (fun ⟨_, hB⟩ => ?_)).trans h
  rcases hB with ⟨es, cl, e⟩ | ⟨c', t', e, hm⟩
  · rw [h] at e; cases e
  · rw [h] at e
    injection e with e
    injection e with _ e
    subst e
    rcases hm with e | e | e
    · exact h1 e
    · exact h2 e
    · exact h3 e
theorem mut_own {w0 w w' : World} (hO : OffB (mutB w0 w) w w') {base : Nat} {e : TypeId} {z n : Nat} {v : Value} {xs : List Value} (h : OwnC w base e z v n xs) (h1 : e ≠ 96) (h2 : e ≠ 112) (h3 : ¬ bkOwn e) : OwnC w' base e z v n xs := by
  refine h.offB hO (fun q hq ⟨_, hB⟩ => ?_)
  obtain ⟨c, hc⟩ := own_ty h hq
  rcases hB with ⟨es, cl, e⟩ | ⟨c', t', e, hm⟩
  · rw [hc] at e; cases e
  · rw [hc] at e
    injection e with e
    injection e with _ e
    subst e
    rcases hm with e | e | e
    · exact h1 e
    · exact h2 e
    · exact h3 e
/-- The three: the state holds ms, the document's mr; the blocks K are not the book's. -/
def PlayM (K : Nat → Prop) (w0 : World) (st mb rst g n : Nat) (ms mr : Md) (w : World) : Prop := ∃ Z, Ext w0 w ∧ StM w0 w st mb ms ∧ RefM w0.heap.size w rst mr.rows ((saidL mr.sd).map toSa) ∧ BkZ w0.heap.size g n w Z ∧ ∀ k, K k → k < w.heap.size ∧ ¬ Z k
section
variable {K : Nat → Prop} {w0 w w' : World} {st mb rst g n : Nat} {ms mr : Md}
theorem PlayM.grown (h : PlayM K w0 st mb rst g n ms mr w) : Ext w0 w := by obtain ⟨Z, h0, _⟩ := h; exact h0
theorem PlayM.ext (h : PlayM K w0 st mb rst g n ms mr w) (hE : Ext w w') : PlayM K w0 st mb rst g n ms mr w' := by
  obtain ⟨Z, h0, h1, h2, h3, h4⟩ := h
  exact ⟨Z, h0.trans hE, h1.ext hE, h2.ext hE, h3.ext hE, fun k hk => ⟨Nat.lt_of_lt_of_le (h4 k hk).1 hE.size, (h4 k hk).2⟩⟩
theorem PlayM.loose (h : PlayM K w0 st mb rst g n ms mr w) : PlayM (fun _ => False) w0 st mb rst g n ms mr w := by
  obtain ⟨Z, h0, h1, h2, h3, h4⟩ := h
  exact ⟨Z, h0, h1, h2, h3, fun k hk => hk.elim⟩
/-- Blocks that came later are not the book's. -/
theorem PlayM.hold {K' : Nat → Prop} (h : PlayM K w0 st mb rst g n ms mr w) (hE : Ext w w') (hK : ∀ k, K' k → w.heap.size ≤ k ∧ k < w'.heap.size) : PlayM K' w0 st mb rst g n ms mr w' := by
  obtain ⟨Z, h0, h1, h2, h3, h4⟩ := h
  exact ⟨Z, h0.trans hE, h1.ext hE, h2.ext hE, h3.ext hE, fun k hk => ⟨(hK k hk).2, fun hz => by have := h3.lt hz; have := (hK k hk).1; omega⟩⟩
/-- A state is turned: its two blocks alone. -/
theorem PlayM.doS {ms' : Md} (h : PlayM K w0 st mb rst g n ms mr w) (hS : StM w0 w' st mb ms') (hO : OffB (fun i => i = st ∨ i = mb) w w') : PlayM K w0 st mb rst g n ms' mr w' ∧ OffB (mutB w0 w) w w' := by
  obtain ⟨Z, h0, h1, h2, h3, h4⟩ := h
  obtain ⟨b1, b2, b3, b4, b5, b6, es, cl, b7⟩ := h1.at
  have hty : ∀ q, (q = st ∨ q = mb) → ∀ c t, w.heap[q]? = some (.cells c t (0, 0)) → t = 96 := fun q hq c t hc => by
    rcases hq with rfl | rfl
    · rw [b6] at hc
      injection hc with hc
      injection hc with _ hc
      exact hc.symm
    · rw [b7] at hc; cases hc
  refine ⟨⟨Z, Below.trans h0 (hO.below (fun q hq => by rcases hq with rfl | rfl <;> assumption) h0.size), hS, h2.offT hO (fun q hq c t hc hr => (ref_not hr).1 (hty q hq c t hc)), h3.offT hO (fun q hq => by rcases hq with rfl | rfl <;> assumption) (fun q hq c t hc ha => (any_not ha).1 (hty q hq c t hc)), fun k hk => ⟨Nat.lt_of_lt_of_le (h4 k hk).1 hO.size, (h4 k hk).2⟩⟩, hO.mono fun q hq => ?_⟩
  rcases hq with rfl | rfl
  · exact ⟨b1, .inr ⟨_, _, b6, .inl rfl⟩⟩
  · exact ⟨b2, .inl ⟨es, cl, b7⟩⟩
/-- The document's state is turned: its one block alone. -/
theorem PlayM.doR {mr' : Md} (h : PlayM K w0 st mb rst g n ms mr w) (hR : RefM w0.heap.size w' rst mr'.rows ((saidL mr'.sd).map toSa)) (hO : OffB (fun i => i = rst) w w') : PlayM K w0 st mb rst g n ms mr' w' ∧ OffB (mutB w0 w) w w' := by
  obtain ⟨Z, h0, h1, h2, h3, h4⟩ := h
  obtain ⟨b1, b2, b3, b4, b5, b6, es, cl, b7⟩ := h1.at
  have hge := h2.at.1
  obtain ⟨ra, rc, sa, sc, hrow, _⟩ := h2
  have hty : ∀ q, q = rst → ∀ c t, w.heap[q]? = some (.cells c t (0, 0)) → t = 112 := fun q hq c t hc => by
    rw [hq, hrow] at hc
    injection hc with hc
    injection hc with _ hc
    exact hc.symm
  refine ⟨⟨Z, Below.trans h0 (hO.below (fun q hq => by rw [hq]; exact hge) h0.size), h1.keep hO (fun q hq => by rw [hq]; exact hge) (fun hB => ?_) (fun hB => ?_) (fun q hq r hc => ?_), hR, h3.offT hO (fun q hq => by rw [hq]; exact hge) (fun q hq c t hc ha => (any_not ha).2 (hty q hq c t hc)), fun k hk => ⟨Nat.lt_of_lt_of_le (h4 k hk).1 hO.size, (h4 k hk).2⟩⟩, hO.mono fun q hq => ?_⟩
  · have := hty st hB _ _ b6
    revert this
    decide
  · have hB : mb = rst := hB
    rw [hB, hrow] at b7; cases b7
  · have := hty q hq _ _ hc
    revert this
    decide
  · rw [hq]
    exact ⟨hge, .inr ⟨_, _, hrow, .inr (.inl rfl)⟩⟩
/-- A list is kept. -/
theorem PlayM.kept {x : Value} (h : PlayM K w0 st mb rst g n ms mr w) {Z : Nat → Prop} (hZ : BkZ w0.heap.size g n w Z) (hK : ∀ k, K k → ¬ Z k) {e : Ending} (hE : BkZE w0.heap.size g (n + 1) x Z w e w') (hx : ∀ k, K k → x.ownBlock ≠ some k) : e = .returned (.tuple #[]) ∧ PlayM K w0 st mb rst g (n + 1) ms mr w' ∧ OffB (mutB w0 w) w w' := by
  obtain ⟨_, h0, h1, h2, _, h4⟩ := h
  obtain ⟨he, hb, hO, Z', hB, hZ'⟩ := hE
  obtain ⟨b1, b2, b3, b4, b5, b6, es, cl, b7⟩ := h1.at
  have hty : ∀ q, (Z q ∧ bkTyp w q) → ∀ c t, w.heap[q]? = some (.cells c t (0, 0)) → bkOwn t := fun q hq c t hc => by
    obtain ⟨_, c', t', hc', ht'⟩ := hq
    rw [hc'] at hc
    injection hc with hc
    injection hc with _ hc
    rw [← hc]; exact ht'
  refine ⟨he, ⟨Z', Below.trans h0 hb, h1.keep hO (fun q hq => hZ.ge hq.1) (fun hq => ?_) (fun hq => ?_) (fun q hq r hc => ?_), h2.offT hO (fun q hq c t hc hr => (ref_not hr).2 (hty q hq c t hc)), hB, fun k hk => ⟨Nat.lt_of_lt_of_le (h4 k hk).1 hO.size, fun hz => ?_⟩⟩, hO.mono fun q hq => ?_⟩
  · exact (own_not (hty st hq _ _ b6)).1 rfl
  · obtain ⟨_, c', t', hc', _⟩ := hq
    rw [b7] at hc'; cases hc'
  · exact (own_not (hty q hq _ _ hc)).2.2.1 rfl
  · rcases hZ' k hz with hz | hz | hz
    · exact hK k hk hz
    · exact hx k hk hz
    · have := (h4 k hk).1; omega
  · obtain ⟨hz, c', t', hc', ht'⟩ := hq
    exact ⟨hZ.ge hz, .inr ⟨c', t', hc', .inr (.inr ht')⟩⟩
/-- A list that is not the book's is kept; the blocks K' are still not the book's. -/
theorem pm_row {K' : Nat → Prop} (h : PlayM K w0 st mb rst g n ms mr w) (hKK : ∀ k, K' k → K k) (hn : n < 900000) (a : Option Addr) (len cap : Nat) (xs : List Value) (hx : OwnC w w0.heap.size 84 2 (.slice a len cap) len xs) (hl : len ≤ 1000000) (hK : ∀ q, (Value.slice a len cap).ownBlock = some q → K q) (hKn : ∀ q, K' q → (Value.slice a len cap).ownBlock ≠ some q) : Calls Tryz.prog 51 #[.pointer (some ⟨g, 0, none⟩), .slice a len cap] w fun e w' => e = .returned (.tuple #[]) ∧ PlayM K' w0 st mb rst g (n + 1) ms mr w' ∧ OffB (mutB w0 w) w w' := by
  obtain ⟨Z, h0, h1, h2, h3, h4⟩ := h
  exact (keepzRow_any h3 hn a len cap xs hx hl (fun q hq => (h4 q (hK q hq)).2)).mono fun e w' hE => PlayM.kept (K := K') ⟨Z, h0, h1, h2, h3, fun k hk => h4 k (hKK k hk)⟩ h3 (fun k hk => (h4 k (hKK k hk)).2) hE (fun k hk => hKn k hk)
theorem pm_ch {K' : Nat → Prop} (h : PlayM K w0 st mb rst g n ms mr w) (hKK : ∀ k, K' k → K k) (hn : n < 900000) (a : Option Addr) (len cap : Nat) (xs : List Value) (hx : OwnC w w0.heap.size 102 3 (.slice a len cap) len xs) (hl : len ≤ 1000000) (hK : ∀ q, (Value.slice a len cap).ownBlock = some q → K q) (hKn : ∀ q, K' q → (Value.slice a len cap).ownBlock ≠ some q) : Calls Tryz.prog 102 #[.pointer (some ⟨g, 0, none⟩), .slice a len cap] w fun e w' => e = .returned (.tuple #[]) ∧ PlayM K' w0 st mb rst g (n + 1) ms mr w' ∧ OffB (mutB w0 w) w w' := by
  obtain ⟨Z, h0, h1, h2, h3, h4⟩ := h
  exact (keepzChange_any h3 hn a len cap xs hx hl (fun q hq => (h4 q (hK q hq)).2)).mono fun e w' hE => PlayM.kept (K := K') ⟨Z, h0, h1, h2, h3, fun k hk => h4 k (hKK k hk)⟩ h3 (fun k hk => (h4 k (hKK k hk)).2) hE (fun k hk => hKn k hk)
theorem pm_said {K' : Nat → Prop} (h : PlayM K w0 st mb rst g n ms mr w) (hKK : ∀ k, K' k → K k) (hn : n < 900000) (a : Option Addr) (len cap : Nat) (xs : List Value) (hx : OwnC w w0.heap.size 87 5 (.slice a len cap) len xs) (hl : len ≤ 1000000) (hK : ∀ q, (Value.slice a len cap).ownBlock = some q → K q) (hKn : ∀ q, K' q → (Value.slice a len cap).ownBlock ≠ some q) : Calls Tryz.prog 53 #[.pointer (some ⟨g, 0, none⟩), .slice a len cap] w fun e w' => e = .returned (.tuple #[]) ∧ PlayM K' w0 st mb rst g (n + 1) ms mr w' ∧ OffB (mutB w0 w) w w' := by
  obtain ⟨Z, h0, h1, h2, h3, h4⟩ := h
  exact (keepzSaid_any h3 hn a len cap xs hx hl (fun q hq => (h4 q (hK q hq)).2)).mono fun e w' hE => PlayM.kept (K := K') ⟨Z, h0, h1, h2, h3, fun k hk => h4 k (hKK k hk)⟩ h3 (fun k hk => (h4 k (hKK k hk)).2) hE (fun k hk => hKn k hk)
theorem pm_apart (h : PlayM K w0 st mb rst g n ms mr w) (hn : n < numTop) : Calls Tryz.prog 21 #[.pointer (some ⟨g, 0, none⟩)] w fun e w' => e = .returned (.bool true) ∧ Ext w0 w' := by
  obtain ⟨Z, h0, h1, h2, h3, h4⟩ := h
  refine (bookzA_any h3 hn).mono ?_
  rintro e w' ⟨he, hb⟩
  exact ⟨he, Below.trans h0 hb⟩
end
end Go.Proofs.YthageoibkeebhaaGreatDoor
