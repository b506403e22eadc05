/- Several texts in one: Pn2 SmN Mp0. No condition. -/
import Derived.Test.YthageoibkeebhaaGreatDoorPn0
import Derived.Test.YthageoibkeebhaaGreatDoorRn9b
import Derived.Test.YthageoibkeebhaaGreatDoorGrS
import Derived.Test.YthageoibkeebhaaGreatDoorRn4
import Derived.Test.YthageoibkeebhaaGreatDoorGrP
import Derived.Test.YthageoibkeebhaaGreatDoorRn9c
import Derived.Test.YthageoibkeebhaaGreatDoorGrTw
import Derived.Test.YthageoibkeebhaaGreatDoorGrL
import Derived.Test.YthageoibkeebhaaGreatDoorGrZa
import Derived.Test.YthageoibkeebhaaGreatDoorRn5
/- A state, the document's state and a book side by side, the document's state told without where its lists lie. (Printed by mkpn2.py.) No condition. -/
namespace Go.Proofs.YthageoibkeebhaaGreatDoor
open Go.RowKit
set_option maxRecDepth 100000
set_option maxHeartbeats 4000000
/-- The three: the state holds ms, the document's mr; the blocks K are not the book's. -/
def PlayN (K : Nat → Prop) (w0 : World) (st mb rst g n : Nat) (ms mr : Md) (w : World) : Prop := ∃ Z, Ext w0 w ∧ StM w0 w st mb ms ∧ RefX w0.heap.size w rst mr.rows ((saidL mr.sd).map toSa) ∧ BkZ w0.heap.size g n w Z ∧ ∀ k, K k → k < w.heap.size ∧ ¬ Z k
section
variable {K : Nat → Prop} {w0 w w' : World} {st mb rst g n : Nat} {ms mr : Md}
theorem PlayN.grown (h : PlayN K w0 st mb rst g n ms mr w) : Ext w0 w := by obtain ⟨Z, h0, _⟩ := h; exact h0
theorem PlayN.ext (h : PlayN K w0 st mb rst g n ms mr w) (hE : Ext w w') : PlayN K w0 st mb rst g n ms mr w' := by
  obtain ⟨Z, h0, h1, h2, h3, h4⟩ := h
  exact ⟨Z, h0.trans hE, h1.ext hE, h2.ext hE, h3.ext hE, fun k hk => ⟨Nat.lt_of_lt_of_le (h4 k hk).1 hE.size, (h4 k hk).2⟩⟩
theorem PlayN.loose (h : PlayN K w0 st mb rst g n ms mr w) : PlayN (fun _ => False) w0 st mb rst g n ms mr w := by
  obtain ⟨Z, h0, h1, h2, h3, h4⟩ := h
  exact ⟨Z, h0, h1, h2, h3, fun k hk => hk.elim⟩
/-- Blocks that came later are not the book's. -/
theorem PlayN.hold {K' : Nat → Prop} (h : PlayN K w0 st mb rst g n ms mr w) (hE : Ext w w') (hK : ∀ k, K' k → w.heap.size ≤ k ∧ k < w'.heap.size) : PlayN K' w0 st mb rst g n ms mr w' := by
  obtain ⟨Z, h0, h1, h2, h3, h4⟩ := h
  exact ⟨Z, h0.trans hE, h1.ext hE, h2.ext hE, h3.ext hE, fun k hk => ⟨(hK k hk).2, fun hz => by have := h3.lt hz; have := (hK k hk).1; omega⟩⟩
/-- A state is turned: its two blocks alone. -/
theorem PlayN.doS {ms' : Md} (h : PlayN K w0 st mb rst g n ms mr w) (hS : StM w0 w' st mb ms') (hO : OffB (fun i => i = st ∨ i = mb) w w') : PlayN K w0 st mb rst g n ms' mr w' ∧ OffB (mutB w0 w) w w' := by
  obtain ⟨Z, h0, h1, h2, h3, h4⟩ := h
  obtain ⟨b1, b2, b3, b4, b5, b6, es, cl, b7⟩ := h1.at
  have hty : ∀ q, (q = st ∨ q = mb) → ∀ c t, w.heap[q]? = some (.cells c t (0, 0)) → t = 96 := fun q hq c t hc => by
    rcases hq with rfl | rfl
    · rw [b6] at hc
      injection hc with hc
      injection hc with _ hc
      exact hc.symm
    · rw [b7] at hc; cases hc
  refine ⟨⟨Z, Below.trans h0 (hO.below (fun q hq => by rcases hq with rfl | rfl <;> assumption) h0.size), hS, refx_off h2 hO (fun q hq c t hc hr => (ref_not hr).1 (hty q hq c t hc)), h3.offT hO (fun q hq => by rcases hq with rfl | rfl <;> assumption) (fun q hq c t hc ha => (any_not ha).1 (hty q hq c t hc)), fun k hk => ⟨Nat.lt_of_lt_of_le (h4 k hk).1 hO.size, (h4 k hk).2⟩⟩, hO.mono fun q hq => ?_⟩
  rcases hq with rfl | rfl
  · exact ⟨b1, .inr ⟨_, _, b6, .inl rfl⟩⟩
  · exact ⟨b2, .inl ⟨es, cl, b7⟩⟩
/-- A state is turned: its two blocks alone. -/
theorem PlayN.doS2 {K' : Nat → Prop} {ms' : Md} (h : PlayN K w0 st mb rst g n ms mr w) (hS : StM w0 w' st mb ms') (hO : OffB (fun i => i = st ∨ i = mb) w w') (hK : ∀ k, K' k → K k ∨ w.heap.size ≤ k ∧ k < w'.heap.size) : PlayN K' w0 st mb rst g n ms' mr w' ∧ OffB (mutB w0 w) w w' := by
  obtain ⟨Z, h0, h1, h2, h3, h4⟩ := h
  obtain ⟨b1, b2, b3, b4, b5, b6, es, cl, b7⟩ := h1.at
  have hty : ∀ q, (q = st ∨ q = mb) → ∀ c t, w.heap[q]? = some (.cells c t (0, 0)) → t = 96 := fun q hq c t hc => by
    rcases hq with rfl | rfl
    · rw [b6] at hc
      injection hc with hc
      injection hc with _ hc
      exact hc.symm
    · rw [b7] at hc; cases hc
  refine ⟨⟨Z, Below.trans h0 (hO.below (fun q hq => by rcases hq with rfl | rfl <;> assumption) h0.size), hS, refx_off h2 hO (fun q hq c t hc hr => (ref_not hr).1 (hty q hq c t hc)), h3.offT hO (fun q hq => by rcases hq with rfl | rfl <;> assumption) (fun q hq c t hc ha => (any_not ha).1 (hty q hq c t hc)), fun k hk => by
    rcases hK k hk with hk | ⟨hk, hk2⟩
    · exact ⟨Nat.lt_of_lt_of_le (h4 k hk).1 hO.size, (h4 k hk).2⟩
    · exact ⟨hk2, fun hz => by have := h3.lt hz; omega⟩⟩, hO.mono fun q hq => ?_⟩
  rcases hq with rfl | rfl
  · exact ⟨b1, .inr ⟨_, _, b6, .inl rfl⟩⟩
  · exact ⟨b2, .inl ⟨es, cl, b7⟩⟩
/-- The document's state is turned: its one block alone. -/
theorem PlayN.doR {mr' : Md} (h : PlayN K w0 st mb rst g n ms mr w) (hR : RefX w0.heap.size w' rst mr'.rows ((saidL mr'.sd).map toSa)) (hO : OffB (fun i => i = rst) w w') : PlayN K w0 st mb rst g n ms mr' w' ∧ OffB (mutB w0 w) w w' := by
  obtain ⟨Z, h0, h1, h2, h3, h4⟩ := h
  obtain ⟨b1, b2, b3, b4, b5, b6, es, cl, b7⟩ := h1.at
  have hge := h2.at.1
  obtain ⟨_, ⟨ra, rc, sa, sc, hrow, _⟩, _⟩ := h2
  have hty : ∀ q, q = rst → ∀ c t, w.heap[q]? = some (.cells c t (0, 0)) → t = 112 := fun q hq c t hc => by
    rw [hq, hrow] at hc
    injection hc with hc
    injection hc with _ hc
    exact hc.symm
  refine ⟨⟨Z, Below.trans h0 (hO.below (fun q hq => by rw [hq]; exact hge) h0.size), h1.keep hO (fun q hq => by rw [hq]; exact hge) (fun hB => ?_) (fun hB => ?_) (fun q hq r hc => ?_), hR, h3.offT hO (fun q hq => by rw [hq]; exact hge) (fun q hq c t hc ha => (any_not ha).2 (hty q hq c t hc)), fun k hk => ⟨Nat.lt_of_lt_of_le (h4 k hk).1 hO.size, (h4 k hk).2⟩⟩, hO.mono fun q hq => ?_⟩
  · have := hty st hB _ _ b6
    revert this
    decide
  · have hB : mb = rst := hB
    rw [hB, hrow] at b7; cases b7
  · have := hty q hq _ _ hc
    revert this
    decide
  · rw [hq]
    exact ⟨hge, .inr ⟨_, _, hrow, .inr (.inl rfl)⟩⟩
/-- A list is kept. -/
theorem PlayN.kept {x : Value} (h : PlayN K w0 st mb rst g n ms mr w) {Z : Nat → Prop} (hZ : BkZ w0.heap.size g n w Z) (hK : ∀ k, K k → ¬ Z k) {e : Ending} (hE : BkZE w0.heap.size g (n + 1) x Z w e w') (hx : ∀ k, K k → x.ownBlock ≠ some k) : e = .returned (.tuple #[]) ∧ PlayN K w0 st mb rst g (n + 1) ms mr w' ∧ OffB (mutB w0 w) w w' := by
  obtain ⟨_, h0, h1, h2, _, h4⟩ := h
  obtain ⟨he, hb, hO, Z', hB, hZ'⟩ := hE
  obtain ⟨b1, b2, b3, b4, b5, b6, es, cl, b7⟩ := h1.at
  have hty : ∀ q, (Z q ∧ bkTyp w q) → ∀ c t, w.heap[q]? = some (.cells c t (0, 0)) → bkOwn t := fun q hq c t hc => by
    obtain ⟨_, c', t', hc', ht'⟩ := hq
    rw [hc'] at hc
    injection hc with hc
    injection hc with _ hc
    rw [← hc]; exact ht'
  refine ⟨he, ⟨Z', Below.trans h0 hb, h1.keep hO (fun q hq => hZ.ge hq.1) (fun hq => ?_) (fun hq => ?_) (fun q hq r hc => ?_), refx_off h2 hO (fun q hq c t hc hr => (ref_not hr).2 (hty q hq c t hc)), hB, fun k hk => ⟨Nat.lt_of_lt_of_le (h4 k hk).1 hO.size, fun hz => ?_⟩⟩, hO.mono fun q hq => ?_⟩
  · exact (own_not (hty st hq _ _ b6)).1 rfl
  · obtain ⟨_, c', t', hc', _⟩ := hq
    rw [b7] at hc'; cases hc'
  · exact (own_not (hty q hq _ _ hc)).2.2.1 rfl
  · rcases hZ' k hz with hz | hz | hz
    · exact hK k hk hz
    · exact hx k hk hz
    · have := (h4 k hk).1; omega
  · obtain ⟨hz, c', t', hc', ht'⟩ := hq
    exact ⟨hZ.ge hz, .inr ⟨c', t', hc', .inr (.inr ht')⟩⟩
/-- A list that is not the book's is kept; the blocks K' are still not the book's. -/
theorem pn_row {K' : Nat → Prop} (h : PlayN K w0 st mb rst g n ms mr w) (hKK : ∀ k, K' k → K k) (hn : n < 900000) (a : Option Addr) (len cap : Nat) (xs : List Value) (hx : OwnC w w0.heap.size 84 2 (.slice a len cap) len xs) (hl : len ≤ 1000000) (hK : ∀ q, (Value.slice a len cap).ownBlock = some q → K q) (hKn : ∀ q, K' q → (Value.slice a len cap).ownBlock ≠ some q) : Calls Tryz.prog 51 #[.pointer (some ⟨g, 0, none⟩), .slice a len cap] w fun e w' => e = .returned (.tuple #[]) ∧ PlayN K' w0 st mb rst g (n + 1) ms mr w' ∧ OffB (mutB w0 w) w w' := by
  obtain ⟨Z, h0, h1, h2, h3, h4⟩ := h
  exact (keepzRow_any h3 hn a len cap xs hx hl (fun q hq => (h4 q (hK q hq)).2)).mono fun e w' hE => PlayN.kept (K := K') ⟨Z, h0, h1, h2, h3, fun k hk => h4 k (hKK k hk)⟩ h3 (fun k hk => (h4 k (hKK k hk)).2) hE (fun k hk => hKn k hk)
theorem pn_ch {K' : Nat → Prop} (h : PlayN K w0 st mb rst g n ms mr w) (hKK : ∀ k, K' k → K k) (hn : n < 900000) (a : Option Addr) (len cap : Nat) (xs : List Value) (hx : OwnC w w0.heap.size 102 3 (.slice a len cap) len xs) (hl : len ≤ 1000000) (hK : ∀ q, (Value.slice a len cap).ownBlock = some q → K q) (hKn : ∀ q, K' q → (Value.slice a len cap).ownBlock ≠ some q) : Calls Tryz.prog 102 #[.pointer (some ⟨g, 0, none⟩), .slice a len cap] w fun e w' => e = .returned (.tuple #[]) ∧ PlayN K' w0 st mb rst g (n + 1) ms mr w' ∧ OffB (mutB w0 w) w w' := by
  obtain ⟨Z, h0, h1, h2, h3, h4⟩ := h
  exact (keepzChange_any h3 hn a len cap xs hx hl (fun q hq => (h4 q (hK q hq)).2)).mono fun e w' hE => PlayN.kept (K := K') ⟨Z, h0, h1, h2, h3, fun k hk => h4 k (hKK k hk)⟩ h3 (fun k hk => (h4 k (hKK k hk)).2) hE (fun k hk => hKn k hk)
theorem pn_said {K' : Nat → Prop} (h : PlayN K w0 st mb rst g n ms mr w) (hKK : ∀ k, K' k → K k) (hn : n < 900000) (a : Option Addr) (len cap : Nat) (xs : List Value) (hx : OwnC w w0.heap.size 87 5 (.slice a len cap) len xs) (hl : len ≤ 1000000) (hK : ∀ q, (Value.slice a len cap).ownBlock = some q → K q) (hKn : ∀ q, K' q → (Value.slice a len cap).ownBlock ≠ some q) : Calls Tryz.prog 53 #[.pointer (some ⟨g, 0, none⟩), .slice a len cap] w fun e w' => e = .returned (.tuple #[]) ∧ PlayN K' w0 st mb rst g (n + 1) ms mr w' ∧ OffB (mutB w0 w) w w' := by
  obtain ⟨Z, h0, h1, h2, h3, h4⟩ := h
  exact (keepzSaid_any h3 hn a len cap xs hx hl (fun q hq => (h4 q (hK q hq)).2)).mono fun e w' hE => PlayN.kept (K := K') ⟨Z, h0, h1, h2, h3, fun k hk => h4 k (hKK k hk)⟩ h3 (fun k hk => (h4 k (hKK k hk)).2) hE (fun k hk => hKn k hk)
theorem pn_apart (h : PlayN K w0 st mb rst g n ms mr w) (hn : n < numTop) : Calls Tryz.prog 21 #[.pointer (some ⟨g, 0, none⟩)] w fun e w' => e = .returned (.bool true) ∧ Ext w0 w' := by
  obtain ⟨Z, h0, h1, h2, h3, h4⟩ := h
  refine (bookzA_any h3 hn).mono ?_
  rintro e w' ⟨he, hb⟩
  exact ⟨he, Below.trans h0 hb⟩
/-- Blocks that came later are not the book's either. -/
theorem PlayN.more {K' : Nat → Prop} (h : PlayN K w0 st mb rst g n ms mr w) (hE : Ext w w') (hK : ∀ k, K' k → K k ∨ w.heap.size ≤ k ∧ k < w'.heap.size) : PlayN K' w0 st mb rst g n ms mr w' := by
  obtain ⟨Z, h0, h1, h2, h3, h4⟩ := h
  refine ⟨Z, h0.trans hE, h1.ext hE, h2.ext hE, h3.ext hE, fun k hk => ?_⟩
  rcases hK k hk with hk | ⟨hk, hk2⟩
  · exact ⟨Nat.lt_of_lt_of_le (h4 k hk).1 hE.size, (h4 k hk).2⟩
  · exact ⟨hk2, fun hz => by have := h3.lt hz; omega⟩
theorem PlayN.less {K' : Nat → Prop} (h : PlayN K w0 st mb rst g n ms mr w) (hK : ∀ k, K' k → K k) : PlayN K' w0 st mb rst g n ms mr w := by
  obtain ⟨Z, h0, h1, h2, h3, h4⟩ := h
  exact ⟨Z, h0, h1, h2, h3, fun k hk => h4 k (hK k hk)⟩
theorem PlayN.states (h : PlayN K w0 st mb rst g n ms mr w) : StM w0 w st mb ms ∧ RefX w0.heap.size w rst mr.rows ((saidL mr.sd).map toSa) := by
  obtain ⟨Z, h0, h1, h2, h3, h4⟩ := h
  exact ⟨h1, h2⟩
/-- Other states in place of these. -/
theorem PlayN.swap {st' mb' rst' : Nat} {ms' mr' : Md} (h : PlayN K w0 st mb rst g n ms mr w) (h1 : StM w0 w st' mb' ms') (h2 : RefX w0.heap.size w rst' mr'.rows ((saidL mr'.sd).map toSa)) : PlayN K w0 st' mb' rst' g n ms' mr' w := by
  obtain ⟨Z, h0, _, _, h3, h4⟩ := h
  exact ⟨Z, h0, h1, h2, h3, h4⟩
/-- What keeping a list brings. -/
def KeptN (K' : Nat → Prop) (w0 : World) (st mb rst g n : Nat) (ms mr : Md) (w : World) (e : Ending) (w' : World) : Prop := e = .returned (.tuple #[]) ∧ PlayN K' w0 st mb rst g n ms mr w' ∧ OffB (mutB w0 w) w w'
theorem mutB_trans {w1 w2 : World} (h1 : OffB (mutB w0 w) w w1) (h2 : OffB (mutB w0 w1) w1 w2) : OffB (mutB w0 w) w w2 :=
  ⟨h2.os.trans h1.os, h2.tape.trans h1.tape, h2.output.trans h1.output, Nat.le_trans h1.size h2.size, fun i hi hb => by
    have e1 := h1.block i hi hb
    rw [← e1]
    refine h2.block i (Nat.lt_of_lt_of_le hi h1.size) (fun hB => hb ?_)
    obtain ⟨hq, hB⟩ := hB
    rw [e1] at hB
    exact ⟨hq, hB⟩⟩
theorem mutB_ext {w1 w2 : World} (h1 : Ext w w1) (h2 : OffB (mutB w0 w1) w1 w2) : OffB (mutB w0 w) w w2 := mutB_trans (.of_ext h1) h2
theorem bn_row {K' : Nat → Prop} (h : PlayN K w0 st mb rst g n ms mr w) (hKK : ∀ k, K' k → K k) (hn : n < 900000) (a : Option Addr) (len cap : Nat) (xs : List Value) (hx : OwnC w w0.heap.size 84 2 (.slice a len cap) len xs) (hl : len ≤ 1000000) (hK : ∀ q, (Value.slice a len cap).ownBlock = some q → K q) (hKn : ∀ q, K' q → (Value.slice a len cap).ownBlock ≠ some q) : Calls Tryz.prog 13 #[.pointer (some ⟨g, 0, none⟩), .slice a len cap] w (KeptN K' w0 st mb rst g (n + 1) ms mr w) := by
  obtain ⟨Z, h0, h1, h2, h3, h4⟩ := h
  exact (bookzRow_any h3 hn a len cap xs hx hl (fun q hq => (h4 q (hK q hq)).2)).mono fun e w' hE => PlayN.kept (K := K') ⟨Z, h0, h1, h2, h3, fun k hk => h4 k (hKK k hk)⟩ h3 (fun k hk => (h4 k (hKK k hk)).2) hE (fun k hk => hKn k hk)
theorem bn_chs {K' : Nat → Prop} (h : PlayN K w0 st mb rst g n ms mr w) (hKK : ∀ k, K' k → K k) (hn : n < 900000) (a : Option Addr) (len cap : Nat) (xs : List Value) (hx : OwnC w w0.heap.size 102 3 (.slice a len cap) len xs) (hl : len ≤ 1000000) (hK : ∀ q, (Value.slice a len cap).ownBlock = some q → K q) (hKn : ∀ q, K' q → (Value.slice a len cap).ownBlock ≠ some q) : Calls Tryz.prog 29 #[.pointer (some ⟨g, 0, none⟩), .slice a len cap] w (KeptN K' w0 st mb rst g (n + 1) ms mr w) := by
  obtain ⟨Z, h0, h1, h2, h3, h4⟩ := h
  exact (bookzChange_any h3 hn a len cap xs hx hl (fun q hq => (h4 q (hK q hq)).2)).mono fun e w' hE => PlayN.kept (K := K') ⟨Z, h0, h1, h2, h3, fun k hk => h4 k (hKK k hk)⟩ h3 (fun k hk => (h4 k (hKK k hk)).2) hE (fun k hk => hKn k hk)
theorem bn_reply {K' : Nat → Prop} (h : PlayN K w0 st mb rst g n ms mr w) (hKK : ∀ k, K' k → K k) (hn : n < 900000) (i : Int) (b : Bool) (a : Option Addr) (len cap : Nat) (xs : List Value) (hx : OwnC w w0.heap.size 84 2 (.slice a len cap) len xs) (hl : len ≤ 1000000) (hK : ∀ q, (Value.slice a len cap).ownBlock = some q → K q) (hKn : ∀ q, K' q → (Value.slice a len cap).ownBlock ≠ some q) : Calls Tryz.prog 33 #[.pointer (some ⟨g, 0, none⟩), .agg #[.int .i64 i, .bool b, .slice a len cap]] w (KeptN K' w0 st mb rst g (n + 1) ms mr w) := by
  obtain ⟨V, hV⟩ : ∃ W, W = w.alloc (.cells (reH i b (.slice a len cap)) 74) := ⟨_, rfl⟩
  have hE0 : Ext w V := by rw [hV]; exact (Ext.refl _).alloc _
  have h1 : V.heap[w.heap.size]? = some (.cells (reH i b (.slice a len cap)) 74 (0, 0)) := by rw [hV]; exact heap_alloc_new w _
  obtain ⟨x0, x1, x2⟩ := re_cells h1
  have hcall := Lib.hid (bn_row (h.ext hE0) hKK hn a len cap xs (hx.ext hE0) hl hK hKn)
  have hV' := Lib.hid hV
  clear h hV h1 hx hK hKn hKK
  unfold reH at hV'
  go_enter Tryz.func33, Tryz.ntmps33
  go_upto_region 1 with fail
  rw [← hV'.out]
  go_wp2_with fail
  refine hcall.out.mono ?_
  rintro e w2 ⟨rfl, hP2, hO2⟩
  have hP2' := Lib.hid hP2
  have hO2' := Lib.hid hO2
  clear hP2 hO2 hcall
  go_wp2_with fail
  go_end0
  exact ⟨rfl, hP2'.out, mutB_ext hE0 hO2'.out⟩
theorem bn_ask {K' : Nat → Prop} (h : PlayN K w0 st mb rst g n ms mr w) (hKK : ∀ k, K' k → K k) (hn : n < 900000) (x : Ak) (a : Option Addr) (len cap : Nat) (xs : List Value) (hx : OwnC w w0.heap.size 102 3 (.slice a len cap) len xs) (hl : len ≤ 1000000) (hK : ∀ q, (Value.slice a len cap).ownBlock = some q → K q) (hKn : ∀ q, K' q → (Value.slice a len cap).ownBlock ≠ some q) : Calls Tryz.prog 38 #[.pointer (some ⟨g, 0, none⟩), .agg (x.row (.slice a len cap))] w (KeptN K' w0 st mb rst g (n + 1) ms mr w) := by
  obtain ⟨V, hV⟩ : ∃ W, W = w.alloc (.cells (x.row (.slice a len cap)) 66) := ⟨_, rfl⟩
  have hE0 : Ext w V := by rw [hV]; exact (Ext.refl _).alloc _
  have h1 : V.heap[w.heap.size]? = some (.cells (x.row (.slice a len cap)) 66 (0, 0)) := by rw [hV]; exact heap_alloc_new w _
  obtain ⟨x0, x1, x2, x3, x4, x5, x6, x7⟩ := askc h1
  have hcall := Lib.hid (bn_chs (h.ext hE0) hKK hn a len cap xs (hx.ext hE0) hl hK hKn)
  have hV' := Lib.hid hV
  clear h hV h1 hx hK hKn hKK
  unfold Ak.row at hV' ⊢
  go_enter Tryz.func38, Tryz.ntmps38
  go_upto_region 1 with fail
  rw [← hV'.out]
  go_wp2_with fail
  refine hcall.out.mono ?_
  rintro e w2 ⟨rfl, hP2, hO2⟩
  have hP2' := Lib.hid hP2
  have hO2' := Lib.hid hO2
  clear hP2 hO2 hcall
  go_wp2_with fail
  go_end0
  exact ⟨rfl, hP2'.out, mutB_ext hE0 hO2'.out⟩
end
end Go.Proofs.YthageoibkeebhaaGreatDoor

/- A state tells what the document's tells: same, Rows, Said. No condition. -/
namespace Go.Proofs.YthageoibkeebhaaGreatDoor
open Go.RowKit
set_option maxRecDepth 100000
set_option maxHeartbeats 4000000
theorem stm_rows {w0 w : World} {st mb : Nat} {m : Md} (hS : StM w0 w st mb m) (hsm : smallR m.rows) (hl : m.rows.length ≤ 50000) : Calls Tryz.prog 15 #[.pointer (some ⟨st, 0, none⟩)] w (RowsO m.rows w) := by
  obtain ⟨rs, hX, he, _⟩ := hS
  have h1 : rs.length = m.rows.length := by rw [← he, List.length_map]
  refine (st_rows hX (by omega) (fun p hp => ?_)).mono ?_
  · have := keyB_size (hsm p.1 (by rw [← he]; exact List.mem_map_of_mem hp)).1
    omega
  · rintro e w' ⟨a, cap, hr, _, ho, hE⟩
    rw [he] at hr ho
    exact ⟨a, cap, hr, OwnC.of_own ho, hE⟩
theorem stm_said {w0 w : World} {st mb : Nat} {m : Md} (hS : StM w0 w st mb m) : Calls Tryz.prog 16 #[.pointer (some ⟨st, 0, none⟩)] w fun e w' => ∃ a cap, e = .returned (.slice a (saidL m.sd).length cap) ∧ OwnC w' w.heap.size 87 5 (.slice a (saidL m.sd).length cap) (saidL m.sd).length ((saidL m.sd).flatMap sdc) ∧ Ext w w' := by
  refine (st_said hS).mono ?_
  rintro e w' ⟨a, cap, hr, ho, hE⟩
  exact ⟨a, cap, hr, OwnC.of_own ho, hE⟩
theorem toSa_at (w : World) (l : List (Sv × Nat)) : SaAt w (l.map toSa) := fun p hp => by
  obtain ⟨y, _, rfl⟩ := List.mem_map.1 hp
  exact ⟨none, 0, rfl, RowIs.nil _ _ _ _ (fun _ => rfl)⟩
theorem saOwn_at {w : World} {base : Nat} {sd : List Sa} (h : SaOwn w base sd) : SaAt w sd := fun p hp => by
  have h1 := h p hp
  obtain ⟨a, c, hv, _⟩ := h1.form
  rw [hv] at h1
  exact ⟨a, c, hv, h1.row⟩
theorem bare_rows {sd : List Sa} {l : List (Sv × Nat)} (h : sd.map Sa.bare = l.map toSa) : ∀ p ∈ sd, p.rows = [] := fun p hp => by
  have h1 : p.bare ∈ l.map toSa := by rw [← h]; exact List.mem_map_of_mem hp
  obtain ⟨y, _, hy⟩ := List.mem_map.1 h1
  have h2 := congrArg Sa.rows hy
  exact h2.symm
theorem refx_rows {base rst : Nat} {w : World} {rows : List Rw} {sq : List Sa} (h : RefX base w rst rows sq) (hl : rows.length ≤ 1000000) : ∀ W, Ext w W → Calls Tryz.prog 18 #[.pointer (some ⟨rst, 0, none⟩)] W (RowsO rows W) := fun W hE => by
  obtain ⟨sd, h, _⟩ := h
  exact rowsR_any (h.ext hE) hl
theorem refx_saids {base rst : Nat} {w : World} {m : Md} (h : RefX base w rst m.rows ((saidL m.sd).map toSa)) (hlen : m.sd.length = 9) : ∀ W, Ext w W → Calls Tryz.prog 20 #[.pointer (some ⟨rst, 0, none⟩)] W (SaidsX ((saidL m.sd).map toSa) W) := fun W hE => by
  obtain ⟨sd, h, hb⟩ := h
  have h1 := congrArg List.length hb
  rw [List.length_map, List.length_map] at h1
  have h2 := saidL_len m.sd
  have h3 := saidsR_any (h.ext hE) (by omega) (fun p hp => by rw [bare_rows hb p hp]; simp)
  rw [hb] at h3
  exact h3
theorem same_any {w0 w : World} {st mb rst base : Nat} {m : Md} (hS : StM w0 w st mb m) (hR : RefX base w rst m.rows ((saidL m.sd).map toSa)) (hsm : smallR m.rows) (hl : m.rows.length ≤ 50000) : Calls Tryz.prog 36 #[.pointer (some ⟨st, 0, none⟩), .pointer (some ⟨rst, 0, none⟩)] w fun e w' => e = .returned (.bool true) ∧ Ext w w' := by
  have hlen := hS.len
  have c1 : Hid (∀ W, Ext w W → Calls Tryz.prog 15 #[.pointer (some ⟨st, 0, none⟩)] W (RowsO m.rows W)) := Lib.hid (fun W hE => stm_rows (hS.ext hE) hsm hl)
  have c2 := Lib.hid (refx_rows hR (by omega))
  have c3 := Lib.hid (fun W (hE : Ext w W) => stm_said (hS.ext hE))
  have c4 := Lib.hid (refx_saids hR hlen)
  have hlm : ((saidL m.sd).map toSa).length = (saidL m.sd).length := by rw [List.length_map]
  have hl9 := saidL_len m.sd
  obtain ⟨N, hN⟩ : ∃ N, N = m.rows.length := ⟨_, rfl⟩
  obtain ⟨M, hM⟩ : ∃ M, M = (saidL m.sd).length := ⟨_, rfl⟩
  have hN' := Lib.hid hN
  have hM' := Lib.hid hM
  have hlm' := Lib.hid hlm
  rw [← hM] at hl9
  clear hS hR hN hM hlm hsm
  go_enter Tryz.func36, Tryz.ntmps36
  go_wp2_with fail
  refine (c1.out w (Ext.refl _)).mono ?_
  rintro e w1 ⟨a1, k1, rfl, ho1, hE1⟩
  have ho1' := Lib.hid ho1
  rw [← hN'.out] at ho1' ⊢
  clear ho1
  go_wp2_with fail
  refine (c2.out w1 hE1).mono ?_
  rintro e w2 ⟨a2, k2, rfl, ho2, hE2⟩
  have ho2' := Lib.hid ho2
  have hX2 := hE1.trans hE2
  have hsr := Lib.hid (srows_any w2 m.rows m.rows a1 a2 k1 k2 (by rw [← hN'.out]; exact (ho1'.out.ext hE2).row) ho2.row)
  rw [decide_eq_true rfl, ← hN'.out] at hsr
  rw [← hN'.out]
  clear ho2 ho2' ho1'
  go_wp2_with fail
  refine hsr.out.mono ?_
  rintro e w3 ⟨rfl, hE3⟩
  have hX3 := hX2.trans hE3
  clear hsr
  go_wp2_with fail
  refine (c3.out w3 hX3).mono ?_
  rintro e w4 ⟨a3, k3, rfl, ho3, hE4⟩
  have ho3' := Lib.hid ho3
  have hX4 := hX3.trans hE4
  rw [← hM'.out] at ho3' ⊢
  clear ho3
  go_wp2_with fail
  refine (c4.out w4 hX4).mono ?_
  rintro e w5 ⟨sd', a4, k4, rfl, hb, ho4, hso, hE5⟩
  have hX5 := hX4.trans hE5
  rw [hlm'.out, ← hM'.out] at ho4 ⊢
  have hss := Lib.hid (ssaidsG_any w5 ((saidL m.sd).map toSa) sd' M a3 a4 k3 k4 (by rw [hlm'.out]; exact hM'.out) (by rw [toSa_bare, hb]) (by rw [flat_toSa]; exact (ho3'.out.ext hE5).row) ho4.row (toSa_at _ _) (saOwn_at hso) (by omega))
  clear ho4 hso hb ho3'
  go_wp2_with fail
  refine hss.out.mono ?_
  rintro e w6 ⟨rfl, hE6⟩
  go_wp2_with fail
  go_ret
  exact ⟨rfl, hX5.trans hE6⟩
end Go.Proofs.YthageoibkeebhaaGreatDoor

/- ModelsPlay: plain laws of making a state anew; what is held while a state is turned. No condition. -/
namespace Go.Proofs.YthageoibkeebhaaGreatDoor
open Go.RowKit
set_option maxRecDepth 100000
set_option maxHeartbeats 2000000
theorem mkR_self : ∀ (l acc : List Rw), sortR (acc ++ l) → smallR l → mkR acc l = some (acc ++ l)
  | [], acc, _, _ => by unfold mkR; rw [List.append_nil]
  | x :: l, acc, h, hs => by
    have hx := hs x (List.mem_cons_self ..)
    have h1 : ∀ r ∈ acc, ltK r.key x.key := fun r hr => (List.pairwise_append.1 h).2.2 r hr x (List.mem_cons_self ..)
    have h2 : sortR acc := (List.pairwise_append.1 h).1
    unfold mkR
    rw [if_pos ⟨hx.1, hx.2, find_last h1⟩, chR_eq _ h2]
    have h3 : chW acc ⟨x.key, x.val, false⟩ = acc ++ [x] := by
      unfold chW
      rw [if_neg (by simp)]
      exact putW_last h1
    rw [h3, mkR_self l (acc ++ [x]) (by rw [List.append_assoc]; exact h) (fun r hr => hs r (List.mem_cons_of_mem _ hr)), List.append_assoc]
    rfl
theorem keepS_last {l : List Sa} {x : Sa} (h : ∀ p ∈ l, p.cl < x.cl) : keepS l x = l ++ [x] := by
  unfold keepS
  have h1 : l.takeWhile (lessS x.cl) = l := by
    induction l with
    | nil => rfl
    | cons a l ih =>
      rw [List.takeWhile_cons, if_pos (by unfold lessS; exact decide_eq_true (h a (List.mem_cons_self ..))), ih (fun p hp => h p (List.mem_cons_of_mem _ hp))]
  have h2 : l.dropWhile (lessS x.cl) = [] := by
    have h3 := List.takeWhile_append_dropWhile (p := lessS x.cl) (l := l)
    rw [h1] at h3
    exact List.append_right_eq_self.1 h3
  rw [h1, h2]
  rfl
theorem mkS_self : ∀ (q pre : List Sa), (pre ++ q).Pairwise (fun a b => a.cl < b.cl) → (∀ p ∈ q, 1 ≤ p.cl ∧ p.cl ≤ 8 ∧ p.num ≠ 0) → mkS pre (pre.map Sa.bare) q = some ((pre ++ q).map Sa.bare)
  | [], pre, _, _ => by unfold mkS; rw [List.append_nil]
  | x :: q, pre, h, hg => by
    have hx := hg x (List.mem_cons_self ..)
    have h1 : ∀ p ∈ pre, p.cl < x.cl := fun p hp => (List.pairwise_append.1 h).2.2 p hp x (List.mem_cons_self ..)
    unfold mkS
    rw [if_pos ⟨hx.1, hx.2.1, hx.2.2, fun p hp => Nat.ne_of_lt (h1 p hp)⟩, keepS_last (x := x.bare) (fun p hp => by
      obtain ⟨y, hy, rfl⟩ := List.mem_map.1 hp
      exact h1 y hy)]
    have ih := mkS_self q (pre ++ [x]) (by rw [List.append_assoc]; exact h) (fun p hp => hg p (List.mem_cons_of_mem _ hp))
    rw [List.map_append] at ih
    rw [show pre.map Sa.bare ++ [x.bare] = pre.map Sa.bare ++ [x].map Sa.bare from rfl, ih, List.append_assoc]
    rfl
theorem said_rise (sd : List Sv) : (saidL sd).Pairwise (fun a b => a.2 < b.2) := by
  unfold saidL
  refine List.Pairwise.sublist List.filter_sublist ?_
  have h : (sd.zipIdx.map Prod.snd).Pairwise (· < ·) := by rw [List.zipIdx_map_snd]; exact List.pairwise_lt_range'
  exact List.pairwise_map.1 h
/-- The document's state made of what it tells is that. -/
theorem rmk_self {m : Md} (hso : sortR m.rows) (hsm : smallR m.rows) (hf : fineS m.sd) {q : List Sa} (hq : q.map Sa.bare = (saidL m.sd).map toSa) {w w' : World} {e : Ending} (h : RMkE m.rows q w e w') : Ext w w' ∧ ∃ st, e = .returned (.tuple #[.pointer (some ⟨st, 0, none⟩), .int .i64 0]) ∧ RefX w.heap.size w' st m.rows ((saidL m.sd).map toSa) := by
  obtain ⟨hE, h⟩ := h
  refine ⟨hE, ?_⟩
  rw [show mkR [] m.rows = some m.rows from mkR_self m.rows [] hso hsm] at h
  have hcl : ∀ (l : List Sa) (l' : List (Sv × Nat)), l.map Sa.bare = l'.map toSa → l.map (fun p => (p.cl, p.num)) = l'.map fun p => (p.2, p.1.num) := by
    intro l
    induction l with
    | nil =>
      intro l' hl
      cases l' with
      | nil => rfl
      | cons a l' => cases hl
    | cons a l ih =>
      intro l' hl
      cases l' with
      | nil => cases hl
      | cons b l' =>
        rw [List.map_cons, List.map_cons] at hl
        injection hl with h1 h2
        rw [List.map_cons, List.map_cons, ih l' h2]
        have h3 := congrArg Sa.cl h1
        have h4 := congrArg Sa.num h1
        have h3 : a.cl = b.2 := h3
        have h4 : a.num = b.1.num := h4
        rw [h3, h4]
  have hc := hcl q (saidL m.sd) hq
  have hr : q.Pairwise (fun a b => a.cl < b.cl) := by
    have h1 : (q.map fun p => (p.cl, p.num)).Pairwise (fun a b => a.1 < b.1) := by
      rw [hc, List.pairwise_map]
      exact said_rise m.sd
    rw [List.pairwise_map] at h1
    exact h1
  have hg : ∀ p ∈ q, 1 ≤ p.cl ∧ p.cl ≤ 8 ∧ p.num ≠ 0 := fun p hp => by
    have h1 : (p.cl, p.num) ∈ (saidL m.sd).map fun p => (p.2, p.1.num) := by rw [← hc]; exact List.mem_map_of_mem (f := fun p : Sa => (p.cl, p.num)) hp
    obtain ⟨y, hy, he⟩ := List.mem_map.1 h1
    have h2 := said_good hf y hy
    injection he with e1 e2
    rw [← e1, ← e2]
    exact h2
  have hs : mkS [] [] q = some ((saidL m.sd).map toSa) := by
    have h1 := mkS_self q [] hr hg
    rw [List.nil_append, hq] at h1
    exact h1
  replace h : match mkS [] [] q with | none => e = .returned (.tuple #[.pointer none, .int .i64 1]) | some sq => ∃ st, e = .returned (.tuple #[.pointer (some ⟨st, 0, none⟩), .int .i64 0]) ∧ RefX w.heap.size w' st m.rows sq := h
  rw [hs] at h
  exact h
theorem row_flat : ∀ (sd : List Sv) (o : Nat), ((sd.zipIdx o).map toSa).flatMap svg = sd.flatMap svc
  | [], _ => rfl
  | s :: sd, o => by
    rw [List.zipIdx_cons, List.map_cons, List.flatMap_cons, List.flatMap_cons, row_flat sd (o + 1)]
    rfl
/-- A state without rows in its replies, as one with any. -/
theorem StM.toG2 {w0 w : World} {st mb : Nat} {m : Md} (h : StM w0 w st mb m) : StG w0 w st mb m.rows (m.sd.zipIdx.map toSa) := by
  obtain ⟨_, _, _, _, _, b6, _⟩ := h.at
  obtain ⟨rs, ⟨c0, c1, mb2, c2, c3, c4, c5, c6⟩, c7, c8⟩ := h
  rw [cell_of_row _ _ 0 _ 96 (0, 0) c6] at c8
  obtain rfl : mb = mb2 := by simpa [stRow] using c8.symm
  refine ⟨c0, by rw [List.length_map, List.length_zipIdx]; exact c1, rs, c7, c2, c3, c4, c5, ?_, fun p hp => ?_⟩
  · rw [show stRowG mb (m.sd.zipIdx.map toSa) = stRow mb m.sd by unfold stRowG stRow; rw [row_flat]]
    exact c6
  · obtain ⟨y, _, rfl⟩ := List.mem_map.1 hp
    exact OwnC.nil _ _ _ _
theorem PlayN.toG {K : Nat → Prop} {w0 w : World} {st mb rst g n : Nat} {m : Md} (h : PlayN K w0 st mb rst g n m m w) : PlayG K w0 st mb rst g n m.rows (m.sd.zipIdx.map toSa) ((saidL m.sd).map toSa) w := by
  obtain ⟨Z, h0, h1, h2, h3, h4⟩ := h
  exact ⟨Z, h0, h1.toG2, h2, h3, h4⟩
theorem ans_rows (m : Md) (c n : Nat) (x : Ak) : (m.ans c n x).rows.length ≤ m.rows.length + 1 := by
  unfold Md.ans
  split
  · simp
  · split
    · simp
    · split
      · simp
      · show (rowsW m.rows x).length ≤ _
        unfold rowsW
        split
        · cases findW m.rows x.key <;> simp
        · split
          · have := scanL_len x m.rows; omega
          · simp
/-- What lies beside while the states are turned: the act, the ask's twin, its changes. -/
def MpI (w W : World) (c : Ac) (M X7 X8 tb tc : Nat) : Prop := W.heap[X7]? = some (.cells c.cells.toArray 68 (0, 0)) ∧ W.heap[X8]? = some (.cells (c.ask.row (.slice (some ⟨tb, 0, none⟩) M tc)) 66 (0, 0)) ∧ TwC W w.heap.size tb M tc c.ask.chs
section
variable {w W W' : World} {c : Ac} {M X7 X8 tb tc : Nat}
theorem own_ne {t : TypeId} (h1 : t ≠ 96) (h2 : t ≠ 112) (h3 : ¬ bkOwn t) : t ≠ 96 ∧ t ≠ 112 ∧ ¬ bkOwn t := ⟨h1, h2, h3⟩
theorem MpI.ext (h : MpI w W c M X7 X8 tb tc) (hE : Ext W W') : MpI w W' c M X7 X8 tb tc := ⟨hE.row h.1, hE.row h.2.1, h.2.2.ext hE⟩
theorem not_own_act : ¬ bkOwn 68 := by
  rintro (h | ⟨j, hj, h⟩)
  · revert h; decide
  · rcases hj with rfl | rfl | rfl <;> revert h <;> decide
theorem not_own_ask : ¬ bkOwn 66 := by
  rintro (h | ⟨j, hj, h⟩)
  · revert h; decide
  · rcases hj with rfl | rfl | rfl <;> revert h <;> decide
theorem not_own_reply : ¬ bkOwn 74 := by
  rintro (h | ⟨j, hj, h⟩)
  · revert h; decide
  · rcases hj with rfl | rfl | rfl <;> revert h <;> decide
theorem MpI.mut {w0 : World} (h : MpI w W c M X7 X8 tb tc) (hO : OffB (mutB w0 W) W W') : MpI w W' c M X7 X8 tb tc :=
  ⟨mut_row hO h.1 (by decide) (by decide) not_own_act, mut_row hO h.2.1 (by decide) (by decide) not_own_ask, mut_own hO h.2.2 (by decide) (by decide) (fun hb => (own_not hb).2.2.2.1 rfl)⟩
end
theorem stm_changes {w0 w : World} {st mb : Nat} {m : Md} (hS : StM w0 w st mb m) (x : Ak) (a : Option Addr) (cap : Nat) (h : ChsAt w x.chs a cap) (hs : x.small) : Calls Tryz.prog 26 #[.pointer (some ⟨st, 0, none⟩), .agg (x.row (.slice a x.chs.length cap))] w (ChgO (chgX m.rows x) w) := by
  obtain ⟨rs, hX, he, _⟩ := hS
  have h1 := st_changesO hX x a cap h hs
  have h2 : chgL rs x = chgX m.rows x := by
    unfold chgX
    by_cases hok : x.okB = true
    · rw [if_pos hok, chgL_eq rs x hok, he]
    · rw [if_neg hok]; unfold chgL; rw [if_neg hok]
  rw [h2] at h1
  exact h1
end Go.Proofs.YthageoibkeebhaaGreatDoor
