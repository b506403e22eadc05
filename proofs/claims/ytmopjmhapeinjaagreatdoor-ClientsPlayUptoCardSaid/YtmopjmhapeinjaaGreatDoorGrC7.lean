/- Several texts in one: Bb0 Bb1 TwB. No condition. -/
import Derived.Test.YtmopjmhapeinjaaGreatDoorGrA5
import Derived.Test.YtmopjmhapeinjaaGreatDoorGrC6
import Derived.Test.YtmopjmhapeinjaaGreatDoorGrA6
import Derived.Deep.CutRange
import Derived.Test.YtmopjmhapeinjaaGreatDoorGrB0
/- A book, blocks that are not its own beside it; a list is kept in it, a reply, an ask, what was said, an item. (Printed by mkbb.py.) No condition. -/
namespace Go.Proofs.YtmopjmhapeinjaaGreatDoor
open Go.RowKit
set_option maxRecDepth 100000
set_option maxHeartbeats 4000000
/-- The book's own blocks, at w. -/
def mutG (base : Nat) (w : World) (q : Nat) : Prop := base ≤ q ∧ ∃ c t, w.heap[q]? = some (.cells c t (0, 0)) ∧ bkOwn t
theorem mutG_trans {base : Nat} {w w1 w2 : World} (h1 : OffB (mutG base w) w w1) (h2 : OffB (mutG base w1) w1 w2) : OffB (mutG base w) w w2 :=
  ⟨h2.os.trans h1.os, h2.tape.trans h1.tape, h2.output.trans h1.output, Nat.le_trans h1.size h2.size, fun i hi hb => by
    have e1 := h1.block i hi hb
    rw [← e1]
    refine h2.block i (Nat.lt_of_lt_of_le hi h1.size) (fun hB => hb ?_)
    obtain ⟨hq, c, t, h3, h4⟩ := hB
    rw [e1] at h3
    exact ⟨hq, c, t, h3, h4⟩⟩
theorem mutG_ext {base : Nat} {w w1 w2 : World} (h1 : Ext w w1) (h2 : OffB (mutG base w1) w1 w2) : OffB (mutG base w) w w2 := mutG_trans (.of_ext h1) h2
theorem mg_own {b0 : Nat} {w w' : World} (hO : OffB (mutG b0 w) w w') {base : Nat} {e : TypeId} {z n : Nat} {v : Value} {xs : List Value} (h : OwnC w base e z v n xs) (h3 : ¬ bkOwn e) : OwnC w' base e z v n xs := by
  refine h.offB hO (fun q hq ⟨_, c, t, hc, ht⟩ => ?_)
  obtain ⟨d, hd⟩ := own_typ h hq
  rw [hd] at hc
  injection hc with hc
  injection hc with _ hc
  exact h3 (by rw [hc]; exact ht)
/-- A block of another type stays as it is. -/
theorem mg_blk {b0 : Nat} {w w' : World} (hO : OffB (mutG b0 w) w w') {k : Nat} {c : Array Value} {t : TypeId} (h : w.heap[k]? = some (.cells c t (0, 0))) (h3 : ¬ bkOwn t) : w'.heap[k]? = some (.cells c t (0, 0)) := by
  refine (hO.block k (Array.getElem?_eq_some_iff.1 h).1 (fun ⟨_, c', t', e, ht⟩ => ?_)).trans h
  rw [h] at e
  injection e with e
  injection e with _ e
  exact h3 (by rw [e]; exact ht)
theorem nob_u8 : ¬ bkOwn 5 := by
  rintro (h | ⟨j, hj, h⟩)
  · revert h; decide
  · rcases hj with rfl | rfl | rfl | rfl | rfl | rfl | rfl <;> (revert h; decide)
theorem nob_u64 : ¬ bkOwn 54 := by
  rintro (h | ⟨j, hj, h⟩)
  · revert h; decide
  · rcases hj with rfl | rfl | rfl | rfl | rfl | rfl | rfl <;> (revert h; decide)
theorem nob_row : ¬ bkOwn 134 := by
  rintro (h | ⟨j, hj, h⟩)
  · revert h; decide
  · rcases hj with rfl | rfl | rfl | rfl | rfl | rfl | rfl <;> (revert h; decide)
theorem nob_ch : ¬ bkOwn 93 := by
  rintro (h | ⟨j, hj, h⟩)
  · revert h; decide
  · rcases hj with rfl | rfl | rfl | rfl | rfl | rfl | rfl <;> (revert h; decide)
theorem nob_said : ¬ bkOwn 136 := by
  rintro (h | ⟨j, hj, h⟩)
  · revert h; decide
  · rcases hj with rfl | rfl | rfl | rfl | rfl | rfl | rfl <;> (revert h; decide)
theorem nob_item : ¬ bkOwn 100 := by
  rintro (h | ⟨j, hj, h⟩)
  · revert h; decide
  · rcases hj with rfl | rfl | rfl | rfl | rfl | rfl | rfl <;> (revert h; decide)
theorem nob_msg : ¬ bkOwn 63 := by
  rintro (h | ⟨j, hj, h⟩)
  · revert h; decide
  · rcases hj with rfl | rfl | rfl | rfl | rfl | rfl | rfl <;> (revert h; decide)
theorem nob_ask : ¬ bkOwn 50 := by
  rintro (h | ⟨j, hj, h⟩)
  · revert h; decide
  · rcases hj with rfl | rfl | rfl | rfl | rfl | rfl | rfl <;> (revert h; decide)
theorem nob_reply : ¬ bkOwn 61 := by
  rintro (h | ⟨j, hj, h⟩)
  · revert h; decide
  · rcases hj with rfl | rfl | rfl | rfl | rfl | rfl | rfl <;> (revert h; decide)
theorem nob_client : ¬ bkOwn 87 := by
  rintro (h | ⟨j, hj, h⟩)
  · revert h; decide
  · rcases hj with rfl | rfl | rfl | rfl | rfl | rfl | rfl <;> (revert h; decide)
theorem nob_asked : ¬ bkOwn 95 := by
  rintro (h | ⟨j, hj, h⟩)
  · revert h; decide
  · rcases hj with rfl | rfl | rfl | rfl | rfl | rfl | rfl <;> (revert h; decide)
theorem nob_rcl : ¬ bkOwn 89 := by
  rintro (h | ⟨j, hj, h⟩)
  · revert h; decide
  · rcases hj with rfl | rfl | rfl | rfl | rfl | rfl | rfl <;> (revert h; decide)
theorem nob_act : ¬ bkOwn 65 := by
  rintro (h | ⟨j, hj, h⟩)
  · revert h; decide
  · rcases hj with rfl | rfl | rfl | rfl | rfl | rfl | rfl <;> (revert h; decide)
theorem noa_client : ¬ bkAny 87 := by
  rintro (h | ⟨j, hj, h⟩)
  · exact nob_client h
  · rcases hj with rfl | rfl | rfl | rfl | rfl | rfl | rfl <;> (revert h; decide)
theorem noa_rcl : ¬ bkAny 89 := by
  rintro (h | ⟨j, hj, h⟩)
  · exact nob_rcl h
  · rcases hj with rfl | rfl | rfl | rfl | rfl | rfl | rfl <;> (revert h; decide)
/-- The book; the blocks K are not its own. -/
def PlayB (K : Nat → Prop) (w0 : World) (g n : Nat) (w : World) : Prop := ∃ Z, Ext w0 w ∧ BkZ w0.heap.size g n w Z ∧ ∀ k, K k → k < w.heap.size ∧ ¬ Z k
section
variable {K : Nat → Prop} {w0 w w' : World} {g n : Nat}
theorem PlayB.grown (h : PlayB K w0 g n w) : Ext w0 w := by obtain ⟨Z, h0, _⟩ := h; exact h0
theorem PlayB.less {K' : Nat → Prop} (h : PlayB K w0 g n w) (hK : ∀ k, K' k → K k) : PlayB K' w0 g n w := by
  obtain ⟨Z, h0, h3, h4⟩ := h
  exact ⟨Z, h0, h3, fun k hk => h4 k (hK k hk)⟩
theorem PlayB.ext (h : PlayB K w0 g n w) (hE : Ext w w') : PlayB K w0 g n w' := by
  obtain ⟨Z, h0, h3, h4⟩ := h
  exact ⟨Z, h0.trans hE, h3.ext hE, fun k hk => ⟨Nat.lt_of_lt_of_le (h4 k hk).1 hE.size, (h4 k hk).2⟩⟩
/-- Blocks that came later are not the book's either. -/
theorem PlayB.more {K' : Nat → Prop} (h : PlayB K w0 g n w) (hE : Ext w w') (hK : ∀ k, K' k → K k ∨ w.heap.size ≤ k ∧ k < w'.heap.size) : PlayB K' w0 g n w' := by
  obtain ⟨Z, h0, h3, h4⟩ := h
  refine ⟨Z, h0.trans hE, h3.ext hE, fun k hk => ?_⟩
  rcases hK k hk with hk | ⟨hk, hk2⟩
  · exact ⟨Nat.lt_of_lt_of_le (h4 k hk).1 hE.size, (h4 k hk).2⟩
  · exact ⟨hk2, fun hz => by have := h3.lt hz; omega⟩
/-- One block of another type is turned. -/
theorem PlayB.turn {K' : Nat → Prop} {b : Nat} {c : Array Value} {t : TypeId} (h : PlayB K w0 g n w) (hO : OffB (fun k => k = b) w w') (hb : w.heap[b]? = some (.cells c t (0, 0))) (hge : w0.heap.size ≤ b) (ht : ¬ bkAny t) (hK : ∀ k, K' k → K k ∨ w.heap.size ≤ k ∧ k < w'.heap.size) : PlayB K' w0 g n w' := by
  obtain ⟨Z, h0, h3, h4⟩ := h
  refine ⟨Z, Below.trans h0 (hO.below (fun q hq => by rw [hq]; exact hge) h0.size), h3.offT hO (fun q hq => by rw [hq]; exact hge) (fun q hq c' t' hc ha => ?_), fun k hk => ?_⟩
  · have hq : q = b := hq
    rw [hq, hb] at hc
    injection hc with hc
    injection hc with _ hc
    exact ht (by rw [hc]; exact ha)
  · rcases hK k hk with hk | ⟨hk, hk2⟩
    · exact ⟨Nat.lt_of_lt_of_le (h4 k hk).1 hO.size, (h4 k hk).2⟩
    · exact ⟨hk2, fun hz => by have := h3.lt hz; omega⟩
/-- What keeping lists brings. -/
def KeptB (K' : Nat → Prop) (w0 : World) (g n : Nat) (w : World) (e : Ending) (w' : World) : Prop := e = .returned (.tuple #[]) ∧ PlayB K' w0 g n w' ∧ OffB (mutG w0.heap.size w) w w'
theorem PlayB.kept {K' : Nat → Prop} {x : Value} {Z : Nat → Prop} (h0 : Ext w0 w) (hZ : BkZ w0.heap.size g n w Z) (hK : ∀ k, K' k → k < w.heap.size ∧ ¬ Z k) {e : Ending} (hE : BkZE w0.heap.size g (n + 1) x Z w e w') (hx : ∀ k, K' k → x.ownBlock ≠ some k) : KeptB K' w0 g (n + 1) w e w' := by
  obtain ⟨he, hb, hO, Z', hB, hZ'⟩ := hE
  have hO' : OffB (mutG w0.heap.size w) w w' := hO.mono fun q hq => by
    obtain ⟨hz, c, t, hc, ht⟩ := hq
    exact ⟨hZ.ge hz, c, t, hc, ht⟩
  refine ⟨he, ⟨Z', Below.trans h0 hb, hB, fun k hk => ⟨Nat.lt_of_lt_of_le (hK k hk).1 hO.size, fun hz => ?_⟩⟩, hO'⟩
  rcases hZ' k hz with hz | hz | hz
  · exact (hK k hk).2 hz
  · exact hx k hk hz
  · have := (hK k hk).1; omega
theorem pb_row {K' : Nat → Prop} (h : PlayB K w0 g n w) (hKK : ∀ k, K' k → K k) (hn : n < 900000) (a : Option Addr) (len cap : Nat) (xs : List Value) (hx : OwnC w w0.heap.size 134 2 (.slice a len cap) len xs) (hl : len ≤ 1000000) (hK : ∀ q, (Value.slice a len cap).ownBlock = some q → K q) (hKn : ∀ q, K' q → (Value.slice a len cap).ownBlock ≠ some q) : Calls Tryz.prog 53 #[.pointer (some ⟨g, 0, none⟩), .slice a len cap] w (KeptB K' w0 g (n + 1) w) := by
  obtain ⟨Z, h0, h3, h4⟩ := h
  exact (bookzRow_any h3 hn a len cap xs hx hl (fun q hq => (h4 q (hK q hq)).2)).mono fun e w' hE => PlayB.kept h0 h3 (fun k hk => h4 k (hKK k hk)) hE hKn
theorem pb_chs {K' : Nat → Prop} (h : PlayB K w0 g n w) (hKK : ∀ k, K' k → K k) (hn : n < 900000) (a : Option Addr) (len cap : Nat) (xs : List Value) (hx : OwnC w w0.heap.size 93 3 (.slice a len cap) len xs) (hl : len ≤ 1000000) (hK : ∀ q, (Value.slice a len cap).ownBlock = some q → K q) (hKn : ∀ q, K' q → (Value.slice a len cap).ownBlock ≠ some q) : Calls Tryz.prog 34 #[.pointer (some ⟨g, 0, none⟩), .slice a len cap] w (KeptB K' w0 g (n + 1) w) := by
  obtain ⟨Z, h0, h3, h4⟩ := h
  exact (bookzChange_any h3 hn a len cap xs hx hl (fun q hq => (h4 q (hK q hq)).2)).mono fun e w' hE => PlayB.kept h0 h3 (fun k hk => h4 k (hKK k hk)) hE hKn
theorem pb_bytes {K' : Nat → Prop} (h : PlayB K w0 g n w) (hKK : ∀ k, K' k → K k) (hn : n < 900000) (a : Option Addr) (len cap : Nat) (xs : List Value) (hx : OwnC w w0.heap.size 5 1 (.slice a len cap) len xs) (hl : len ≤ 1000000) (hK : ∀ q, (Value.slice a len cap).ownBlock = some q → K q) (hKn : ∀ q, K' q → (Value.slice a len cap).ownBlock ≠ some q) : Calls Tryz.prog 50 #[.pointer (some ⟨g, 0, none⟩), .slice a len cap] w (KeptB K' w0 g (n + 1) w) := by
  obtain ⟨Z, h0, h3, h4⟩ := h
  exact (bookzByte_any h3 hn a len cap xs hx hl (fun q hq => (h4 q (hK q hq)).2)).mono fun e w' hE => PlayB.kept h0 h3 (fun k hk => h4 k (hKK k hk)) hE hKn
theorem pb_nums {K' : Nat → Prop} (h : PlayB K w0 g n w) (hKK : ∀ k, K' k → K k) (hn : n < 900000) (a : Option Addr) (len cap : Nat) (xs : List Value) (hx : OwnC w w0.heap.size 54 1 (.slice a len cap) len xs) (hl : len ≤ 1000000) (hK : ∀ q, (Value.slice a len cap).ownBlock = some q → K q) (hKn : ∀ q, K' q → (Value.slice a len cap).ownBlock ≠ some q) : Calls Tryz.prog 51 #[.pointer (some ⟨g, 0, none⟩), .slice a len cap] w (KeptB K' w0 g (n + 1) w) := by
  obtain ⟨Z, h0, h3, h4⟩ := h
  exact (bookzNum_any h3 hn a len cap xs hx hl (fun q hq => (h4 q (hK q hq)).2)).mono fun e w' hE => PlayB.kept h0 h3 (fun k hk => h4 k (hKK k hk)) hE hKn
theorem pb_kitem {K' : Nat → Prop} (h : PlayB K w0 g n w) (hKK : ∀ k, K' k → K k) (hn : n < 900000) (a : Option Addr) (len cap : Nat) (xs : List Value) (hx : OwnC w w0.heap.size 100 11 (.slice a len cap) len xs) (hl : len ≤ 1000000) (hK : ∀ q, (Value.slice a len cap).ownBlock = some q → K q) (hKn : ∀ q, K' q → (Value.slice a len cap).ownBlock ≠ some q) : Calls Tryz.prog 122 #[.pointer (some ⟨g, 0, none⟩), .slice a len cap] w (KeptB K' w0 g (n + 1) w) := by
  obtain ⟨Z, h0, h3, h4⟩ := h
  exact (keepzItem_any h3 hn a len cap xs hx hl (fun q hq => (h4 q (hK q hq)).2)).mono fun e w' hE => PlayB.kept h0 h3 (fun k hk => h4 k (hKK k hk)) hE hKn
theorem pb_ksaid {K' : Nat → Prop} (h : PlayB K w0 g n w) (hKK : ∀ k, K' k → K k) (hn : n < 900000) (a : Option Addr) (len cap : Nat) (xs : List Value) (hx : OwnC w w0.heap.size 136 5 (.slice a len cap) len xs) (hl : len ≤ 1000000) (hK : ∀ q, (Value.slice a len cap).ownBlock = some q → K q) (hKn : ∀ q, K' q → (Value.slice a len cap).ownBlock ≠ some q) : Calls Tryz.prog 125 #[.pointer (some ⟨g, 0, none⟩), .slice a len cap] w (KeptB K' w0 g (n + 1) w) := by
  obtain ⟨Z, h0, h3, h4⟩ := h
  exact (keepzSaid_any h3 hn a len cap xs hx hl (fun q hq => (h4 q (hK q hq)).2)).mono fun e w' hE => PlayB.kept h0 h3 (fun k hk => h4 k (hKK k hk)) hE hKn
theorem pb_kmsg {K' : Nat → Prop} (h : PlayB K w0 g n w) (hKK : ∀ k, K' k → K k) (hn : n < 900000) (a : Option Addr) (len cap : Nat) (xs : List Value) (hx : OwnC w w0.heap.size 63 16 (.slice a len cap) len xs) (hl : len ≤ 1000000) (hK : ∀ q, (Value.slice a len cap).ownBlock = some q → K q) (hKn : ∀ q, K' q → (Value.slice a len cap).ownBlock ≠ some q) : Calls Tryz.prog 37 #[.pointer (some ⟨g, 0, none⟩), .slice a len cap] w (KeptB K' w0 g (n + 1) w) := by
  obtain ⟨Z, h0, h3, h4⟩ := h
  exact (keepzMsg_any h3 hn a len cap xs hx hl (fun q hq => (h4 q (hK q hq)).2)).mono fun e w' hE => PlayB.kept h0 h3 (fun k hk => h4 k (hKK k hk)) hE hKn
theorem pb_reply {K' : Nat → Prop} (h : PlayB K w0 g n w) (hKK : ∀ k, K' k → K k) (hn : n < 900000) (i : Int) (b : Bool) (a : Option Addr) (len cap : Nat) (xs : List Value) (hx : OwnC w w0.heap.size 134 2 (.slice a len cap) len xs) (hl : len ≤ 1000000) (hK : ∀ q, (Value.slice a len cap).ownBlock = some q → K q) (hKn : ∀ q, K' q → (Value.slice a len cap).ownBlock ≠ some q) : Calls Tryz.prog 55 #[.pointer (some ⟨g, 0, none⟩), .agg (#[.int .i64 i, .bool b, .slice a len cap])] w (KeptB K' w0 g (n + 1) w) := by
  obtain ⟨V, hV⟩ : ∃ W, W = w.alloc (.cells (reH i b (.slice a len cap)) 61) := ⟨_, rfl⟩
  have hE0 : Ext w V := by rw [hV]; exact (Ext.refl _).alloc _
  have h1 : V.heap[w.heap.size]? = some (.cells (reH i b (.slice a len cap)) 61 (0, 0)) := by rw [hV]; exact heap_alloc_new w _
  obtain ⟨x0, x1, x2⟩ := re_cells h1
  have hcall := Lib.hid (pb_row (h.ext hE0) hKK hn a len cap xs (hx.ext hE0) hl hK hKn)
  have hV' := Lib.hid hV
  clear h hV h1 hx hK hKn hKK
  unfold reH at hV'
  go_enter Tryz.func55, Tryz.ntmps55
  go_upto_region 1 with fail
  rw [← hV'.out]
  go_wp2_with fail
  refine hcall.out.mono ?_
  rintro e w2 ⟨rfl, hP2, hO2⟩
  have hP2' := Lib.hid hP2
  have hO2' := Lib.hid hO2
  clear hP2 hO2 hcall
  go_wp2_with fail
  go_end0
  exact ⟨rfl, hP2'.out, mutG_ext hE0 hO2'.out⟩
theorem pb_ask {K' : Nat → Prop} (h : PlayB K w0 g n w) (hKK : ∀ k, K' k → K k) (hn : n < 900000) (x : Ak) (a : Option Addr) (len cap : Nat) (xs : List Value) (hx : OwnC w w0.heap.size 93 3 (.slice a len cap) len xs) (hl : len ≤ 1000000) (hK : ∀ q, (Value.slice a len cap).ownBlock = some q → K q) (hKn : ∀ q, K' q → (Value.slice a len cap).ownBlock ≠ some q) : Calls Tryz.prog 12 #[.pointer (some ⟨g, 0, none⟩), .agg (x.row (.slice a len cap))] w (KeptB K' w0 g (n + 1) w) := by
  obtain ⟨V, hV⟩ : ∃ W, W = w.alloc (.cells (x.row (.slice a len cap)) 50) := ⟨_, rfl⟩
  have hE0 : Ext w V := by rw [hV]; exact (Ext.refl _).alloc _
  have h1 : V.heap[w.heap.size]? = some (.cells (x.row (.slice a len cap)) 50 (0, 0)) := by rw [hV]; exact heap_alloc_new w _
  obtain ⟨x0, x1, x2, x3, x4, x5, x6, x7⟩ := askc h1
  have hcall := Lib.hid (pb_chs (h.ext hE0) hKK hn a len cap xs (hx.ext hE0) hl hK hKn)
  have hV' := Lib.hid hV
  clear h hV h1 hx hK hKn hKK
  unfold Ak.row at hV' ⊢
  go_enter Tryz.func12, Tryz.ntmps12
  go_upto_region 1 with fail
  rw [← hV'.out]
  go_wp2_with fail
  refine hcall.out.mono ?_
  rintro e w2 ⟨rfl, hP2, hO2⟩
  have hP2' := Lib.hid hP2
  have hO2' := Lib.hid hO2
  clear hP2 hO2 hcall
  go_wp2_with fail
  go_end0
  exact ⟨rfl, hP2'.out, mutG_ext hE0 hO2'.out⟩
theorem pb_said {K' : Nat → Prop} (h : PlayB K w0 g n w) (hKK : ∀ k, K' k → K k) (hn : n < 900000) (x : Sa) (a : Option Addr) (len cap : Nat) (xs : List Value) (hx : OwnC w w0.heap.size 134 2 (.slice a len cap) len xs) (hl : len ≤ 1000000) (hK : ∀ q, (Value.slice a len cap).ownBlock = some q → K q) (hKn : ∀ q, K' q → (Value.slice a len cap).ownBlock ≠ some q) : Calls Tryz.prog 124 #[.pointer (some ⟨g, 0, none⟩), .agg (saRow x a len cap)] w (KeptB K' w0 g (n + 1) w) := by
  obtain ⟨V, hV⟩ : ∃ W, W = w.alloc (.cells (saRow x a len cap) 136) := ⟨_, rfl⟩
  have hE0 : Ext w V := by rw [hV]; exact (Ext.refl _).alloc _
  have h1 : V.heap[w.heap.size]? = some (.cells (saRow x a len cap) 136 (0, 0)) := by rw [hV]; exact heap_alloc_new w _
  obtain ⟨x0, x1, x2, x3, x4⟩ := sa_cs h1
  have hcall := Lib.hid (pb_reply (h.ext hE0) hKK hn x.e x.yes a len cap xs (hx.ext hE0) hl hK hKn)
  have hV' := Lib.hid hV
  clear h hV h1 hx hK hKn hKK
  unfold saRow at hV' ⊢
  go_enter Tryz.func124, Tryz.ntmps124
  go_upto_region 1 with fail
  rw [← hV'.out]
  go_wp2_with fail
  refine hcall.out.mono ?_
  rintro e w2 ⟨rfl, hP2, hO2⟩
  have hP2' := Lib.hid hP2
  have hO2' := Lib.hid hO2
  clear hP2 hO2 hcall
  go_wp2_with fail
  go_end0
  exact ⟨rfl, hP2'.out, mutG_ext hE0 hO2'.out⟩
theorem pb_item {K' : Nat → Prop} (h : PlayB K w0 g n w) (hKK : ∀ k, K' k → K k) (hn : n < 900000) (x : It) (a : Option Addr) (len cap : Nat) (xs : List Value) (hx : OwnC w w0.heap.size 93 3 (.slice a len cap) len xs) (hl : len ≤ 1000000) (hK : ∀ q, (Value.slice a len cap).ownBlock = some q → K q) (hKn : ∀ q, K' q → (Value.slice a len cap).ownBlock ≠ some q) : Calls Tryz.prog 121 #[.pointer (some ⟨g, 0, none⟩), .agg (itRow x a len cap)] w (KeptB K' w0 g (n + 1) w) := by
  obtain ⟨V, hV⟩ : ∃ W, W = w.alloc (.cells (itRow x a len cap) 100) := ⟨_, rfl⟩
  have hE0 : Ext w V := by rw [hV]; exact (Ext.refl _).alloc _
  have h1 : V.heap[w.heap.size]? = some (.cells (itRow x a len cap) 100 (0, 0)) := by rw [hV]; exact heap_alloc_new w _
  obtain ⟨x0, x1, x2, x3, x4, x5, x6, x7, x8, x9, x10⟩ := it_cs h1
  have hcall := Lib.hid (pb_ask (h.ext hE0) hKK hn x.ask a len cap xs (hx.ext hE0) hl hK hKn)
  have hV' := Lib.hid hV
  unfold Ak.row at hcall
  clear h hV h1 hx hK hKn hKK
  unfold itRow at hV' ⊢
  go_enter Tryz.func121, Tryz.ntmps121
  go_upto_region 1 with fail
  rw [← hV'.out]
  go_wp2_with fail
  refine hcall.out.mono ?_
  rintro e w2 ⟨rfl, hP2, hO2⟩
  have hP2' := Lib.hid hP2
  have hO2' := Lib.hid hO2
  clear hP2 hO2 hcall
  go_wp2_with fail
  go_end0
  exact ⟨rfl, hP2'.out, mutG_ext hE0 hO2'.out⟩
theorem pb_apart (h : PlayB K w0 g n w) (hn : n < numTop) : Calls Tryz.prog 26 #[.pointer (some ⟨g, 0, none⟩)] w fun e w' => e = .returned (.bool true) ∧ Ext w0 w' := by
  obtain ⟨Z, h0, h3, h4⟩ := h
  refine (bookzA_any h3 hn).mono ?_
  rintro e w' ⟨he, hb⟩
  exact ⟨he, Below.trans h0 hb⟩
end
end Go.Proofs.YtmopjmhapeinjaaGreatDoor

/- What was said, and items, with all lists within them, are kept in a book. (Printed by mkbb.py.) No condition. -/
namespace Go.Proofs.YtmopjmhapeinjaaGreatDoor
open Go.RowKit
set_option maxRecDepth 100000
set_option maxHeartbeats 4000000
section
variable {K : Nat → Prop} {w0 w w' : World} {g n : Nat}
def blkS (sd : List Sa) (q : Nat) : Prop := ∃ p ∈ sd, p.v.ownBlock = some q
/-- All lists within a list are kept, and it itself. -/
theorem pb_saids {K' : Nat → Prop} (h : PlayB K w0 g n w) (hKK : ∀ k, K' k → K k) (sd : List Sa) (a : Option Addr) (len cap : Nat) (hlen : len = sd.length) (hl : len ≤ 3000) (hn : n < 800000) (hx : OwnC w w0.heap.size 136 5 (.slice a len cap) len (sd.flatMap Sa.cells)) (hso : SaOwn w w0.heap.size sd) (hsep : SaSep sd) (hrl : ∀ p ∈ sd, p.rows.length ≤ 1000000)
    (hK1 : ∀ q, (Value.slice a len cap).ownBlock = some q → K q) (hK2 : ∀ q, blkS sd q → K q) (hKn : ∀ q, K' q → (Value.slice a len cap).ownBlock ≠ some q ∧ ¬ blkS sd q) : Calls Tryz.prog 54 #[.pointer (some ⟨g, 0, none⟩), .slice a len cap] w (KeptB K' w0 g (n + len + 1) w) := by
  have hm := Lib.hid hlen
  have hx' := Lib.hid hx
  have hso' := Lib.hid hso
  have hsep' := Lib.hid hsep
  have hrl' := Lib.hid hrl
  have hKn' := Lib.hid hKn
  have hab : Hid (∀ q, (Value.slice a len cap).ownBlock = some q → ¬ blkS sd q) := Lib.hid (fun q hq ⟨p, hp, hb⟩ => by
    obtain ⟨c, hc⟩ := own_typ hx hq
    obtain ⟨d, hd⟩ := own_typ (hso p hp) hb
    rw [hc] at hd
    injection hd with hd
    injection hd with _ hd
    revert hd; decide)
  have hP0 : PlayB (fun q => K' q ∨ blkS (sd.drop 0) q ∨ (Value.slice a len cap).ownBlock = some q) w0 g (n + 0) w := h.less (fun q hq => by
    rcases hq with hq | hq | hq
    · exact hKK q hq
    · exact hK2 q hq
    · exact hK1 q hq)
  have hP0' := Lib.hid hP0
  clear hlen hx hso hsep hrl hKn h hK1 hK2 hKK hP0
  go_enter Tryz.func54, Tryz.ntmps54
  go_wp2_with fail
  go_loopw [4] (fun i wr => ∃ k : Nat, k ≤ len ∧ i = .int .i64 k ∧ Hid (PlayB (fun q => K' q ∨ blkS (sd.drop k) q ∨ (Value.slice a len cap).ownBlock = some q) w0 g (n + k) wr) ∧ OffB (mutG w0.heap.size w) w wr) (fun i _ => len - (intOf i).toNat)
  case atStart => exact ⟨0, by omega, rfl, hP0', OffB.refl _⟩
  case round =>
    obtain ⟨k, hk, rfl, hP, hO⟩ := hrel
    have hxk := mg_own hO hx'.out nob_said
    by_cases hlt : k < len
    · have hli : (k : Int) < (len : Int) := by omega
      obtain ⟨y, hy⟩ : ∃ y, sd[k]? = some y := ⟨_, List.getElem?_eq_getElem (by rw [← hm.out]; exact hlt)⟩
      obtain ⟨ob, oo, hat⟩ := hxk.row.at
      obtain ⟨e1, _, hdy⟩ := hat (by omega)
      have hrg := sas_range (by rw [← hm.out]; exact hdy) hy
      have hyo := mg_own hO (hso'.out y (List.mem_of_getElem? hy)) nob_row
      obtain ⟨va, vc, hv, _⟩ := hyo.form
      rw [hv] at hyo
      rw [sa_cells hv] at hrg
      have hdr : sd.drop k = y :: sd.drop (k + 1) := by
        obtain ⟨hlt2, he⟩ := List.getElem?_eq_some_iff.1 hy
        rw [List.drop_eq_getElem_cons hlt2, he]
      have hyl := hrl'.out y (List.mem_of_getElem? hy)
      have hsp : ∀ q, (Value.slice va y.rows.length vc).ownBlock = some q → ¬ blkS (sd.drop (k + 1)) q := fun q hq ⟨p, hp, hb⟩ => by
        have h1 : SaSep (sd.drop k) := List.Pairwise.sublist (List.drop_sublist _ _) hsep'.out
        rw [hdr] at h1
        exact (List.pairwise_cons.1 h1).1 p hp q (by rw [hv]; exact hq) hb
      have hcall := Lib.hid (pb_said (K' := fun q => K' q ∨ blkS (sd.drop (k + 1)) q ∨ (Value.slice a len cap).ownBlock = some q) hP.out (fun q hq => by
        rcases hq with hq | ⟨p, hp, hb⟩ | hq
        · exact .inl hq
        · exact .inr (.inl ⟨p, by rw [hdr]; exact List.mem_cons_of_mem _ hp, hb⟩)
        · exact .inr (.inr hq)) (by omega) y va y.rows.length vc _ hyo hyl (fun q hq => .inr (.inl ⟨y, by rw [hdr]; exact List.mem_cons_self .., by rw [hv]; exact hq⟩)) (fun q hq hb => by
        have hyb : blkS sd q := ⟨y, List.mem_of_getElem? hy, by rw [hv]; exact hb⟩
        rcases hq with hq | hq | hq
        · exact (hKn'.out q hq).2 hyb
        · exact hsp q hb hq
        · exact hab.out q hq hyb))
      subst e1
      clear hat hdy hy hyo hv hdr hsp hxk hP
      go_wp2_with (first | (refine wpList_load_mid (by rfl) 136 (.tmp 14) (by rfl) ob (oo + k * 5) (by rfl) (saRow y va y.rows.length vc).toList _ hrg Tryz.underlying136 rfl (by exact info_said) ?_) | fail)
      refine hcall.out.mono ?_
      rintro e w2 ⟨rfl, hP2, hO2⟩
      have hP2' := Lib.hid hP2
      have hO2' := mutG_trans hO hO2
      clear hP2 hO2 hcall hrg
      go_wp2_with fail
      go_roundw
      case rel => exact ⟨k + 1, by omega, by go_num, hP2', hO2'⟩
      case measure => simp [intOf]; omega
    · have hli : ¬ (k : Int) < (len : Int) := by omega
      obtain rfl : k = len := by omega
      have hcall := Lib.hid (pb_ksaid (K' := K') hP.out (fun q hq => .inl hq) (by omega) a k cap _ hxk (by omega) (fun q hq => .inr (.inr hq)) (fun q hq => (hKn'.out q hq).1))
      clear hP hxk hx'
      go_wp2_with fail
      refine hcall.out.mono ?_
      rintro e w2 ⟨rfl, hP2, hO2⟩
      have hP2' := Lib.hid hP2
      have hO2' := Lib.hid (mutG_trans hO hO2)
      clear hP2 hO2 hcall hO
      go_wp2_with fail
      go_end0
      exact ⟨rfl, hP2'.out, hO2'.out⟩
def blkI (sd : List It) (q : Nat) : Prop := ∃ p ∈ sd, p.v.ownBlock = some q
/-- All lists within a list are kept, and it itself. -/
theorem pb_items {K' : Nat → Prop} (h : PlayB K w0 g n w) (hKK : ∀ k, K' k → K k) (sd : List It) (a : Option Addr) (len cap : Nat) (hlen : len = sd.length) (hl : len ≤ 3000) (hn : n < 800000) (hx : OwnC w w0.heap.size 100 11 (.slice a len cap) len (sd.flatMap It.cells)) (hso : ItOwn w w0.heap.size sd) (hsep : ItSep sd) (hrl : ∀ p ∈ sd, p.ask.chs.length ≤ 1000000)
    (hK1 : ∀ q, (Value.slice a len cap).ownBlock = some q → K q) (hK2 : ∀ q, blkI sd q → K q) (hKn : ∀ q, K' q → (Value.slice a len cap).ownBlock ≠ some q ∧ ¬ blkI sd q) : Calls Tryz.prog 52 #[.pointer (some ⟨g, 0, none⟩), .slice a len cap] w (KeptB K' w0 g (n + len + 1) w) := by
  have hm := Lib.hid hlen
  have hx' := Lib.hid hx
  have hso' := Lib.hid hso
  have hsep' := Lib.hid hsep
  have hrl' := Lib.hid hrl
  have hKn' := Lib.hid hKn
  have hab : Hid (∀ q, (Value.slice a len cap).ownBlock = some q → ¬ blkI sd q) := Lib.hid (fun q hq ⟨p, hp, hb⟩ => by
    obtain ⟨c, hc⟩ := own_typ hx hq
    obtain ⟨d, hd⟩ := own_typ (hso p hp) hb
    rw [hc] at hd
    injection hd with hd
    injection hd with _ hd
    revert hd; decide)
  have hP0 : PlayB (fun q => K' q ∨ blkI (sd.drop 0) q ∨ (Value.slice a len cap).ownBlock = some q) w0 g (n + 0) w := h.less (fun q hq => by
    rcases hq with hq | hq | hq
    · exact hKK q hq
    · exact hK2 q hq
    · exact hK1 q hq)
  have hP0' := Lib.hid hP0
  clear hlen hx hso hsep hrl hKn h hK1 hK2 hKK hP0
  go_enter Tryz.func52, Tryz.ntmps52
  go_wp2_with fail
  go_loopw [4] (fun i wr => ∃ k : Nat, k ≤ len ∧ i = .int .i64 k ∧ Hid (PlayB (fun q => K' q ∨ blkI (sd.drop k) q ∨ (Value.slice a len cap).ownBlock = some q) w0 g (n + k) wr) ∧ OffB (mutG w0.heap.size w) w wr) (fun i _ => len - (intOf i).toNat)
  case atStart => exact ⟨0, by omega, rfl, hP0', OffB.refl _⟩
  case round =>
    obtain ⟨k, hk, rfl, hP, hO⟩ := hrel
    have hxk := mg_own hO hx'.out nob_item
    by_cases hlt : k < len
    · have hli : (k : Int) < (len : Int) := by omega
      obtain ⟨y, hy⟩ : ∃ y, sd[k]? = some y := ⟨_, List.getElem?_eq_getElem (by rw [← hm.out]; exact hlt)⟩
      obtain ⟨ob, oo, hat⟩ := hxk.row.at
      obtain ⟨e1, _, hdy⟩ := hat (by omega)
      have hrg := its_range (by rw [← hm.out]; exact hdy) hy
      have hyo := mg_own hO (hso'.out y (List.mem_of_getElem? hy)) nob_ch
      obtain ⟨va, vc, hv, _⟩ := hyo.form
      rw [hv] at hyo
      rw [it_cells hv] at hrg
      have hdr : sd.drop k = y :: sd.drop (k + 1) := by
        obtain ⟨hlt2, he⟩ := List.getElem?_eq_some_iff.1 hy
        rw [List.drop_eq_getElem_cons hlt2, he]
      have hyl := hrl'.out y (List.mem_of_getElem? hy)
      have hsp : ∀ q, (Value.slice va y.ask.chs.length vc).ownBlock = some q → ¬ blkI (sd.drop (k + 1)) q := fun q hq ⟨p, hp, hb⟩ => by
        have h1 : ItSep (sd.drop k) := List.Pairwise.sublist (List.drop_sublist _ _) hsep'.out
        rw [hdr] at h1
        exact (List.pairwise_cons.1 h1).1 p hp q (by rw [hv]; exact hq) hb
      have hcall := Lib.hid (pb_item (K' := fun q => K' q ∨ blkI (sd.drop (k + 1)) q ∨ (Value.slice a len cap).ownBlock = some q) hP.out (fun q hq => by
        rcases hq with hq | ⟨p, hp, hb⟩ | hq
        · exact .inl hq
        · exact .inr (.inl ⟨p, by rw [hdr]; exact List.mem_cons_of_mem _ hp, hb⟩)
        · exact .inr (.inr hq)) (by omega) y va y.ask.chs.length vc _ hyo hyl (fun q hq => .inr (.inl ⟨y, by rw [hdr]; exact List.mem_cons_self .., by rw [hv]; exact hq⟩)) (fun q hq hb => by
        have hyb : blkI sd q := ⟨y, List.mem_of_getElem? hy, by rw [hv]; exact hb⟩
        rcases hq with hq | hq | hq
        · exact (hKn'.out q hq).2 hyb
        · exact hsp q hb hq
        · exact hab.out q hq hyb))
      subst e1
      clear hat hdy hy hyo hv hdr hsp hxk hP
      go_wp2_with (first | (refine wpList_load_mid (by rfl) 100 (.tmp 14) (by rfl) ob (oo + k * 11) (by rfl) (itRow y va y.ask.chs.length vc).toList _ hrg Tryz.underlying100 rfl (by exact info_item) ?_) | fail)
      refine hcall.out.mono ?_
      rintro e w2 ⟨rfl, hP2, hO2⟩
      have hP2' := Lib.hid hP2
      have hO2' := mutG_trans hO hO2
      clear hP2 hO2 hcall hrg
      go_wp2_with fail
      go_roundw
      case rel => exact ⟨k + 1, by omega, by go_num, hP2', hO2'⟩
      case measure => simp [intOf]; omega
    · have hli : ¬ (k : Int) < (len : Int) := by omega
      obtain rfl : k = len := by omega
      have hcall := Lib.hid (pb_kitem (K' := K') hP.out (fun q hq => .inl hq) (by omega) a k cap _ hxk (by omega) (fun q hq => .inr (.inr hq)) (fun q hq => (hKn'.out q hq).1))
      clear hP hxk hx'
      go_wp2_with fail
      refine hcall.out.mono ?_
      rintro e w2 ⟨rfl, hP2, hO2⟩
      have hP2' := Lib.hid hP2
      have hO2' := Lib.hid (mutG_trans hO hO2)
      clear hP2 hO2 hcall hO
      go_wp2_with fail
      go_end0
      exact ⟨rfl, hP2'.out, hO2'.out⟩
end
end Go.Proofs.YtmopjmhapeinjaaGreatDoor

/- Is an ask's twin still what it was made of? No condition. -/
namespace Go.Proofs.YtmopjmhapeinjaaGreatDoor
open Go.RowKit
set_option maxRecDepth 100000
set_option maxHeartbeats 4000000
theorem leftA_any (w : World) (x : Ak) (a : Option Addr) (cap n base b cap' : Nat) (hn : n = x.chs.length) (hr : RowIs w 3 (.slice a n cap) n (x.chs.flatMap Ch.cells)) (hl : n ≤ 50000) (hT : TwC w base b n cap' x.chs) : Calls Tryz.prog 11 #[.agg (x.row (.slice (some ⟨b, 0, none⟩) n cap')), .agg (x.row (.slice a n cap))] w fun e w' => e = .returned (.bool true) ∧ Ext w w' := by
  obtain ⟨X, hX⟩ : ∃ X, X = w.heap.size := ⟨_, rfl⟩
  obtain ⟨V, hV⟩ : ∃ W, W = (w.alloc (.cells (x.row (.slice (some ⟨b, 0, none⟩) n cap')) 50)).alloc (.cells (x.row (.slice a n cap)) 50) := ⟨_, rfl⟩
  have hE0 : Ext w V := by rw [hV]; exact ((Ext.refl _).alloc _).alloc _
  have h1 : V.heap[X]? = some (.cells (x.row (.slice (some ⟨b, 0, none⟩) n cap')) 50 (0, 0)) := by rw [hV, hX]; exact ((Ext.refl _).alloc _).row (heap_alloc_new w _)
  have h2 : V.heap[X + 1]? = some (.cells (x.row (.slice a n cap)) 50 (0, 0)) := by
    have h1 := heap_alloc_new (w.alloc (.cells (x.row (.slice (some ⟨b, 0, none⟩) n cap')) 50)) (.cells (x.row (.slice a n cap)) 50)
    rw [show (w.alloc (.cells (x.row (.slice (some ⟨b, 0, none⟩) n cap')) 50)).heap.size = X + 1 by rw [hX]; simp] at h1
    rw [hV]; exact h1
  obtain ⟨x0, x1, x2, x3, x4, x5, x6, x7⟩ := askc h1
  obtain ⟨y0, y1, y2, y3, y4, y5, y6, y7⟩ := askc h2
  have hcall := Lib.hid (leftC_any V x.chs base b cap' a cap n hn (hr.ext hE0) hl (hT.ext hE0))
  have hV' := Lib.hid hV
  have hX' := Lib.hid hX
  clear hr hn hV hX h1 h2 hT
  unfold Ak.row at hV' ⊢
  go_enter Tryz.func11, Tryz.ntmps11
  go_upto_region 1 with fail
  rw [← hV'.out, ← hX'.out]
  go_wp2_with fail
  refine hcall.out.mono ?_
  rintro e w2 ⟨rfl, hE2⟩
  go_wp2_with fail
  go_ret
  exact ⟨rfl, hE0.trans hE2⟩
end Go.Proofs.YtmopjmhapeinjaaGreatDoor
