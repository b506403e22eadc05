/- Worlds that keep all blocks but some of the call's own (OffB), and a slice's row across them. No condition. -/
import Derived.Test.YtfcpnkalcijflaaGreatDoorKit
import Derived.Deep.MidRow
namespace Go.Proofs.YtfcpnkalcijflaaGreatDoor
open Go.RowKit

/-- All blocks that were there are as they were, but for those of B; new ones may have come. -/
structure OffB (B : Nat → Prop) (w w' : World) : Prop where
  os : w'.os = w.os
  tape : w'.tape = w.tape
  output : w'.output = w.output
  size : w.heap.size ≤ w'.heap.size
  block : ∀ k, k < w.heap.size → ¬ B k → w'.heap[k]? = w.heap[k]?

variable {B : Nat → Prop}
theorem OffB.refl (w : World) : OffB B w w := ⟨rfl, rfl, rfl, Nat.le_refl _, fun _ _ _ => rfl⟩
theorem OffB.trans {a b c : World} (h : OffB B a b) (k : OffB B b c) : OffB B a c :=
  ⟨k.os.trans h.os, k.tape.trans h.tape, k.output.trans h.output, Nat.le_trans h.size k.size, fun i hi hb => (k.block i (Nat.lt_of_lt_of_le hi h.size) hb).trans (h.block i hi hb)⟩
theorem OffB.mono {B' : Nat → Prop} {w w' : World} (h : OffB B w w') (hb : ∀ k, B k → B' k) : OffB B' w w' := ⟨h.os, h.tape, h.output, h.size, fun k hk hn => h.block k hk (fun hB => hn (hb k hB))⟩
/-- What came past the world's end is free to turn. -/
theorem OffB.past {B' : Nat → Prop} {w w' : World} (h : OffB B w w') (hb : ∀ k, k < w.heap.size → B k → B' k) : OffB B' w w' := ⟨h.os, h.tape, h.output, h.size, fun k hk hn => h.block k hk (fun hB => hn (hb k hk hB))⟩
theorem OffB.of_ext {w w' : World} (h : Ext w w') : OffB B w w' := ⟨Below.os h, Below.tape h, Below.output h, Below.size h, fun k hk _ => Below.block h k hk⟩
theorem OffB.of_below {w w' : World} {base : Nat} (h : Below base w w') (hb : ∀ k, k < w.heap.size → base ≤ k → B k) : OffB B w w' := ⟨h.os, h.tape, h.output, h.size, fun k hk hn => h.block k (Nat.lt_of_not_le fun hle => hn (hb k hk hle))⟩
theorem OffB.ext {w w' : World} (h : OffB B w w') (hb : ∀ k, k < w.heap.size → ¬ B k) : Ext w w' := ⟨h.os, h.tape, h.output, h.size, fun k hk => h.block k hk (hb k hk)⟩
theorem OffB.below {w w' : World} {base : Nat} (h : OffB B w w') (hb : ∀ k, B k → base ≤ k) (hs : base ≤ w.heap.size) : Below base w w' := ⟨h.os, h.tape, h.output, h.size, fun k hk => h.block k (by omega) (fun hB => by have := hb k hB; omega)⟩
theorem OffB.drew {a w : World} (h : OffB B a w) : OffB B a w.drew := ⟨h.os, h.tape, h.output, h.size, h.block⟩
theorem OffB.alloc {a w : World} (h : OffB B a w) (o : Obj) : OffB B a (w.alloc o) := h.trans (.of_ext ((Ext.refl w).alloc o))
theorem OffB.setCell {a w : World} (h : OffB B a w) {p : Addr} (hp : B p.block) (u : Value) : OffB B a (w.setCell p u) :=
  h.trans ⟨rfl, rfl, rfl, by simp, fun k _ hn => Below.heap_setCell w p u k (fun e => hn (e ▸ hp))⟩
theorem OffB.setCells {a w : World} (h : OffB B a w) {b : Nat} (hp : B b) (o : Nat) (vs : List Value) : OffB B a (w.setCells b o vs) := by
  induction vs generalizing o w with
  | nil => exact h
  | cons v r ih => exact ih (h.setCell hp v) (o + 1)
theorem OffB.cell {w w' : World} (h : OffB B w w') {a : Addr} {v : Value} (hc : w.cell? a = some v) (hn : ¬ B a.block) : w'.cell? a = some v := by
  rw [World.cell?_of_block (w := w) (h.block a.block (World.block_lt_of_cell? w a hc) hn)]; exact hc
theorem OffB.frozen {w w' : World} (h : OffB B w w') {a : Addr} {v : Value} (hc : w.cell? a = some v) (hn : ¬ B a.block) : w'.frozen? a = w.frozen? a :=
  World.frozen?_of_block (w := w) (h.block a.block (World.block_lt_of_cell? w a hc) hn)
theorem OffB.range {w w' : World} (h : OffB B w w') {b o : Nat} {cs : List Value} (hc : w.rangeAt b o cs) (hn : ¬ B b) : w'.rangeAt b o cs := fun j v hv => h.cell (hc j v hv) hn

/-- The block of a slice's row. -/
def Out (B : Nat → Prop) (v : Value) : Prop := ∀ a n c, v = .slice (some a) n c → ¬ B a.block
theorem Out.nil {a : Nat} {c : Nat} : Out B (.slice none a c) := fun _ _ _ h => by injection h with h1; cases h1
theorem RowIs.off {w w' : World} {size : Nat} {v : Value} {n : Nat} {xs : List Value} (h : RowIs w size v n xs) (hv : Out B v) (he : OffB B w w') : RowIs w' size v n xs := by
  obtain ⟨h1, h2, h3 | ⟨b, off, cap, rfl, hc, h4⟩⟩ := h
  · exact ⟨h1, h2, .inl h3⟩
  · refine ⟨h1, h2, .inr ⟨b, off, cap, rfl, hc, fun i hi => ?_⟩⟩
    have e := h4 i hi
    rw [List.getElem?_eq_getElem (by omega)] at e ⊢
    exact he.cell e (hv ⟨b, off, none⟩ n cap rfl)
theorem Out.of_own {w : World} {base : Nat} {e : TypeId} {size : Nat} {v : Value} {n : Nat} {xs : List Value} (h : w.ownsRow base e size v n xs) (hb : ∀ k, B k → k < base) : Out B v := by
  intro a m c hv hB
  subst hv
  obtain ⟨_, ⟨h1, _⟩ | ⟨g, cap, cur, h1, hg, _⟩⟩ := h
  · injection h1 with h2; cases h2
  · injection h1 with h2
    injection h2 with h3
    subst h3
    have := hb _ hB
    simp at this
    omega
end Go.Proofs.YtfcpnkalcijflaaGreatDoor
