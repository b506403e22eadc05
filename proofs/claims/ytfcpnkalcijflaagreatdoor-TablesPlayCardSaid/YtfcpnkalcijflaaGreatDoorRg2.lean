/- The document's table in memory, and plain laws of what its methods tell. No condition. -/
import Derived.Test.YtfcpnkalcijflaaGreatDoorRg1
import Derived.Test.YtfcpnkalcijflaaGreatDoorGrA
namespace Go.Proofs.YtfcpnkalcijflaaGreatDoor
open Go.RowKit
/-- The document's table of the entries L, at rb; Z: the blocks that are its own. -/
def RefZ (base : Nat) (w : World) (rb : Nat) (L : List En) (Z : Nat → Prop) : Prop := ∃ a cap, w.heap[rb]? = some (.cells #[.slice a L.length cap] 29 (0, 0)) ∧ base ≤ rb ∧ OwnC w base 49 4 (.slice a L.length cap) L.length (L.flatMap enL) ∧ (∀ q, (Value.slice a L.length cap).ownBlock = some q → q ≠ rb) ∧ ∀ k, Z k ↔ k = rb ∨ (Value.slice a L.length cap).ownBlock = some k
theorem own_mono {w : World} {base b : Nat} {e : TypeId} {z n : Nat} {v : Value} {xs : List Value} (h : OwnC w b e z v n xs) (hb : base ≤ b) : OwnC w base e z v n xs := by
  obtain ⟨hl, h | ⟨g, cap, cur, h1, h2, h3⟩⟩ := h
  · exact ⟨hl, .inl h⟩
  · exact ⟨hl, .inr ⟨g, cap, cur, h1, Nat.le_trans hb h2, h3⟩⟩
section
variable {base rb : Nat} {w w' : World} {L : List En} {Z : Nat → Prop}
theorem RefZ.off {B : Nat → Prop} (h : RefZ base w rb L Z) (hO : OffB B w w') (hZ : ∀ q, B q → ¬ Z q) : RefZ base w' rb L Z := by
  obtain ⟨a, cap, h1, h2, h3, h4, h5⟩ := h
  refine ⟨a, cap, ?_, h2, h3.offB hO (fun q hq hB => hZ q hB ((h5 q).2 (.inr hq))), h4, h5⟩
  exact (hO.block rb (Array.getElem?_eq_some_iff.1 h1).1 (fun hB => hZ rb hB ((h5 rb).2 (.inl rfl)))).trans h1
theorem RefZ.ext (h : RefZ base w rb L Z) (hE : Ext w w') : RefZ base w' rb L Z := h.off (B := fun _ => False) (.of_ext hE) (fun _ h => h.elim)
theorem RefZ.lt (h : RefZ base w rb L Z) {k : Nat} (hk : Z k) : k < w.heap.size := by
  obtain ⟨a, cap, h1, h2, h3, h4, h5⟩ := h
  rcases (h5 k).1 hk with rfl | hq
  · exact (Array.getElem?_eq_some_iff.1 h1).1
  · exact (h3.lt k hq).2
theorem RefZ.ge (h : RefZ base w rb L Z) {k : Nat} (hk : Z k) : base ≤ k := by
  obtain ⟨a, cap, h1, h2, h3, h4, h5⟩ := h
  rcases (h5 k).1 hk with rfl | hq
  · exact h2
  · exact (h3.lt k hq).1
/-- What a method reads: the list's slice in the table's cell, and its row, in all later worlds. -/
theorem RefZ.sees (h : RefZ base w rb L Z) : ∃ a cap, (∀ W, Ext w W → W.cell? ⟨rb, 0, none⟩ = some (.slice a L.length cap)) ∧ (∀ W, Ext w W → RowIs W 4 (.slice a L.length cap) L.length (L.flatMap enL)) ∧ (L.length ≤ cap) ∧ cap ≤ maxLen := by
  obtain ⟨a, cap, h1, h2, h3, h4, h5⟩ := h
  refine ⟨a, cap, fun W hE => ?_, fun W hE => (h3.ext hE).row, ?_⟩
  · rw [cell_of_row _ _ _ _ _ _ (hE.row h1)]; rfl
  · obtain ⟨hl, ⟨e, e0⟩ | ⟨g, c, cur, e, _, _, h6, h7, _⟩⟩ := h3
    · injection e with _ e1 e2
      subst e2
      rw [e0]
      exact ⟨Nat.le_refl _, Nat.zero_le _⟩
    · injection e with _ e1 e2
      subst e2
      exact ⟨h6, h7⟩
end
def geL (l : List En) (m : Mk) : List En := l.filter fun e => !e.mark.ltB m
theorem geL_rest {L : List En} (hr : Rises L) (m : Mk) : geL L m = restL L m := by
  unfold geL
  conv => lhs; rw [← ahead_rest L m]
  rw [List.filter_append]
  have h1 : (aheadL L m).filter (fun e => !e.mark.ltB m) = [] := List.filter_eq_nil_iff.2 fun e he => by simp [ahead_lt he]
  have h2 : (restL L m).filter (fun e => !e.mark.ltB m) = restL L m := List.filter_eq_self.2 fun e he => by simp [rest_ge hr he]
  rw [h1, h2]
  rfl
theorem geL_succ {L : List En} {m : Mk} {i : Nat} {x : En} (hx : L[i]? = some x) : geL (L.take (i + 1)) m = geL (L.take i) m ++ if x.mark.ltB m then [] else [x] := by
  unfold geL
  rw [List.take_add_one, hx, List.filter_append]
  congr 1
  cases h : x.mark.ltB m <;> simp [h]
theorem geL_end {L : List En} (hr : Rises L) {m : Mk} {n : Nat} (hj : (geL L m).length ≤ n) : geL L m = (restL L m).take n := by
  rw [← geL_rest hr, List.take_of_length_le hj]
theorem geL_cut {L : List En} (hr : Rises L) {m : Mk} {i n : Nat} (hj : (geL (L.take i) m).length = n) : geL (L.take i) m = (restL L m).take n := by
  rw [← geL_rest hr]
  have : geL L m = geL (L.take i) m ++ geL (L.drop i) m := by
    unfold geL
    rw [← List.filter_append, List.take_append_drop]
  rw [this, List.take_left' hj]
theorem geL_le (L : List En) (m : Mk) (i : Nat) : (geL (L.take i) m).length ≤ i := Nat.le_trans (List.length_filter_le _ _) (by rw [List.length_take]; omega)
theorem szL_succ {L : List En} {i : Nat} {x : En} (hx : L[i]? = some x) : szL (L.take (i + 1)) = szL (L.take i) + (x.mark.key.size + x.val.size) := by
  have happ : ∀ a b : List En, szL (a ++ b) = szL a + szL b := fun a b => by
    induction a with
    | nil => simp [szL]
    | cons y r ih => simp only [List.cons_append, szL, ih]; omega
  rw [List.take_add_one, hx, happ]
  simp [szL]
theorem szL_le {L : List En} {c : Nat} (h : ∀ e ∈ L, e.mark.key.size + e.val.size ≤ c) : szL L ≤ c * L.length := by
  induction L with
  | nil => simp [szL]
  | cons x r ih =>
    have h1 := h x (List.mem_cons_self ..)
    have h2 := ih (fun e he => h e (List.mem_cons_of_mem _ he))
    simp only [szL, List.length_cons, Nat.mul_add, Nat.mul_one]
    omega
/-- The mark stands there just if it stands behind what is ahead of it. -/
theorem there_head {L : List En} (hr : Rises L) (m : Mk) : thereB L m = match L[(aheadL L m).length]? with | none => false | some y => sameB y.mark m := by
  cases hth : thereB L m with
  | true =>
    obtain ⟨e, he, hm⟩ := there_iff.1 hth
    have h1 := none_has hr (m := m)
    cases hy : L[(aheadL L m).length]? with
    | none => exact absurd hm (h1 (fun y h => by rw [hy] at h; cases h) e he)
    | some y =>
      by_cases hym : y.mark = m
      · exact (same_iff.2 hym).symm
      · exact absurd hm (h1 (fun z h => by rw [hy] at h; injection h with h; rw [← h]; exact hym) e he)
  | false =>
    cases hy : L[(aheadL L m).length]? with
    | none => rfl
    | some y =>
      cases hs : sameB y.mark m with
      | false => exact hs.symm
      | true =>
        have := there_iff.2 ⟨y, List.mem_of_getElem? hy, same_iff.1 hs⟩
        rw [hth] at this; cases this
end Go.Proofs.YtfcpnkalcijflaaGreatDoor
