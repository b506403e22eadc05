/- A book, with the zone that is its own: begun, kept in, asked; lists may be made behind it. No condition. -/
import Derived.Test.YtfcpnkalcijflaaGreatDoorBkA
import Derived.Test.YtfcpnkalcijflaaGreatDoorGrC
namespace Go.Proofs.YtfcpnkalcijflaaGreatDoor
open Go.RowKit
set_option maxRecDepth 100000
set_option maxHeartbeats 2000000
def bkIn (j : Nat) : Prop := j = 8
/-- A book that keeps n lists; Z: the blocks that are its own. -/
def BkZ (base g n : Nat) (w : World) (Z : Nat → Prop) : Prop := ∃ T N0, BkI bkT base N0 g n T (fun _ => 0) w ∧ (∀ k, Z k ↔ k = g ∨ ∃ j, FP (T j) k) ∧ (∀ j, ¬ bkIn j → (T j).1 = .slice none 0 0) ∧ (∀ j x, x ∈ (T j).2 → x.num ≤ n) ∧ ∀ j, (T j).2.length ≤ n
theorem BkI.off0 {base N0 g n : Nat} {T : Nat → Kd} {w w' : World} {B : Nat → Prop} (h : BkI bkT base N0 g n T (fun _ => 0) w) (hO : OffB B w w') (hb : ∀ q, B q → base ≤ q) (hZ : ∀ q, B q → ¬ (q = g ∨ ∃ j, FP (T j) q)) : BkI bkT base N0 g n T (fun _ => 0) w' := by
  refine ⟨?_, h.gb, h.gN, Nat.le_trans h.big hO.size, h.fpN, fun j => (h.hdr j).offB hO (fun q hq hB => hZ q hB (.inr ⟨j, .inl hq⟩)), fun j x hx => ?_, h.sepg, h.seph, h.sepl, h.sepx, fun W hW => h.tab W (Below.trans (hO.below hb h.base_le) hW)⟩
  · exact (hO.block g (Array.getElem?_eq_some_iff.1 h.row).1 (fun hB => hZ g hB (.inl rfl))).trans h.row
  · obtain ⟨⟨⟨ys, ky⟩, kn⟩, k2⟩ := h.lst j x hx
    exact ⟨⟨⟨ys, ky.offB hO (fun q hq hB => hZ q hB (.inr ⟨j, .inr ⟨x.sl, List.mem_map_of_mem hx, hq⟩⟩))⟩, kn⟩, k2⟩
section
variable {base g n : Nat} {w w' : World} {Z : Nat → Prop}
theorem BkZ.off {B : Nat → Prop} (h : BkZ base g n w Z) (hO : OffB B w w') (hb : ∀ q, B q → base ≤ q) (hZ : ∀ q, B q → ¬ Z q) : BkZ base g n w' Z := by
  obtain ⟨T, N0, h1, h2, h3⟩ := h
  exact ⟨T, N0, h1.off0 hO hb (fun q hq hz => hZ q hq ((h2 q).2 hz)), h2, h3⟩
theorem BkZ.ext (h : BkZ base g n w Z) (hE : Ext w w') : BkZ base g n w' Z := by
  obtain ⟨T, N0, h1, h2⟩ := h
  exact ⟨T, N0, h1.ext hE, h2⟩
theorem BkZ.base_le (h : BkZ base g n w Z) : base ≤ w.heap.size := by
  obtain ⟨T, N0, h1, _⟩ := h
  exact h1.base_le
theorem BkZ.ge (h : BkZ base g n w Z) {k : Nat} (hk : Z k) : base ≤ k := by
  obtain ⟨T, N0, h1, h2, _⟩ := h
  rcases (h2 k).1 hk with rfl | ⟨j, hj⟩
  · exact h1.gb
  · exact h1.fpb j k hj
theorem BkZ.lt (h : BkZ base g n w Z) {k : Nat} (hk : Z k) : k < w.heap.size := by
  obtain ⟨T, N0, h1, h2, _⟩ := h
  rcases (h2 k).1 hk with rfl | ⟨j, hj⟩
  · exact (Array.getElem?_eq_some_iff.1 h1.row).1
  · exact Nat.lt_of_lt_of_le (h1.fpN j k hj) h1.big
theorem BkZ.start (hr : w.heap[g]? = some (.cells (bkRow 0 fun _ => (.slice none 0 0, [])) 44 (0, 0))) (hg : base ≤ g) (ht : ∀ W, Below base w W → TabW W) : BkZ base g 0 w (fun k => k = g) := by
  have hgw : g < w.heap.size := (Array.getElem?_eq_some_iff.1 hr).1
  have no : ∀ q, ¬ FP ((.slice none 0 0, []) : Kd) q := fun q hq => by
    rcases hq with h | ⟨v, h, _⟩
    · cases h
    · cases h
  have hB : BkI bkT base (g + 1) g 0 (fun _ => (.slice none 0 0, [])) (fun _ => 0) w := ⟨hr, hg, by omega, hgw, fun _ q hq => (no q hq).elim, fun _ => OwnC.nil _ _ _ _, (fun _ _ hx => nomatch hx), fun _ hq => no _ hq, (fun _ _ hv => nomatch hv), fun _ => .nil, fun _ _ _ q hq => (no q hq).elim, ht⟩
  refine ⟨_, _, hB, fun k => ⟨.inl, fun hk => ?_⟩, ?_, ?_, ?_⟩
  · rcases hk with h | ⟨j, h⟩
    · exact h
    · exact (no k h).elim
  · intro _ _; rfl
  · intro _ _ h; cases h
  · intro _; exact Nat.le_refl _
theorem bkz_kept {N1 : Nat} {T : Nat → Kd} (h2 : ∀ k, Z k ↔ k = g ∨ ∃ j, FP (T j) k) (h4 : ∀ j, ¬ bkIn j → (T j).1 = .slice none 0 0) (h5 : ∀ j x, x ∈ (T j).2 → x.num ≤ n) (h6 : ∀ j, (T j).2.length ≤ n) (i : Nat) (hi : bkIn i) (x v' : Value) (len : Nat) (hv : ∀ q, v'.ownBlock = some q → (T i).1.ownBlock = some q ∨ w.heap.size ≤ q) (hB : BkI bkT base N1 g (n + 1) (upd T i (v', (T i).2 ++ [⟨x, len, n + 1, .slice none 0 0⟩])) (fun _ => 0) w') : ∃ Z', BkZ base g (n + 1) w' Z' ∧ ∀ k, Z' k → Z k ∨ x.ownBlock = some k ∨ w.heap.size ≤ k := by
  refine ⟨_, ⟨_, _, hB, fun k => Iff.rfl, fun j hj => ?_, fun j y hy => ?_, fun j => ?_⟩, fun k hk => ?_⟩
  · rw [upd_ne _ _ (fun e => hj (by rw [e]; exact hi))]
    exact h4 j hj
  · by_cases hj : j = i
    · subst hj
      rw [upd_same] at hy
      rcases List.mem_append.1 hy with hy | hy
      · have := h5 j y hy; omega
      · rw [List.mem_singleton.1 hy]; exact Nat.le_refl _
    · rw [upd_ne _ _ hj] at hy
      have := h5 j y hy; omega
  · by_cases hj : j = i
    · subst hj
      rw [upd_same]
      rw [List.length_append]
      have := h6 j
      simp only [List.length_cons, List.length_nil]
      omega
    · rw [upd_ne _ _ hj]
      have := h6 j; omega
  · rcases hk with rfl | ⟨j, hk⟩
    · exact .inl ((h2 _).2 (.inl rfl))
    · by_cases hj : j = i
      · subst hj
        rw [upd_same] at hk
        rcases hk with hk | ⟨u, hu, hk⟩
        · rcases hv k hk with h | h
          · exact .inl ((h2 k).2 (.inr ⟨j, .inl h⟩))
          · exact .inr (.inr h)
        · unfold sls at hu
          rw [List.map_append] at hu
          rcases List.mem_append.1 hu with hu | hu
          · exact .inl ((h2 k).2 (.inr ⟨j, .inr ⟨u, hu, hk⟩⟩))
          · rw [List.mem_singleton.1 hu] at hk
            exact .inr (.inl hk)
      · rw [upd_ne _ _ hj] at hk
        exact .inl ((h2 k).2 (.inr ⟨j, hk⟩))
/-- A list is kept. -/
def BkZE (base g n : Nat) (x : Value) (Z : Nat → Prop) (w : World) (e : Ending) (w' : World) : Prop := e = .returned (.tuple #[]) ∧ Below base w w' ∧ OffB Z w w' ∧ ∃ Z', BkZ base g n w' Z' ∧ ∀ k, Z' k → Z k ∨ x.ownBlock = some k ∨ w.heap.size ≤ k
theorem bookzEntry_any (h : BkZ base g n w Z) (hn : n < 900000) (a : Option Addr) (len cap : Nat) (xs : List Value) (hx : OwnC w base 49 4 (.slice a len cap) len xs) (hl : len ≤ 1000000) (hs : ∀ q, (Value.slice a len cap).ownBlock = some q → ¬ Z q) :
    Calls Tryz.prog 13 #[.pointer (some ⟨g, 0, none⟩), .slice a len cap] w (BkZE base g (n + 1) (.slice a len cap) Z w) := by
  obtain ⟨T, N0, h1, h2, h4, h5, h6⟩ := h
  have hk := Lib.hid (keepEntry_any h1 (fun _ => rfl) (by omega) (by have := h6 8; omega) a len cap ⟨xs, hx⟩ hl (fun e => hs g e ((h2 g).2 (.inl rfl))) (fun j q hq hF => hs q hq ((h2 q).2 (.inr ⟨j, hF⟩))))
  have hfin : Hid (∀ v' w', (∀ q, v'.ownBlock = some q → (T 8).1.ownBlock = some q ∨ w.heap.size ≤ q) → BkI bkT base w'.heap.size g (n + 1) (upd T 8 (v', (T 8).2 ++ [⟨.slice a len cap, len, n + 1, .slice none 0 0⟩])) (fun _ => 0) w' → ∃ Z', BkZ base g (n + 1) w' Z' ∧ ∀ k, Z' k → Z k ∨ (Value.slice a len cap).ownBlock = some k ∨ w.heap.size ≤ k) := Lib.hid (fun v' w' hv hB => bkz_kept h2 h4 h5 h6 8 (by unfold bkIn; decide) _ v' len hv hB)
  have h8 := Lib.hid h2
  clear h1 h2 h4 h5 h6 hx hs
  go_enter Tryz.func13, Tryz.ntmps13
  go_wp2_with fail
  refine hk.out.mono ?_
  rintro e w' ⟨rfl, hb, hO, v', hv, hB⟩
  have hO2 : OffB Z w w' := hO.mono fun q hq => by
    rcases hq with h | h
    · exact (h8.out q).2 (.inl h)
    · exact (h8.out q).2 (.inr ⟨8, .inl h⟩)
  have hS := hfin.out v' w' hv hB
  clear hk hfin hv hB hO
  go_wp2_with fail
  go_end0
  exact ⟨rfl, hb, hO2, hS⟩
theorem bookzA_any (h : BkZ base g n w Z) (hn : n < numTop) : Calls Tryz.prog 18 #[.pointer (some ⟨g, 0, none⟩)] w fun e w' => e = .returned (.bool true) ∧ Below base w w' := by
  have h10 : numTop ≤ 1000 := by decide
  obtain ⟨T, N0, h1, h2, h4, h5, h6⟩ := h
  exact apart_any h1 (fun j x hx => by have := h5 j x hx; omega) (fun j => by have := h6 j; omega) (h4 1 (by unfold bkIn; decide)) (h4 2 (by unfold bkIn; decide)) (h4 3 (by unfold bkIn; decide)) (h4 4 (by unfold bkIn; decide)) (h4 5 (by unfold bkIn; decide)) (h4 6 (by unfold bkIn; decide)) (h4 7 (by unfold bkIn; decide)) (h4 9 (by unfold bkIn; decide)) (h4 10 (by unfold bkIn; decide)) (h4 11 (by unfold bkIn; decide)) (h4 12 (by unfold bkIn; decide)) (h4 13 (by unfold bkIn; decide))
end
end Go.Proofs.YtfcpnkalcijflaaGreatDoor
