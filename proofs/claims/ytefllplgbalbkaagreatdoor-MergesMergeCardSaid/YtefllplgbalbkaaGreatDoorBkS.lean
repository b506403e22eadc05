/- A book: begun, kept in, asked. No condition. -/
import Derived.Test.YtefllplgbalbkaaGreatDoorBkA
import Derived.Test.YtefllplgbalbkaaGreatDoorGrC
namespace Go.Proofs.YtefllplgbalbkaaGreatDoor
open Go.RowKit
set_option maxRecDepth 100000
set_option maxHeartbeats 2000000
/-- A book that keeps these lists, made ahead of it. -/
def BkS (base g n : Nat) (L : List Value) (w : World) : Prop := ∃ T N0, BkI bkT base N0 g n T (fun _ => 0) w ∧ (∀ j q, (T j).1.ownBlock = some q → g < q) ∧ (∀ j q, LP (T j) q → ∃ v ∈ L, v.ownBlock = some q) ∧ (∀ j, j ≠ 3 → j ≠ 6 → j ≠ 8 → (T j).1 = .slice none 0 0) ∧ (∀ j x, x ∈ (T j).2 → x.num ≤ n) ∧ ∀ j, (T j).2.length ≤ n
theorem BkS.ext {base g n : Nat} {L : List Value} {w w' : World} (h : BkS base g n L w) (he : Ext w w') : BkS base g n L w' := by
  obtain ⟨T, N0, h1, h2⟩ := h
  exact ⟨T, N0, h1.ext he, h2⟩
theorem BkS.base_le {base g n : Nat} {L : List Value} {w : World} (h : BkS base g n L w) : base ≤ w.heap.size := by
  obtain ⟨T, N0, h1, h2⟩ := h
  exact Nat.le_trans h1.gb (Nat.le_trans (Nat.le_of_lt h1.gN) h1.big)
theorem BkS.start {base g : Nat} {w : World} (hr : w.heap[g]? = some (.cells (bkRow 0 fun _ => (.slice none 0 0, [])) 46 (0, 0))) (hg : base ≤ g) : BkS base g 0 [] w := by
  have hgw : g < w.heap.size := (Array.getElem?_eq_some_iff.1 hr).1
  have no : ∀ q, ¬ FP ((.slice none 0 0, []) : Kd) q := fun q hq => by
    rcases hq with h | ⟨v, h, _⟩
    · cases h
    · cases h
  have hB : BkI bkT base (g + 1) g 0 (fun _ => (.slice none 0 0, [])) (fun _ => 0) w := ⟨hr, hg, by omega, hgw, fun _ q hq => (no q hq).elim, fun _ => OwnC.nil _ _ _ _, (fun _ _ hx => nomatch hx), fun _ hq => no _ hq, (fun _ _ hv => nomatch hv), fun _ => .nil, fun _ _ _ q hq => (no q hq).elim⟩
  refine ⟨_, _, hB, ?_, ?_, ?_, ?_, ?_⟩
  · intro _ _ h; cases h
  · rintro _ _ ⟨_, h, _⟩; cases h
  · intro _ _ _ _; rfl
  · intro _ _ h; cases h
  · intro _; exact Nat.le_refl _
theorem BkS.kept {base g n N1 : Nat} {L : List Value} {w w' : World} {T : Nat → Kd} (h2 : ∀ j q, (T j).1.ownBlock = some q → g < q) (h3 : ∀ j q, LP (T j) q → ∃ v ∈ L, v.ownBlock = some q) (h4 : ∀ j, j ≠ 3 → j ≠ 6 → j ≠ 8 → (T j).1 = .slice none 0 0) (h5 : ∀ j x, x ∈ (T j).2 → x.num ≤ n) (h6 : ∀ j, (T j).2.length ≤ n) (i : Nat) (hi : i = 3 ∨ i = 6 ∨ i = 8) (x v' : Value) (len : Nat) (hgw : g < w.heap.size) (hv : ∀ q, v'.ownBlock = some q → (T i).1.ownBlock = some q ∨ w.heap.size ≤ q) (hB : BkI bkT base N1 g (n + 1) (upd T i (v', (T i).2 ++ [⟨x, len, n + 1, .slice none 0 0⟩])) (fun _ => 0) w') : BkS base g (n + 1) (x :: L) w' := by
  refine ⟨_, _, hB, fun j q hq => ?_, fun j q hq => ?_, fun j j3 j6 j8 => ?_, fun j y hy => ?_, fun j => ?_⟩
  · by_cases hj : j = i
    · subst hj
      rw [upd_same] at hq
      rcases hv q hq with h | h
      · exact h2 _ _ h
      · omega
    · rw [upd_ne _ _ hj] at hq
      exact h2 _ _ hq
  · by_cases hj : j = i
    · subst hj
      rw [upd_same] at hq
      obtain ⟨v, hv, hq⟩ := hq
      unfold sls at hv
      rw [List.map_append] at hv
      rcases List.mem_append.1 hv with hv | hv
      · obtain ⟨u, hu, hq⟩ := h3 j q ⟨v, hv, hq⟩
        exact ⟨u, List.mem_cons_of_mem _ hu, hq⟩
      · rw [List.mem_singleton.1 hv] at hq
        exact ⟨x, List.mem_cons_self, hq⟩
    · rw [upd_ne _ _ hj] at hq
      obtain ⟨u, hu, hq⟩ := h3 j q hq
      exact ⟨u, List.mem_cons_of_mem _ hu, hq⟩
  · rw [upd_ne _ _ (by omega)]
    exact h4 j j3 j6 j8
  · by_cases hj : j = i
    · subst hj
      rw [upd_same] at hy
      rcases List.mem_append.1 hy with hy | hy
      · have := h5 j y hy; omega
      · rw [List.mem_singleton.1 hy]; exact Nat.le_refl _
    · rw [upd_ne _ _ hj] at hy
      have := h5 j y hy; omega
  · by_cases hj : j = i
    · subst hj
      rw [upd_same]
      rw [List.length_append]
      have := h6 j
      simp only [List.length_cons, List.length_nil]
      omega
    · rw [upd_ne _ _ hj]
      have := h6 j; omega
theorem fp_no {g : Nat} {L : List Value} {T : Nat → Kd} (h2 : ∀ j q, (T j).1.ownBlock = some q → g < q) (h3 : ∀ j q, LP (T j) q → ∃ v ∈ L, v.ownBlock = some q) {x : Value} (hg : ∀ q, x.ownBlock = some q → q < g) (hs : ∀ v ∈ L, Sep x v) : ∀ j q, x.ownBlock = some q → ¬ FP (T j) q := fun j q hq hF => by
  rcases hF with h | h
  · have := h2 j q h; have := hg q hq; omega
  · obtain ⟨v, hv, h⟩ := h3 j q h
    exact hs v hv q hq h
def BkE (base g n : Nat) (L : List Value) (w : World) (e : Ending) (w' : World) : Prop := e = .returned (.tuple #[]) ∧ Below base w w' ∧ OffB (fun q => g ≤ q) w w' ∧ BkS base g n L w'
theorem bookE_any {base g n : Nat} {L : List Value} {w : World} (h : BkS base g n L w) (hn : n < 90) (a : Option Addr) (len cap : Nat) (xs : List Value) (hx : OwnC w base 69 4 (.slice a len cap) len xs) (hl : len ≤ 1000000) (hg : ∀ q, (Value.slice a len cap).ownBlock = some q → q < g) (hs : ∀ v ∈ L, Sep (.slice a len cap) v) :
    Calls Tryz.prog 12 #[.pointer (some ⟨g, 0, none⟩), .slice a len cap] w (BkE base g (n + 1) (.slice a len cap :: L) w) := by
  obtain ⟨T, N0, h1, h2, h3, h4, h5, h6⟩ := h
  have hgw : g < w.heap.size := (Array.getElem?_eq_some_iff.1 h1.row).1
  have hk := Lib.hid (keepEntry_any h1 (fun _ => rfl) (by omega) (by have := h6 8; omega) a len cap ⟨xs, hx⟩ hl (fun e => by have := hg g e; omega) (fp_no h2 h3 hg hs))
  have hfin : Hid (∀ v' w', (∀ q, v'.ownBlock = some q → (T 8).1.ownBlock = some q ∨ w.heap.size ≤ q) → BkI bkT base w'.heap.size g (n + 1) (upd T 8 (v', (T 8).2 ++ [⟨.slice a len cap, len, n + 1, .slice none 0 0⟩])) (fun _ => 0) w' → BkS base g (n + 1) (.slice a len cap :: L) w') := Lib.hid (fun v' w' hv hB => BkS.kept h2 h3 h4 h5 h6 8 (by omega) _ v' len hgw hv hB)
  have h8 := Lib.hid (h2 8)
  clear h1 h2 h3 h4 h5 h6 hx hg hs
  go_enter Tryz.func12, Tryz.ntmps12
  go_wp2_with fail
  refine hk.out.mono ?_
  rintro e w' ⟨rfl, hb, hO, v', hv, hB⟩
  have hO2 : OffB (fun q => g ≤ q) w w' := hO.mono fun q hq => by
    rcases hq with h | h
    · exact Nat.le_of_eq h.symm
    · exact Nat.le_of_lt (h8.out q h)
  have hS := hfin.out v' w' hv hB
  clear hk hfin hv hB hO
  go_wp2_with fail
  go_end0
  exact ⟨rfl, hb, hO2, hS⟩
theorem bookR_any {base g n : Nat} {L : List Value} {w : World} (h : BkS base g n L w) (hn : n < 90) (a : Option Addr) (len cap : Nat) (xs : List Value) (hx : OwnC w base 74 2 (.slice a len cap) len xs) (hl : len ≤ 1000000) (hg : ∀ q, (Value.slice a len cap).ownBlock = some q → q < g) (hs : ∀ v ∈ L, Sep (.slice a len cap) v) :
    Calls Tryz.prog 13 #[.pointer (some ⟨g, 0, none⟩), .slice a len cap] w (BkE base g (n + 1) (.slice a len cap :: L) w) := by
  obtain ⟨T, N0, h1, h2, h3, h4, h5, h6⟩ := h
  have hgw : g < w.heap.size := (Array.getElem?_eq_some_iff.1 h1.row).1
  have hk := Lib.hid (keepRow_any h1 (fun _ => rfl) (by omega) (by have := h6 6; omega) a len cap ⟨xs, hx⟩ hl (fun e => by have := hg g e; omega) (fp_no h2 h3 hg hs))
  have hfin : Hid (∀ v' w', (∀ q, v'.ownBlock = some q → (T 6).1.ownBlock = some q ∨ w.heap.size ≤ q) → BkI bkT base w'.heap.size g (n + 1) (upd T 6 (v', (T 6).2 ++ [⟨.slice a len cap, len, n + 1, .slice none 0 0⟩])) (fun _ => 0) w' → BkS base g (n + 1) (.slice a len cap :: L) w') := Lib.hid (fun v' w' hv hB => BkS.kept h2 h3 h4 h5 h6 6 (by omega) _ v' len hgw hv hB)
  have h8 := Lib.hid (h2 6)
  clear h1 h2 h3 h4 h5 h6 hx hg hs
  go_enter Tryz.func13, Tryz.ntmps13
  go_wp2_with fail
  refine hk.out.mono ?_
  rintro e w' ⟨rfl, hb, hO, v', hv, hB⟩
  have hO2 : OffB (fun q => g ≤ q) w w' := hO.mono fun q hq => by
    rcases hq with h | h
    · exact Nat.le_of_eq h.symm
    · exact Nat.le_of_lt (h8.out q h)
  have hS := hfin.out v' w' hv hB
  clear hk hfin hv hB hO
  go_wp2_with fail
  go_end0
  exact ⟨rfl, hb, hO2, hS⟩
theorem bookN_any {base g n : Nat} {L : List Value} {w : World} (h : BkS base g n L w) (hn : n < 90) (a : Option Addr) (len cap : Nat) (xs : List Value) (hx : OwnC w base 23 1 (.slice a len cap) len xs) (hl : len ≤ 1000000) (hg : ∀ q, (Value.slice a len cap).ownBlock = some q → q < g) (hs : ∀ v ∈ L, Sep (.slice a len cap) v) :
    Calls Tryz.prog 20 #[.pointer (some ⟨g, 0, none⟩), .slice a len cap] w (BkE base g (n + 1) (.slice a len cap :: L) w) := by
  obtain ⟨T, N0, h1, h2, h3, h4, h5, h6⟩ := h
  have hgw : g < w.heap.size := (Array.getElem?_eq_some_iff.1 h1.row).1
  have hk := Lib.hid (keepNum_any h1 (fun _ => rfl) (by omega) (by have := h6 3; omega) a len cap ⟨xs, hx⟩ hl (fun e => by have := hg g e; omega) (fp_no h2 h3 hg hs))
  have hfin : Hid (∀ v' w', (∀ q, v'.ownBlock = some q → (T 3).1.ownBlock = some q ∨ w.heap.size ≤ q) → BkI bkT base w'.heap.size g (n + 1) (upd T 3 (v', (T 3).2 ++ [⟨.slice a len cap, len, n + 1, .slice none 0 0⟩])) (fun _ => 0) w' → BkS base g (n + 1) (.slice a len cap :: L) w') := Lib.hid (fun v' w' hv hB => BkS.kept h2 h3 h4 h5 h6 3 (by omega) _ v' len hgw hv hB)
  have h8 := Lib.hid (h2 3)
  clear h1 h2 h3 h4 h5 h6 hx hg hs
  go_enter Tryz.func20, Tryz.ntmps20
  go_wp2_with fail
  refine hk.out.mono ?_
  rintro e w' ⟨rfl, hb, hO, v', hv, hB⟩
  have hO2 : OffB (fun q => g ≤ q) w w' := hO.mono fun q hq => by
    rcases hq with h | h
    · exact Nat.le_of_eq h.symm
    · exact Nat.le_of_lt (h8.out q h)
  have hS := hfin.out v' w' hv hB
  clear hk hfin hv hB hO
  go_wp2_with fail
  go_end0
  exact ⟨rfl, hb, hO2, hS⟩
theorem bookA_any {base g n : Nat} {L : List Value} {w : World} (h : BkS base g n L w) (hn : n < 100) : Calls Tryz.prog 14 #[.pointer (some ⟨g, 0, none⟩)] w fun e w' => e = .returned (.bool true) ∧ Below base w w' := by
  obtain ⟨T, N0, h1, h2, h3, h4, h5, h6⟩ := h
  exact apart_any h1 (fun j x hx => by have := h5 j x hx; omega) (fun j => by have := h6 j; omega) (h4 1 (by decide) (by decide) (by decide)) (h4 2 (by decide) (by decide) (by decide)) (h4 4 (by decide) (by decide) (by decide)) (h4 5 (by decide) (by decide) (by decide)) (h4 7 (by decide) (by decide) (by decide)) (h4 9 (by decide) (by decide) (by decide)) (h4 10 (by decide) (by decide) (by decide)) (h4 11 (by decide) (by decide) (by decide)) (h4 12 (by decide) (by decide) (by decide)) (h4 13 (by decide) (by decide) (by decide))
end Go.Proofs.YtefllplgbalbkaaGreatDoor
