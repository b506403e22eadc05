/- What the laws of bucketlinelaw12 call, told in short. No condition. -/
import Derived.Test.YtlgnpfchblgpoaaMgE
import Derived.Test.YtlgnpfchblgpoaaPm4
namespace Go.Proofs.Ytlgnpfchblgpoaa
open Go.RowKit
theorem many_len {l : List En} (h : manyB l = false) : l.length ≤ 150 := by
  unfold manyB at h
  rw [Bool.or_eq_false_iff, decide_eq_false_iff_not] at h
  omega
def SeeO (W : World) (L : List En) (s : Nat) (e : Ending) (w' : World) : Prop := ∃ a cap n, e = .returned (.tuple #[.slice a n cap, .int .i64 0]) ∧ Hid (n = (seeL L s).length) ∧ RwIs w' (.slice a n cap) (seeL L s) ∧ Ext W w'
theorem see_ok (W : World) (L : List En) (s : Nat) (v : Value) (hS : SlIs W v L) (hr : risesB L = true) (hn : L.length ≤ 1000) : Calls Try.prog 17 #[v, .int .u64 (s : Int)] W (SeeO W L s) := by
  obtain ⟨a, c, rfl, h1⟩ := hS
  refine (see_any W L s a c ⟨a, c, rfl, h1⟩ (by omega)).mono ?_
  rintro e w' ⟨hE, _, h2⟩
  obtain ⟨a', c', rfl, hown⟩ := h2 hr
  exact ⟨a', c', _, rfl, Lib.hid rfl, ⟨a', c', rfl, hown.row⟩, hE⟩
def ThinO (W : World) (L : List En) (looks : List Nat) (last : Bool) (e : Ending) (w' : World) : Prop := ∃ a cap n, e = .returned (.tuple #[.slice a n cap, .int .i64 0]) ∧ Hid (n = (thinL L looks last).length) ∧ SlIs w' (.slice a n cap) (thinL L looks last) ∧ Ext W w'
theorem thin_ok (W : World) (L : List En) (looks : List Nat) (last : Bool) (v : Value) (ka : Option Addr) (kn kc : Nat) (hS : SlIs W v L) (hk : kn = looks.length) (hK : RowIs W 1 (.slice ka kn kc) kn (nuL looks)) (hr : risesB L = true) (hn : L.length ≤ 1000) (hkb : kn ≤ 1000) (hsq : ∀ e ∈ L, e.mark.seq ≤ 18446744073709551615) : Calls Try.prog 15 #[v, .slice ka kn kc, .bool last] W (ThinO W L looks last) := by
  obtain ⟨a, c, rfl, h1⟩ := hS
  subst hk
  refine (thin_any W L looks last a ka c kc ⟨a, c, rfl, h1⟩ hK (by omega) (by omega) hsq).mono ?_
  rintro e w' ⟨hE, _, h2⟩
  obtain ⟨a', c', rfl, hown⟩ := h2 hr
  exact ⟨a', c', _, rfl, Lib.hid rfl, ⟨a', c', rfl, hown.row⟩, hE⟩
theorem thin_no (W : World) (L : List En) (looks : List Nat) (last : Bool) (v : Value) (ka : Option Addr) (kn kc : Nat) (hS : SlIs W v L) (hk : kn = looks.length) (hK : RowIs W 1 (.slice ka kn kc) kn (nuL looks)) (hr : risesB L = false) (hn : L.length ≤ 1000) (hkb : kn ≤ 1000) (hsq : ∀ e ∈ L, e.mark.seq ≤ 18446744073709551615) : Calls Try.prog 15 #[v, .slice ka kn kc, .bool last] W fun e w' => e = .returned (.tuple #[.slice none 0 0, .int .i64 1]) ∧ Ext W w' := by
  obtain ⟨a, c, rfl, h1⟩ := hS
  subst hk
  refine (thin_any W L looks last a ka c kc ⟨a, c, rfl, h1⟩ hK (by omega) (by omega) hsq).mono ?_
  rintro e w' ⟨hE, h2, _⟩
  exact ⟨h2 hr, hE⟩
theorem see_no (W : World) (L : List En) (s : Nat) (v : Value) (hS : SlIs W v L) (hr : risesB L = false) (hn : L.length ≤ 1000) : Calls Try.prog 17 #[v, .int .u64 (s : Int)] W fun e w' => e = .returned (.tuple #[.slice none 0 0, .int .i64 1]) ∧ Ext W w' := by
  obtain ⟨a, c, rfl, h1⟩ := hS
  refine (see_any W L s a c ⟨a, c, rfl, h1⟩ (by omega)).mono ?_
  rintro e w' ⟨hE, h2, _⟩
  exact ⟨h2 hr, hE⟩
theorem lris_ok (W : World) (L : List En) (v : Value) (hS : SlIs W v L) : Calls Try.prog 12 #[v] W fun e w' => e = .returned (.bool (risesB L)) ∧ Ext W w' := by
  obtain ⟨a, c, rfl, h1⟩ := hS
  exact lrises_any W L a c h1
theorem many_ok (W : World) (L : List En) (v : Value) (hS : SlIs W v L) (hg : ∀ x ∈ L, x.good) (hb : L.length * 48 ≤ 140737488351232) : Calls Try.prog 11 #[v] W fun e w' => e = .returned (.bool (manyB L)) ∧ Ext W w' := by
  obtain ⟨a, c, rfl, h1⟩ := hS
  exact many_any W L a c (fun x hx => (hg x hx).1) (by omega) h1
theorem good_seq {l : List En} (h : ∀ x ∈ l, x.good) : ∀ e ∈ l, e.mark.seq ≤ 18446744073709551615 := fun e he => by have := (h e he).2; omega
/-- SameEntries, whatever they are. -/
theorem same_ok (w : World) (l l' : List En) (v v' : Value) (h : SlIs w v l) (h' : SlIs w v' l') : Calls Try.prog 14 #[v, v'] w fun e w' => e = .returned (.bool (decide (l = l'))) ∧ Ext w w' := by
  obtain ⟨a, c, rfl, h1⟩ := h
  obtain ⟨a', c', rfl, h2⟩ := h'
  exact same_any w l l' a a' c c' h1 h2
theorem sameR_ok (w : World) (l l' : List Rw) (v v' : Value) (h : RwIs w v l) (h' : RwIs w v' l') : Calls Try.prog 18 #[v, v'] w fun e w' => e = .returned (.bool (decide (l = l'))) ∧ Ext w w' := by
  obtain ⟨a, c, rfl, h1⟩ := h
  obtain ⟨a', c', rfl, h2⟩ := h'
  exact srows_any w l l' a a' c c' h1 h2
end Go.Proofs.Ytlgnpfchblgpoaa
