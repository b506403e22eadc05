import Derived.Test.YtdkhcamckjidcaaSuf5
namespace Go.Proofs.Ytdkhcamckjidcaa
open Go.RowKit
/-- A suffix that has the items g (f + 1), .., g (f + m). -/
def SufOf (w : World) (b f m : Nat) (g : Nat → It) : Prop := ∃ R, SufAt w b f m R ∧ m ≤ 256 ∧ f + m < 18446744073709551615 ∧ ∀ k, f < k → k ≤ f + m → Held (fun k => k = b) w (g k) (R (k % 256))
theorem SufOf.off {B : Nat → Prop} {w w' : World} {b f m : Nat} {g : Nat → It} (h : SufOf w b f m g) (he : OffB B w w') (hb : ¬ B b) (hB : ∀ k, B k → w.heap.size ≤ k) : SufOf w' b f m g := by
  obtain ⟨R, h1, h2, h3, h4⟩ := h
  exact ⟨R, h1.off he hb, h2, h3, fun k hk hk2 => (h4 k hk hk2).off (he.past (fun k hk hBk => by have := hB k hBk; omega))⟩
theorem SufOf.ext {w w' : World} {b f m : Nat} {g : Nat → It} (h : SufOf w b f m g) (he : Ext w w') : SufOf w' b f m g :=
  h.off (B := fun _ => False) (.of_ext he) id (fun _ hB => hB.elim)
theorem SufOf.lt {w : World} {b f m : Nat} {g : Nat → It} (h : SufOf w b f m g) : b < w.heap.size := by
  obtain ⟨R, h1, _⟩ := h; exact h1.lt
theorem SufOf.new (w : World) (f : Nat) (hf : f < 18446744073709551615) (g : Nat → It) : SufOf (w.alloc (.cells (sufZero f) 74)) w.heap.size f 0 g :=
  ⟨_, SufAt.new w f, by omega, by omega, fun k h1 h2 => by omega⟩
theorem suf_add {w : World} {b f m : Nat} {g : Nat → It} (h : SufOf w b f m g) (hm : m < 256) (hf : f + m + 1 < 18446744073709551615) (x : It) (hx : x.idx = f + m + 1) (hg : g (f + m + 1) = x) (a : Option Addr) (cap : Nat) (hr : RowIs w 3 (.slice a x.chs.length cap) x.chs.length (x.chs.flatMap Ch.cells)) (hn : x.chs.length * 40 ≤ 140737488351232) :
    Calls Try.prog 10 #[.pointer (some ⟨b, 0, none⟩), .agg (x.row (.slice a x.chs.length cap))] w fun e w' => e = .returned (.int .i64 0) ∧ SufOf w' b f (m + 1) g ∧ OffB (fun k => k = b) w w' := by
  obtain ⟨R, h1, h2, h3, h4⟩ := h
  refine (add_ok w b f m R h1 hm (by omega) x a _ cap hr hn hx).mono ?_
  rintro e w' ⟨rfl, a', cap', hS, hc, hR, hF, hE⟩
  refine ⟨rfl, ⟨_, by simpa using hS, by omega, by omega, fun k k1 k2 => ?_⟩, hE⟩
  by_cases hk : k = f + m + 1
  · subst hk
    simp only [if_true]
    rw [hg]
    exact ⟨a', cap', rfl, hc, hn, hR, hF.out (fun k hk => by subst hk; exact h1.lt)⟩
  · have : ¬ k % 256 = (f + m + 1) % 256 := by omega
    simp only [if_neg this]
    exact (h4 k k1 (by omega)).off hE
theorem suf_add_arg {w : World} {b f m : Nat} {g : Nat → It} (h : SufOf w b f m g) (x : It) (v : Value) (hx : x.idx ≠ f + m + 1) :
    Calls Try.prog 10 #[.pointer (some ⟨b, 0, none⟩), .agg (x.row v)] w fun e w' => e = .returned (.int .i64 1) ∧ SufOf w' b f m g ∧ Ext w w' := by
  have h0 := h
  obtain ⟨R, h1, h2, h3, h4⟩ := h
  exact (add_arg w b f m R h1 h2 h3 x v hx).mono fun e w' ⟨he, hE⟩ => ⟨he, h0.ext hE, hE⟩
theorem suf_add_full {w : World} {b f m : Nat} {g : Nat → It} (h : SufOf w b f m g) (hm : m = 256) (x : It) (v : Value) (hx : x.idx = f + m + 1) :
    Calls Try.prog 10 #[.pointer (some ⟨b, 0, none⟩), .agg (x.row v)] w fun e w' => e = .returned (.int .i64 6) ∧ SufOf w' b f m g ∧ Ext w w' := by
  have h0 := h
  obtain ⟨R, h1, h2, h3, h4⟩ := h
  exact (add_full w b f m R h1 hm h3 x v hx).mono fun e w' ⟨he, hE⟩ => ⟨he, h0.ext hE, hE⟩
theorem suf_heard {w : World} {b f m : Nat} {g : Nat → It} (h : SufOf w b f m g) (i : Nat) (hi : i ≤ f + m) :
    Calls Try.prog 11 #[.pointer (some ⟨b, 0, none⟩), .int .u64 (i : Int)] w fun e w' => e = .returned (.int .i64 0) ∧ SufOf w' b (max f i) (f + m - max f i) g ∧ OffB (fun k => k = b) w w' := by
  obtain ⟨R, h1, h2, h3, h4⟩ := h
  refine (heard_ok w b f m R h1 h2 h3 i hi).mono ?_
  rintro e w' ⟨rfl, R', hS, hR, hE⟩
  refine ⟨rfl, ⟨R', hS, by omega, by omega, fun k k1 k2 => ?_⟩, hE⟩
  rw [hR k k1 (by omega)]
  exact (h4 k (by omega) (by omega)).off hE
theorem suf_heard_arg {w : World} {b f m : Nat} {g : Nat → It} (h : SufOf w b f m g) (i : Nat) (hi : f + m < i) :
    Calls Try.prog 11 #[.pointer (some ⟨b, 0, none⟩), .int .u64 (i : Int)] w fun e w' => e = .returned (.int .i64 1) ∧ SufOf w' b f m g ∧ Ext w w' := by
  have h0 := h
  obtain ⟨R, h1, h2, h3, h4⟩ := h
  exact (heard_arg w b f m R h1 h2 h3 i hi).mono fun e w' ⟨he, hw⟩ => ⟨he, hw ▸ h0.ext (Ext.refl _).drew, hw ▸ (Ext.refl _).drew⟩
theorem suf_first {w : World} {b f m : Nat} {g : Nat → It} (h : SufOf w b f m g) : Calls Try.prog 12 #[.pointer (some ⟨b, 0, none⟩)] w fun e w' => e = .returned (.int .u64 (f : Int)) ∧ w' = w := by
  obtain ⟨R, h1, h2, h3, h4⟩ := h
  exact first_any w b f m R h1
theorem suf_last {w : World} {b f m : Nat} {g : Nat → It} (h : SufOf w b f m g) : Calls Try.prog 13 #[.pointer (some ⟨b, 0, none⟩)] w fun e w' => e = .returned (.int .u64 ((f : Int) + (m : Int))) ∧ w' = w.drew := by
  obtain ⟨R, h1, h2, h3, h4⟩ := h
  exact last_any w b f m R h1 h2 (by omega)
theorem suf_from_none {w : World} {b f m : Nat} {g : Nat → It} (h : SufOf w b f m g) (i : Nat) (hi : i < f ∨ f + m < i) :
    Calls Try.prog 14 #[.pointer (some ⟨b, 0, none⟩), .int .u64 (i : Int)] w fun e w' => e = .returned (.tuple #[.slice none 0 0, .int .i64 7]) ∧ SufOf w' b f m g ∧ Ext w w' := by
  have h0 := h
  obtain ⟨R, h1, h2, h3, h4⟩ := h
  exact (from_none w b f m R h1 h2 h3 i hi).mono fun e w' ⟨he, hE⟩ => ⟨he, h0.ext hE, hE⟩
/-- What From tells: items in memory of the call's own. -/
def Told (w : World) (base : Nat) (a : Option Addr) (L : List (It × Option Addr × Nat)) : Prop :=
  RowIs w 11 (.slice a L.length L.length) L.length (L.flatMap outRow) ∧ Fresh base a ∧ ∀ p ∈ L, RowIs w 3 (.slice p.2.1 p.1.chs.length p.1.chs.length) p.1.chs.length (p.1.chs.flatMap Ch.cells) ∧ Fresh base p.2.1
theorem suf_from {w : World} {b f m : Nat} {g : Nat → It} (h : SufOf w b f m g) (i : Nat) (hi : f ≤ i) (him : i ≤ f + m) :
    Calls Try.prog 14 #[.pointer (some ⟨b, 0, none⟩), .int .u64 (i : Int)] w fun e w' => ∃ (a : Option Addr) (L : List (It × Option Addr × Nat)), e = .returned (.tuple #[.slice a L.length L.length, .int .i64 0]) ∧ L.map (·.1) = (List.range (f + m - i)).map (fun d => g (i + d + 1)) ∧ Told w' w.heap.size a L ∧ SufOf w' b f m g ∧ Ext w w' := by
  have h0 := h
  obtain ⟨R, h1, h2, h3, h4⟩ := h
  exact (from_ok w b f m R h1 h2 h3 i hi him g h4).mono fun e w' ⟨a, L, he, hm, hr, hf, hp, hE⟩ => ⟨a, L, he, hm, ⟨hr, hf, hp⟩, h0.ext hE, hE⟩
end Go.Proofs.Ytdkhcamckjidcaa
