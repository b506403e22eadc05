/- Slices of slices: what a cut from the front and a cut from the back read as, and their runs as equations for the walk. No condition. -/
import Derived.Test.YtjkikpfccmhfmaaKit2
namespace Go.Proofs.Ytjkikpfccmhfmaa
open Go.RowKit

/-- The address behind 'a[k:]'. -/
def tailAddr (a : Option Addr) (cap k size : Nat) : Option Addr := if cap = k then a else a.map (·.add (k * size))

theorem RowIs.take {w : World} {size : Nat} {a : Option Addr} {cap n : Nat} {xs : List Value} (h : RowIs w size (.slice a n cap) n xs) {k : Nat} (hk : k ≤ n) : RowIs w size (.slice a k cap) k (xs.take (k * size)) := by
  obtain ⟨h1, h2, h3⟩ := h
  have hks : k * size ≤ n * size := Nat.mul_le_mul_right _ hk
  refine ⟨by rw [List.length_take, h1]; omega, by omega, ?_⟩
  rcases h3 with ⟨h0, a', cap', he⟩ | ⟨b, off, cap', he, hc, hd⟩
  · exact .inl ⟨by omega, a, cap, by have : k = 0 := by omega
                                     rw [this]⟩
  · injection he with e1 _ e3
    subst e1; subst e3
    refine .inr ⟨b, off, cap, rfl, by omega, fun i hi => ?_⟩
    rw [hd i (by omega), List.getElem?_take_of_lt hi]

theorem RowIs.drop {w : World} {size : Nat} {a : Option Addr} {cap n : Nat} {xs : List Value} (h : RowIs w size (.slice a n cap) n xs) (k : Nat) : RowIs w size (.slice (tailAddr a cap k size) (n - k) (cap - k)) (n - k) (xs.drop (k * size)) := by
  obtain ⟨h1, h2, h3⟩ := h
  refine ⟨by rw [List.length_drop, h1, Nat.sub_mul], by omega, ?_⟩
  rcases h3 with ⟨h0, a', cap', he⟩ | ⟨b, off, cap', he, hc, hd⟩
  · exact .inl ⟨by omega, _, _, by rw [show n - k = 0 by omega]⟩
  · injection he with e1 _ e3
    subst e1; subst e3
    by_cases hkn : n ≤ k
    · exact .inl ⟨by omega, _, _, by rw [show n - k = 0 by omega]⟩
    · refine .inr ⟨b, off + k * size, cap - k, ?_, by omega, fun i hi => ?_⟩
      · unfold tailAddr
        rw [if_neg (by omega), Option.map_some, Addr.add_mid]
      · have e : (n - k) * size = n * size - k * size := Nat.sub_mul _ _ _
        rw [Nat.add_assoc, hd (k * size + i) (by omega), List.getElem?_drop]

theorem run_cut_front {P : Program} {t e : TypeId} {size : Nat} (ht : P.underlying t = some (.slice e)) (he : (P.info? e).map (·.size) = some size) (a : Option Addr) (n cap k : Nat) (hk : k ≤ cap) (w : World) :
    (Instr.slice t (.slice a n cap) none (some (.int .i64 (k : Int))) none).run P w = .ok (.slice a k cap) w := by
  have hel : P.elem t = e := by simp [Program.elem, ht]
  have ht' : P.underlying t = some (.slice (P.elem t)) := by rw [hel]; exact ht
  have hs : (sizeOf e).run P w = .ok size w := by
    cases hq : P.info? e with
    | none => simp [hq] at he
    | some i => simp [hq] at he; simp [sizeOf, typeInfo, hq, he]
  rw [run_slice_h w t a n cap ht' .i64 (k : Int) (by omega) (by omega), hel, hs]
  simp only [Result.andThen_ok, sliced, Int.toNat_natCast, Nat.zero_mul, Nat.sub_zero]
  congr 2
  split
  · rfl
  · cases a <;> simp [Addr.add]

theorem run_cut_back {P : Program} {t e : TypeId} {size : Nat} (ht : P.underlying t = some (.slice e)) (he : (P.info? e).map (·.size) = some size) (a : Option Addr) (n cap k : Nat) (hk : k ≤ n) (w : World) :
    (Instr.slice t (.slice a n cap) (some (.int .i64 (k : Int))) none none).run P w = .ok (.slice (tailAddr a cap k size) (n - k) (cap - k)) w := by
  have hel : P.elem t = e := by simp [Program.elem, ht]
  have ht' : P.underlying t = some (.slice (P.elem t)) := by rw [hel]; exact ht
  have hs : (sizeOf e).run P w = .ok size w := by
    cases hq : P.info? e with
    | none => simp [hq] at he
    | some i => simp [hq] at he; simp [sizeOf, typeInfo, hq, he]
  rw [run_slice_l w t a n cap ht' .i64 (k : Int) (by omega) (by omega), hel, hs]
  simp only [Result.andThen_ok, sliced, Int.toNat_natCast, tailAddr]
/-- A callee's contract, in a region's class of worlds. -/
theorem calls_same {P : Program} {f : FuncId} {args : Array Value} {W w : World} {v : Value} (h : Ext W w) (c : Calls P f args w fun e w' => e = .returned v ∧ w = w') : Calls P f args w fun e w' => e = .returned v ∧ Ext W w' :=
  c.mono fun _ _ ⟨he, hw⟩ => ⟨he, hw ▸ h⟩
theorem calls_ext {P : Program} {f : FuncId} {args : Array Value} {W w : World} {v : Value} (h : Ext W w) (c : Calls P f args w fun e w' => e = .returned v ∧ Ext w w') : Calls P f args w fun e w' => e = .returned v ∧ Ext W w' :=
  c.mono fun _ _ ⟨he, hw⟩ => ⟨he, h.trans hw⟩
end Go.Proofs.Ytjkikpfccmhfmaa
