/- A map of whole numbers to slices of the call's own, told as a function of its keys. No condition. -/
import Derived.Test.YtgbiifefpidebaaOwnC
import Derived.Test.YtgbiifefpidebaaEvChk
namespace Go.Proofs.Ytgbiifefpidebaa
open Go.RowKit Go.Maps Go.WideMaps
set_option maxRecDepth 100000
/-- How a slice of the call's own reads as a map's element: by its block, length and capacity. -/
def slE : Value → Option (DataW Unit × List MemPlace)
  | .slice none 0 0 => some (.nil, [])
  | .slice (some ⟨g, 0, none⟩) n c => some (.slice [.lit (.int .i64 g), .lit (.int .i64 n), .lit (.int .i64 c)] [], [])
  | _ => none
theorem slE_nil : slE (.slice none 0 0) = some (.nil, []) := rfl
theorem slE_own (g n c : Nat) : slE (.slice (some ⟨g, 0, none⟩) n c) = some (.slice [.lit (.int .i64 g), .lit (.int .i64 n), .lit (.int .i64 c)] [], []) := rfl
theorem slE_inv {v : Value} {z : DataW Unit × List MemPlace} (h : slE v = some z) : (v = .slice none 0 0 ∧ z = (.nil, [])) ∨ ∃ g n c, v = .slice (some ⟨g, 0, none⟩) n c ∧ z = (.slice [.lit (.int .i64 g), .lit (.int .i64 n), .lit (.int .i64 c)] [], []) := by
  unfold slE at h
  split at h
  · injection h with h; exact .inl ⟨rfl, h.symm⟩
  · injection h with h; exact .inr ⟨_, _, _, rfl, h.symm⟩
  · cases h
theorem slE_inj {v u : Value} {d : DataW Unit} {p q : List MemPlace} (hv : slE v = some (d, p)) (hu : slE u = some (d, q)) : v = u := by
  rcases slE_inv hv with ⟨rfl, h1⟩ | ⟨g, n, c, rfl, h1⟩ <;> rcases slE_inv hu with ⟨rfl, h2⟩ | ⟨g', n', c', rfl, h2⟩
  · rfl
  · injection h1 with h1; injection h2 with h2; rw [h1] at h2; cases h2
  · injection h1 with h1; injection h2 with h2; rw [h1] at h2; cases h2
  · injection h1 with h1; injection h2 with h2
    rw [h1] at h2
    simp only [DataW.slice.injEq, List.cons.injEq, DataW.lit.injEq, Lit.int.injEq] at h2
    obtain ⟨⟨⟨_, e1⟩, ⟨_, e2⟩, ⟨_, e3⟩, _⟩, _⟩ := h2
    obtain rfl : g = g' := by omega
    obtain rfl : n = n' := by omega
    obtain rfl : c = c' := by omega
    rfl
theorem OwnC.reads {w : World} {base : Nat} {e : TypeId} {size : Nat} {v : Value} {n : Nat} {xs : List Value} (h : OwnC w base e size v n xs) : ∃ d, slE v = some (d, []) := by
  obtain ⟨_, ⟨rfl, _⟩ | ⟨g, cap, cur, rfl, _⟩⟩ := h
  · exact ⟨_, rfl⟩
  · exact ⟨_, rfl⟩
open Classical in
noncomputable def setV (F : Value → Value) (k : Value) (x : Value) : Value → Value := fun v => if v = k then x else F v
theorem setV_same (F : Value → Value) (k x : Value) : setV F k x k = x := by unfold setV; rw [if_pos rfl]
theorem setV_other (F : Value → Value) {k v : Value} (x : Value) (h : v ≠ k) : setV F k x v = F v := by unfold setV; rw [if_neg h]
/-- The map in block b has the slices F, none where there is none. -/
def FMS (k : TypeId) (w : World) (b n : Nat) (F : Value → Value) : Prop :=
  ∃ D : DataW Unit, w.ownsMap Try.prog k slE b n D ∧ ∀ key kl, keyOf Try.prog k key = some kl → ∃ p, slE (F key) = some (D.atKey kl .nil, p)
theorem FMS.made (w : World) (k : TypeId) : FMS k (w.alloc (.map #[] 0)) w.heap.size 0 (fun _ => .slice none 0 0) :=
  ⟨.map [], World.ownsMap_made w _ _ _, fun _ _ _ => ⟨_, rfl⟩⟩
theorem FMS.kept {k : TypeId} {w w' : World} {b n : Nat} {F : Value → Value} (h : FMS k w b n F) {row : Option Nat} (hg : w.grownBy w' row) (hne : some b ≠ row) : FMS k w' b n F := by
  obtain ⟨D, h1, h2⟩ := h
  exact ⟨D, h1.kept hg hne, h2⟩
theorem FMS.more {k : TypeId} {w : World} {b n : Nat} {F : Value → Value} (h : FMS k w b n F) : FMS k w b (n + 1) F := by
  obtain ⟨D, h1, h2⟩ := h
  exact ⟨D, h1.mono (Nat.le_succ n), h2⟩
theorem FMS.lt {k : TypeId} {w : World} {b n : Nat} {F : Value → Value} (h : FMS k w b n F) : b < w.heap.size := by
  obtain ⟨D, h1, _⟩ := h
  exact h1.lt
theorem FMS.look {k e t : TypeId} {w : World} {b n : Nat} {F : Value → Value} (h : FMS k w b n F) (K : Keyed Try.prog k) (ht : Try.prog.underlying t = some (.map k e)) (hz : (zeroValue e).run Try.prog w = .ok (.slice none 0 0) w) {key : Value} {kl : Lit} (hkey : keyOf Try.prog k key = some kl) :
    (Instr.lookup t (.map (some b)) key false).run Try.prog w = .ok (F key) w := by
  obtain ⟨D, h1, h2⟩ := h
  obtain ⟨v, ps, hr, hv⟩ := h1.lookup K ht hz slE_nil hkey
  obtain ⟨p, hp⟩ := h2 key kl hkey
  rw [hr, slE_inj hv hp]
theorem FMS.set {k e t : TypeId} {w : World} {b n : Nat} {F : Value → Value} (h : FMS k w b n F) (K : Keyed Try.prog k) (ht : Try.prog.underlying t = some (.map k e)) (hn : n < maxLen) {key : Value} {kl : Lit} (hkey : keyOf Try.prog k key = some kl) {x : Value} {d : DataW Unit} (hx : slE x = some (d, [])) :
    ∃ w', (Instr.mapUpdate t (.map (some b)) key x).run Try.prog w = .ok () w' ∧ FMS k w' b (n + 1) (setV F key x) ∧ w.grownBy w' (some b) := by
  obtain ⟨D, h1, h2⟩ := h
  obtain ⟨w', hr, ho, hg⟩ := h1.update K ht hn hkey (val := x) hx
  refine ⟨w', hr, ⟨_, ho, fun key' kl' hk' => ?_⟩, hg⟩
  by_cases hkk : key' = key
  · subst hkk
    obtain rfl : kl' = kl := by rw [hkey] at hk'; injection hk' with hk'; exact hk'.symm
    rw [setV_same, atKey_put_same h1.isMap (K.key hkey) _ _]
    exact ⟨_, hx⟩
  · have hne : kl' ≠ kl := fun e => hkk (K.inj (by rw [hk', e]) hkey)
    rw [setV_other F x hkk, atKey_put_other hne]
    exact h2 key' kl' hk'
end Go.Proofs.Ytgbiifefpidebaa
