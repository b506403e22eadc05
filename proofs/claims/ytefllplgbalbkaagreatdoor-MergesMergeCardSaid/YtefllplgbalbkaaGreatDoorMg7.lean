/- A range over keys(l): the caller's law. No condition. -/
import Derived.Test.YtefllplgbalbkaaGreatDoorMg6
namespace Go.Proofs.YtefllplgbalbkaaGreatDoor
open Go.RowKit
set_option maxRecDepth 100000
set_option maxHeartbeats 2000000
/-- The blocks that the loop itself holds: the box of keys, the rounds' deferred calls, the record. -/
def LB (b D : Nat) (j : Nat) : Prop := j = b ∨ j = D ∨ j = D + 1
theorem OffB.putObj {B : Nat → Prop} {a w : World} (h : OffB B a w) {l : Nat} (hl : B l) (o : Obj) : OffB B a (w.putObj l o) :=
  h.trans ⟨rfl, rfl, rfl, by simp, fun k _ hn => World.putObj_heap_other (fun e => hn (e ▸ hl))⟩
/-- How the body of a round may be left: off its end. -/
def kPost (b D : Nat) (I : Nat → World → Prop) (k : Nat) (W : World) : Exit → Act → World → Prop
  | .normal, _, W' => I (k + 1) W' ∧ W.heap.size ≤ W'.heap.size ∧ ∀ j, LB b D j → W'.heap[j]? = W.heap[j]?
  | _, _, _ => False
theorem keys_range {m b : Nat} {g : Operand} {t : Tmp} (u : Tmp) {assign body : Code} {Q : Exit → Act → World → Prop} {a : Act} {w w0 : World} {L : List En} {la : Option Addr} {lc : Nat}
    (hg : a.eval g = .func (.func 80) #[] #[.pointer (some ⟨b, 0, none⟩)]) (hB : w.heap[b]? = some (.cells #[.slice la L.length lc] 22 (0, 0))) (hR : SlIs w0 (.slice la L.length lc) L)
    (I : Nat → World → Prop) (hIe : ∀ k W, I k W → Ext w0 W) (hIo : ∀ k W W', I k W → OffB (LB b w.heap.size) W W' → I k W') (h0 : I 0 w)
    (hassign : ∀ l v W (K : Act → World → Prop), K { tmps := (a.tmps.setIfInBounds t v).setIfInBounds u v, defers := [] } W → assign.wpIn (Fence.wide.inRound l) m Tryz.prog (Exit.then K (fun _ _ _ => False)) { tmps := a.tmps.setIfInBounds t v, defers := [] } W)
    (hbody : ∀ l k gr v W, (keyG L)[k]? = some gr → I k W → w.heap.size + 2 ≤ W.heap.size → SlIs w0 v gr → body.wpIn (Fence.wide.inRound l) m Tryz.prog (kPost b w.heap.size I k W) { tmps := (a.tmps.setIfInBounds t v).setIfInBounds u v, defers := [] } W)
    (hdone : ∀ W, I (keyG L).length W → W.heap[w.heap.size]? = some (.deferred (some [])) → Q .normal { a with defers := { target := .collected w.heap.size, args := #[] } :: a.defers } W) :
    (Code.rangeFunc g #[t] assign body).wp Tryz.prog Q a w := by
  refine (wpIn_wide (n := m + 2)).1 (wpIn_rangeFunc ?_)
  intro fn hfn
  obtain ⟨D, hD⟩ : ∃ D, D = w.heap.size := ⟨_, rfl⟩
  have hbD : b < D := by rw [hD]; exact (Array.getElem?_eq_some_iff.1 hB).1
  rw [← hD] at hIo hbody hdone
  obtain ⟨rec, hrec⟩ : ∃ rec : LoopState → Option Code → Loop, rec = fun st pe => { state := st, pending := pe, fn, tmps := a.tmps, params := #[t], assign, body, defers := D } := ⟨_, rfl⟩
  obtain ⟨W1, hW1⟩ : ∃ W1, (w.alloc (.deferred (some []))).alloc (.loop (rec .ready none)) = W1 := ⟨_, rfl⟩
  have hE1 : Ext w W1 := by rw [← hW1]; exact ((Ext.refl w).alloc _).alloc _
  have hL1 : W1.heap[D + 1]? = some (.loop (rec .ready none)) := by
    rw [← hW1, hD]; have := World.alloc_heap_new (w.alloc (.deferred (some []))) (.loop (rec .ready none)); rwa [World.size_alloc] at this
  have hK1 : W1.heap[D]? = some (.deferred (some [])) := by
    rw [← hW1, hD]; exact (Below.heap_alloc _ _ _ (by simp)).trans (World.alloc_heap_new w _)
  have hI1 : I 0 W1 := hIo 0 w W1 h0 (OffB.of_ext hE1)
  have hB1 := hE1.row hB
  refine ⟨D + 1, [{ target := .collected D, args := #[] }], W1, { target := .fn (.func 80) #[.pointer (some ⟨b, 0, none⟩)], args := #[.func (.yield (D + 1)) #[] #[]] }, W1, 80,
    #[.func (.yield (D + 1)) #[] #[], .pointer (some ⟨b, 0, none⟩)], W1, ?_, ?_, fun _ _ => trivial, ?_, fun h => (by cases h), ?_⟩
  · rw [← hW1, hrec, hD]; exact run_enterLoop_outer _ _ _ _ _
  · simp only [resolve, hg]
    simp [go_sem]
  · simp [invoke, go_sem]
  · refine callsIn_wide.2 ((keys1_in (m + 1) (D + 1) b L w0 (fun k W => I k W ∧ W.heap[D + 1]? = some (.loop (rec .ready none)) ∧ W.heap[D]? = some (.deferred (some [])) ∧ D + 2 ≤ W.heap.size) (fun k W h => hIe k W h.1) (fun k W W' h hO => ⟨hIo k W W' h.1 (hO.mono (fun j hj => .inl hj)), (hO.block (D + 1) (by have := h.2.2.2; omega) (by omega)).trans h.2.1, (hO.block D (by have := h.2.2.2; omega) (by omega)).trans h.2.2.1, Nat.le_trans h.2.2.2 hO.size⟩) ?_ W1 la lc hB1 hR ⟨hI1, hL1, hK1, by rw [← hW1, hD]; simp⟩).mono ?_)
    · rintro k gr W v hgr ⟨hi, hl, hk, hsz⟩ hv
      have hy := run_yield (P := Tryz.prog) (args := #[v]) hl (by rw [hrec]; rfl)
      have hy2 : (Instr.yield (D + 1) #[v]).run Tryz.prog W = .ok (.round (D + 1) fn (a.tmps.setIfInBounds t v) assign body) W := by
        rw [hy, hrec]
        simp
      refine ⟨fn, _, assign, body, hy2, roundIn_of_wpIn hfn ?_⟩
      refine hassign _ v W _ ?_
      refine ⟨_, run_beginRound hl (by rw [hrec]), ?_⟩
      have hO2 : OffB (LB b D) W (W.putObj (D + 1) (.loop { rec .ready none with state := .busy })) := OffB.putObj (OffB.refl W) (.inr (.inr rfl)) _
      have hl2 : (W.putObj (D + 1) (.loop { rec .ready none with state := .busy })).heap[D + 1]? = some (.loop { rec .ready none with state := .busy }) := World.putObj_heap_same (by omega)
      refine wpIn_mono (hbody _ k gr v _ hgr (hIo k _ _ hi hO2) (by rw [World.putObj_size]; exact hsz) hv) ?_
      rintro e a3 W3 hp
      cases e with
      | normal =>
        obtain ⟨hi3, hs3, hk3⟩ := hp
        have hl3 := (hk3 (D + 1) (.inr (.inr rfl))).trans hl2
        have hd3 := (hk3 D (.inr (.inl rfl))).trans ((World.putObj_heap_other (by omega)).trans hk)
        have hb3 := (hk3 b (.inl rfl)).trans (World.putObj_heap_other (w := W) (k := b) (r := D + 1) (o := .loop { rec .ready none with state := .busy }) (by omega))
        have he := run_endRound (P := Tryz.prog) none hl3
        rw [World.putObj_size] at hs3
        refine ⟨_, _, he, rfl, ⟨hIo _ _ _ hi3 (OffB.putObj (OffB.refl W3) (.inr (.inr rfl)) _), ?_, ?_, ?_⟩, ?_⟩
        · rw [World.putObj_heap_same (by omega)]; rw [hrec]; rfl
        · rw [World.putObj_heap_other (by omega)]; exact hd3
        · rw [World.putObj_size]; omega
        · rw [World.putObj_heap_other (by omega)]; exact hb3
      | ret => exact hp.elim
      | exit id => exact hp.elim
      | goto t => exact hp.elim
      | panic ch => exact hp.elim
      | outgrown => exact hp.elim
    · rintro e W2 ⟨⟨v, rfl⟩, hi, hl, hk, hsz⟩
      exact ⟨none, _, by have := run_endLoop (P := Tryz.prog) hl (by rw [hrec]; simp); rw [hrec] at this; exact this, hdone _ (hIo _ _ _ hi (OffB.putObj (OffB.refl W2) (.inr (.inr rfl)) _)) ((World.putObj_heap_other (by omega)).trans hk)⟩
end Go.Proofs.YtefllplgbalbkaaGreatDoor
