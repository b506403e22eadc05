/- The table of the state's answers: kinds to functions. No condition. -/
import Derived.Test.YtmjoaiepfipmaaaMod7
namespace Go.Proofs.Ytmjoaiepfipmaaa
open Go.RowKit Go.Maps Go.WideMaps
set_option maxRecDepth 100000
set_option maxHeartbeats 800000
/-- A function without captures, as an element of a map: its number. -/
def rdF : Value → Option (DataW Unit × List MemPlace)
  | .func (.func g) ⟨[]⟩ ⟨[]⟩ => some (.lit (.int .u64 (g : Int)), [])
  | .nilFunc => some (.lit (.bool false), [])
  | _ => none
theorem rdF_inv {v : Value} {g : Nat} {ps : List MemPlace} (h : rdF v = some (.lit (.int .u64 (g : Int)), ps)) : v = .func (.func g) #[] #[] := by
  unfold rdF at h
  split at h
  · simp at h
    obtain ⟨h, _⟩ := h
    have := Int.ofNat.inj h
    rw [this]
  · simp at h
  · cases h
theorem keyed8 : Keyed Try.prog 23 := int_keyed Try.underlying23
theorem look8 {W : World} {mb n : Nat} {D : DataW Unit} (h : W.ownsMap Try.prog 23 rdF mb n D) {e : TypeId} (ht : Try.prog.underlying 84 = some (.map 23 e)) (hz : (zeroValue e).run Try.prog W = .ok .nilFunc W) (k : Int) (hk : (Lit.int .u8 k).wf = true) (f : Nat) (hat : D.atKey (.int .u8 k) (.lit (.bool false)) = .lit (.int .u64 (f : Int))) :
    (Instr.lookup 84 (.map (some mb)) (.int .u8 k) false).run Try.prog W = .ok (.func (.func f) #[] #[]) W := by
  obtain ⟨v, ps, hrun, hv⟩ := h.lookup keyed8 ht hz (zd := .lit (.bool false)) (zp := []) rfl (keyOf_int_mk Try.underlying23 hk)
  rw [hat] at hv
  rw [hrun, rdF_inv hv]
/-- The functions by their kinds. -/
def kindF : List (Int × Nat) := [(1, 51), (2, 52), (3, 40), (4, 51), (5, 53), (6, 54)]
theorem st_replies (w : World) : Calls Try.prog 35 #[] w fun e w' => ∃ mb, e = .returned (.map (some mb)) ∧ Ext w w' ∧ ∀ W, Ext w' W → ∀ p ∈ kindF, (Instr.lookup 84 (.map (some mb)) (.int .u8 p.1) false).run Try.prog W = .ok (.func (.func p.2) #[] #[]) W := by
  have hmm := @run_makeMap Try.prog
  obtain ⟨w1, r1, o1, g1⟩ := (World.ownsMap_made w Try.prog 23 rdF).update keyed8 Try.underlying84 (by unfold maxLen; omega) (keyOf_int_mk Try.underlying23 (a := 1) rfl) (val := .func (.func 51) #[] #[]) (d := .lit (.int .u64 51)) (ps := []) rfl
  obtain ⟨w2, r2, o2, g2⟩ := o1.update keyed8 Try.underlying84 (by unfold maxLen; omega) (keyOf_int_mk Try.underlying23 (a := 2) rfl) (val := .func (.func 52) #[] #[]) (d := .lit (.int .u64 52)) (ps := []) rfl
  obtain ⟨w3, r3, o3, g3⟩ := o2.update keyed8 Try.underlying84 (by unfold maxLen; omega) (keyOf_int_mk Try.underlying23 (a := 3) rfl) (val := .func (.func 40) #[] #[]) (d := .lit (.int .u64 40)) (ps := []) rfl
  obtain ⟨w4, r4, o4, g4⟩ := o3.update keyed8 Try.underlying84 (by unfold maxLen; omega) (keyOf_int_mk Try.underlying23 (a := 4) rfl) (val := .func (.func 51) #[] #[]) (d := .lit (.int .u64 51)) (ps := []) rfl
  obtain ⟨w5, r5, o5, g5⟩ := o4.update keyed8 Try.underlying84 (by unfold maxLen; omega) (keyOf_int_mk Try.underlying23 (a := 5) rfl) (val := .func (.func 53) #[] #[]) (d := .lit (.int .u64 53)) (ps := []) rfl
  obtain ⟨w6, r6, o6, g6⟩ := o5.update keyed8 Try.underlying84 (by unfold maxLen; omega) (keyOf_int_mk Try.underlying23 (a := 6) rfl) (val := .func (.func 54) #[] #[]) (d := .lit (.int .u64 54)) (ps := []) rfl
  have hg : Ext w w6 := by
    have hs : (w.alloc (.map #[] 0)).heap.size = w.heap.size + 1 := by simp
    have h1 := g1.size; have h2 := g2.size; have h3 := g3.size; have h4 := g4.size; have h5 := g5.size; have h6 := g6.size
    refine Below.trans ((Ext.refl w).alloc (.map #[] 0)) ⟨?_, ?_, ?_, by omega, fun k hk => ?_⟩
    · rw [g6.os, g5.os, g4.os, g3.os, g2.os, g1.os]
    · rw [g6.tape, g5.tape, g4.tape, g3.tape, g2.tape, g1.tape]
    · rw [g6.output, g5.output, g4.output, g3.output, g2.output, g1.output]
    · have hne : some k ≠ some w.heap.size := fun e => by injection e; omega
      rw [g6.block k (by omega) hne, g5.block k (by omega) hne, g4.block k (by omega) hne, g3.block k (by omega) hne, g2.block k (by omega) hne, g1.block k (by omega) hne]
  have o6' := Lib.hid o6
  have hg' := Lib.hid hg
  clear o1 o2 o3 o4 o5 o6 g1 g2 g3 g4 g5 g6 hg
  go_enter Try.func35, Try.ntmps35
  go_wp2
  go_ret
  refine ⟨_, rfl, hg'.out, fun W hW p hp => ?_⟩
  have o7 := o6'.out.kept (grown_of_ext hW) (by simp)
  simp only [kindF, List.mem_cons, List.not_mem_nil, or_false] at hp
  rcases hp with rfl | rfl | rfl | rfl | rfl | rfl
  all_goals exact look8 o7 Try.underlying84 (by kernel_rfl) _ rfl _ rfl
end Go.Proofs.Ytmjoaiepfipmaaa
