/- A drawn region in a round of a range over a function, with a class of worlds. No condition. -/
import Derived.Test.YtefllplgbalbkaaGreatDoorBq
import Derived.RangeFuncCalls
import Derived.OrdersIn
import Derived.Deep.RegionHeld3
namespace Go.Proofs.YtefllplgbalbkaaGreatDoor
open Go.RowKit
section
variable {l n : Nat} {P : Program} {ops : Array Oper} {Q : Exit → Act → World → Prop} {md : Region.Mode}
theorem upon_round {o : Oper} {a : Act} {K : Act → World → Prop} (r : Result Next) (h : o.upon P a K Q r) : o.uponIn (Fence.wide.inRound l) n P a K Q r := by
  cases r with
  | ok x w' =>
    cases x <;> simp only [Oper.upon, Oper.uponIn] at h ⊢ <;>
      first
        | exact h
        | exact ⟨fun h => (by cases h), CallsIn.inRound l (callsIn_wide.2 h)⟩
        | exact ⟨fun h => (by cases h), fun c cs _ => let ⟨v, w', r, s⟩ := h c cs; ⟨v, w', r, stepsIn_wide.2 s⟩⟩
        | exact h.elim
  | halt x w' => cases x <;> simp only [Oper.upon, Oper.uponIn] at h ⊢ <;> exact h
theorem wp_round {o : Oper} {a : Act} {w : World} {K : Act → World → Prop} (hd : ∀ c, o.op ≠ .defer c) (h : o.wp P a w K Q) : o.wpIn (Fence.wide.inRound l) n P a w K Q := by
  refine ⟨fun f _ => trivial, ?_⟩
  rw [show (Fence.wide.inRound l).round = some l from rfl, Oper.semAt_some _ _ _ hd]
  exact upon_round _ h
theorem wpAny_round (hd : ∀ (i : Nat) o, ops[i]? = some o → ∀ c, o.op ≠ .defer c) (hQ : ∀ a w, ¬ Q .outgrown a w) : ∀ (fuel : Nat) (listed : Array Bool) (a : Act) (w : World), wpAny P md ops Q fuel listed a w → wpAnyIn (Fence.wide.inRound l) n P md ops Q fuel listed a w
  | 0, _, _, _, h => h
  | fuel + 1, listed, a, w, h => ⟨h.1, fun i hi => by
    have h2 := h.2 i hi
    unfold wpOp at h2
    unfold wpOpIn
    cases ho : ops[i]? with
    | none => simp only [ho] at h2 ⊢; exact wpAny_round hd hQ fuel _ a w h2
    | some o =>
      simp only [ho] at h2 ⊢
      by_cases hw : Region.wanted o (yielded ops a.tmps) = true
      · rw [if_pos hw] at h2 ⊢
        rcases h2 with h2 | ⟨_, a', w', h3⟩
        · exact Oper.wpIn_mono (fun a' w' h' => wpAny_round hd hQ fuel _ a' w' h') (wp_round (hd i o ho) h2)
        · exact absurd h3 (hQ a' w')
      · rw [if_neg hw] at h2 ⊢
        exact ⟨fun f _ => trivial, wpAny_round hd hQ fuel _ _ w h2⟩⟩
def noDefer (ops : Array Oper) : Bool := ops.all fun o => match o.op with | .defer _ => false | _ => true
theorem noDefer_spec (h : noDefer ops = true) : ∀ (i : Nat) o, ops[i]? = some o → ∀ c, o.op ≠ .defer c := fun i o ho c e => by
  have h1 := Array.all_eq_true_iff_forall_mem.1 h o (Array.mem_of_getElem? ho)
  rw [e] at h1
  cases h1
/-- What follows one operation, as a post. -/
def oneQ (F : Fence) (n : Nat) (P : Program) (ops : Array Oper) (Q : Exit → Act → World → Prop) (rest : List Oper) : Exit → Act → World → Prop
  | .normal, a, w => wpListIn F n P ops Q rest a w
  | e, a, w => Q e a w
/-- One operation in a round goes by the plain laws. -/
theorem wpListIn_one {o : Oper} {rest : List Oper} {a : Act} {w : World} (hg : o.guard = none) (hd : ∀ c, o.op ≠ .defer c) (hQ : ∀ a w, ¬ Q .outgrown a w) (h : wpList P ops (oneQ (Fence.wide.inRound l) n P ops Q rest) [o] a w) : wpListIn (Fence.wide.inRound l) n P ops Q (o :: rest) a w := by
  unfold wpList at h
  have hw : Region.wanted o (yielded ops a.tmps) = true := by simp only [Region.wanted, hg]
  rw [if_pos hw] at h
  unfold wpListIn
  rw [if_pos hw]
  rcases h with h | ⟨_, a', w', h⟩
  · have h2 := wp_round (l := l) (n := n) hd h
    unfold Oper.wpIn at h2 ⊢
    refine ⟨h2.1, ?_⟩
    have h3 := h2.2
    generalize (o.semAt (Fence.wide.inRound l).round a.eval).run P w = r at *
    cases r with
    | ok x w' =>
      cases x <;> simp only [Oper.uponIn] at h3 ⊢ <;>
        first
          | exact h3
          | exact ⟨h3.1, CallsIn.mono h3.2 (fun e w'' he => by cases e <;> first | exact he | exact (fun ⟨a, w, h⟩ => absurd h (hQ a w)) he)⟩
          | exact ⟨h3.1, RowsIn.mono h3.2 (fun _ _ he => he)⟩
          | exact ⟨h3.1, RoundIn.mono h3.2 (fun e w'' he => by cases e <;> first | exact he | exact (fun ⟨a, w, h⟩ => absurd h (hQ a w)) he)⟩
    | halt x w' => cases x <;> simp only [Oper.uponIn] at h3 ⊢ <;> exact h3
  · exact absurd h (hQ a' w')
theorem wpList_done {F : Fence} {rest : List Oper} {a : Act} {w : World} (h : wpListIn F n P ops Q rest a w) : wpList P ops (oneQ F n P ops Q rest) [] a w := h
theorem wpIn_round_held {id : Nat} {a : Act} {w : World} (S : World → Prop) (hm : P.follows .mixedOrders = true) (hd : noDefer ops = true) (hQ : ∀ a w, ¬ Q .outgrown a w) (hS : S w.drew)
    (h : S w.drew → wpAnyH P .any ops Q S ops.size (Array.replicate ops.size false) a w.drew) : (Code.region id ops true).wpIn (Fence.wide.inRound l) n P Q a w :=
  wpIn_region_any hm (wpAny_round (noDefer_spec hd) hQ _ _ _ _ (wpAny_of_held _ _ _ _ (h hS)))
end
end Go.Proofs.YtefllplgbalbkaaGreatDoor
