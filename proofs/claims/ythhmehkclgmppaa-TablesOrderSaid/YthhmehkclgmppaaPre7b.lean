/- Cuts of rows of entries. No condition. -/
import Derived.Test.YthhmehkclgmppaaPre7
namespace Go.Proofs.Ythhmehkclgmppaa
open Go.RowKit
theorem flatMap_cut {α β : Type} (f : α → List β) (s : Nat) (hf : ∀ x, (f x).length = s) : ∀ (l : List α) (k : Nat), (l.flatMap f).drop (k * s) = (l.drop k).flatMap f ∧ (l.flatMap f).take (k * s) = (l.take k).flatMap f
  | l, 0 => by simp
  | [], k + 1 => by simp
  | x :: l, k + 1 => by
    have e : (k + 1) * s = (f x).length + k * s := by rw [hf, Nat.succ_mul, Nat.add_comm]
    obtain ⟨h1, h2⟩ := flatMap_cut f s hf l k
    rw [List.flatMap_cons, e, List.drop_append, List.take_append, List.drop_of_length_le (by omega), List.take_of_length_le (by omega)]
    rw [show (f x).length + k * s - (f x).length = k * s by omega, h1, h2]
    exact ⟨by simp, by simp⟩
theorem ens_drop (l : List En) (k : Nat) : (l.flatMap enL).drop (k * 4) = (l.drop k).flatMap enL := (flatMap_cut enL 4 (fun _ => rfl) l k).1
theorem ens_take (l : List En) (k : Nat) : (l.flatMap enL).take (k * 4) = (l.take k).flatMap enL := (flatMap_cut enL 4 (fun _ => rfl) l k).2
end Go.Proofs.Ythhmehkclgmppaa
