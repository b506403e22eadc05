/- 'alive' of bucketlinelaw07: its closed values. No condition. -/
import Derived.Test.YthhmehkclgmppaaLaw7c
import Derived.Test.YthhmehkclgmppaaTab9
namespace Go.Proofs.Ythhmehkclgmppaa
open Go.RowKit
def eB2 : En := mkEn ⟨#[98]⟩ 2 ⟨#[118]⟩
def eA1 : En := mkEn ⟨#[97]⟩ 1 ⟨#[]⟩
def eB3 : En := mkEn ⟨#[98]⟩ 3 ⟨#[119, 120]⟩
def eY2 : En := mkEn ⟨#[98]⟩ 2 ⟨#[121]⟩
theorem al_c1 : putC [] eB2 1 = 0 := by first | decide +kernel | kernel_rfl
theorem al_l1 : putL [] eB2 1 = [eB2] := by first | decide +kernel | kernel_rfl
theorem al_c2 : putC [eB2] eA1 8 = 0 := by first | decide +kernel | kernel_rfl
theorem al_l2 : putL [eB2] eA1 8 = [eA1, eB2] := by first | decide +kernel | kernel_rfl
theorem al_c3 : putC [eA1, eB2] eB3 2 = 0 := by first | decide +kernel | kernel_rfl
theorem al_l3 : putL [eA1, eB2] eB3 2 = [eA1, eB3, eB2] := by first | decide +kernel | kernel_rfl
theorem al_c4 : putC [eA1, eB3, eB2] eY2 1 = 8 := by first | decide +kernel | kernel_rfl
theorem al_l4 : putL [eA1, eB3, eB2] eY2 1 = [eA1, eB3, eB2] := by first | decide +kernel | kernel_rfl
def alL : List En := [eA1, eB3, eB2]
theorem al_g1 : getS alL ⟨#[98]⟩ 9 = some eB3 := by first | decide +kernel | kernel_rfl
theorem al_g2 : getS alL ⟨#[98]⟩ 2 = some eB2 := by first | decide +kernel | kernel_rfl
theorem al_g3 : getS alL ⟨#[98]⟩ 1 = none := by first | decide +kernel | kernel_rfl
theorem al_g4 : getS alL ⟨#[97]⟩ 5 = some eA1 := by first | decide +kernel | kernel_rfl
theorem al_f1 : (restL alL ⟨⟨#[98]⟩, 2, false⟩).take 9 = [eB2] := by first | decide +kernel | kernel_rfl
theorem al_f2 : (restL alL ⟨⟨#[97]⟩, 5, false⟩).take 1 = [eA1] := by first | decide +kernel | kernel_rfl
theorem al_o1 : okB (mkEn ⟨#[98]⟩ 1 ⟨#[118]⟩) 9 = false := by first | decide +kernel | kernel_rfl
theorem al_o2 : okB (mkEn ⟨#[]⟩ 1 ⟨#[118]⟩) 1 = false := by first | decide +kernel | kernel_rfl
/-- A table after entries were put, each so tall. -/
def putAll (l : List (En × Int)) : List En := l.foldl (fun a p => putL a p.1 p.2) []
theorem putAll_snoc (l : List (En × Int)) (p : En × Int) : putAll (l ++ [p]) = putL (putAll l) p.1 p.2 := by unfold putAll; rw [List.foldl_append]; rfl
end Go.Proofs.Ythhmehkclgmppaa
