/- The library's table of powers: from what is laid, and across what a call adds. No condition. -/
import Derived.Test.YtmopjmhapeinjaaGreatDoorGrB3
import Derived.LaidSub
import Derived.MakeChecks
namespace Go.Proofs.YtmopjmhapeinjaaGreatDoor
open Go.RowKit
theorem tabW_ext {w w' : World} (h : TabW w) (hE : Ext w w') : TabW w' := by
  unfold TabW Lib.TabIs World.var? at h ⊢
  cases hg : Program.globalNamed Tryz.prog "internal/strconv.uint64pow10" with
  | none => rw [hg] at h; cases h
  | some g =>
    rw [hg] at h
    simp only [Option.bind_some] at h ⊢
    have hlt : g < w.heap.size := by
      rcases Nat.lt_or_ge g w.heap.size with h' | h'
      · exact h'
      · rw [Array.getElem?_eq_none h'] at h; cases h
    rw [Below.block hE g hlt]
    exact h
theorem tabW_of_laid {w : World} {l : List (String × DataW Unit)} (h : laidMetH Tryz.prog l w) (hl : l.filter (fun x => x.1 == "internal/strconv.uint64pow10") = [("internal/strconv.uint64pow10", Lib.tabData .u64 Lib.pow10Tab)]) : TabW w := by
  have h1 := laidMetH.filter (fun x => x.1 == "internal/strconv.uint64pow10") h
  rw [hl, MakeChecks.laidMetH_plain _ _ _ (by kernel_rfl)] at h1
  have hx : (match Program.globalNamed Tryz.prog "internal/strconv.uint64pow10" with | some g => (Tryz.prog.globals[g]?).map (·.type) == some 218 | none => false) = true := by kernel_rfl
  cases hg : Program.globalNamed Tryz.prog "internal/strconv.uint64pow10" with
  | none => rw [hg] at hx; cases hx
  | some g =>
    rw [hg] at hx
    have hty : (Tryz.prog.globals[g]?).map (·.type) = some 218 := eq_of_beq hx
    exact Lib.tabIs_of_head hg hty Tryz.underlying218 Tryz.underlying54 (by kernel_rfl) (by kernel_rfl) h1
end Go.Proofs.YtmopjmhapeinjaaGreatDoor
