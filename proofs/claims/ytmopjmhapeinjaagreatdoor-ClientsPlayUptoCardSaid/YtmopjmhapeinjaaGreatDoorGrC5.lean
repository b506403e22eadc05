/- Several texts in one: BkKRow BkKChange BkKItem BkKSaid. No condition. -/
import Derived.Test.YtmopjmhapeinjaaGreatDoorGrB5
import Derived.Deep.RegionLaw
import Derived.Deep.CutRange
/- keepRow: a list more is kept. No condition. -/
namespace Go.Proofs.YtmopjmhapeinjaaGreatDoor
open Go.RowKit
set_option maxRecDepth 100000
set_option maxHeartbeats 4000000
theorem el_heldRow : ElemIs Tryz.prog 161 3 56 := by
  refine ElemIs.mk (z := .agg #[.slice none 0 0, .slice none 0 0, .int .i64 0]) (by kernel_rfl) (by rfl) (by decide)
theorem keepRow_any {base N0 g n : Nat} {T : Nat → Kd} {st : Nat → Nat} {w : World} (h : BkI bkT base N0 g n T st w) (h0 : ∀ j, st j = 0) (hn : n < 1000000) (hm : (T 6).2.length ≤ 1000000) (a : Option Addr) (len cap : Nat) (hx : ∃ xs, OwnC w base (bkT.et 6) (bkT.z 6) (.slice a len cap) len xs) (hxl : len ≤ 1000000) (hxg : (Value.slice a len cap).ownBlock ≠ some g) (hxf : ∀ j q, (Value.slice a len cap).ownBlock = some q → ¬ FP (T j) q) :
    Calls Tryz.prog 123 #[.pointer (some ⟨g, 0, none⟩), .slice a len cap] w fun e w' => e = .returned (.tuple #[]) ∧ Below base w w' ∧ OffB (fun q => q = g ∨ (T 6).1.ownBlock = some q) w w' ∧ ∃ v', (∀ q, v'.ownBlock = some q → (T 6).1.ownBlock = some q ∨ w.heap.size ≤ q) ∧ BkI bkT base w'.heap.size g (n + 1) (upd T 6 (v', (T 6).2 ++ [⟨.slice a len cap, len, n + 1, .slice none 0 0⟩])) st w' := by
  obtain ⟨hv, hhv⟩ : ∃ v, v = (T 6).1 := ⟨_, rfl⟩
  obtain ⟨hs, hhs⟩ : ∃ v, v = (T 6).2 := ⟨_, rfl⟩
  obtain ⟨W1, hW1⟩ : ∃ W, W = w.setCell ⟨g, 0, none⟩ (.int .i64 ((n + 1 : Nat) : Int)) := ⟨_, rfl⟩
  have hgw : g < w.heap.size := (Array.getElem?_eq_some_iff.1 h.row).1
  have c0 : w.cell? ⟨g, 0, none⟩ = some (.int .i64 (n : Int)) := by rw [cell_of_row _ _ _ _ _ _ h.row]; rfl
  have z0 : w.frozen? ⟨g, 0, none⟩ = false := by unfold World.frozen?; rw [h.row]; simp
  have hr1 : W1.heap[g]? = some (.cells (bkRow (n + 1) T) 46 (0, 0)) := by
    rw [hW1, setCell_eq_setRow _ _ _ _ _ _ _ h.row, setRow_heap _ _ _ _ _ _ h.row]
    rfl
  have hO1 : OffB (fun q => q = g ∨ hv.ownBlock = some q) w W1 := by rw [hW1]; exact (OffB.refl w).setCell (p := ⟨g, 0, none⟩) (.inl rfl) _
  have hown : OwnC w base 161 3 hv hs.length (hs.flatMap Hd.cs) := by have := h.hdr 6; rw [← hhv, ← hhs] at this; exact this
  have hsepg : ∀ q, hv.ownBlock = some q → q ≠ g := fun q hq e => h.sepg 6 (.inl (by rw [← hhv, ← e]; exact hq))
  have hown1 : OwnC W1.drew base 161 3 hv hs.length (hs.flatMap Hd.cs) := by
    refine (hown.offB (B := fun q => q = g) (w' := W1) ?_ hsepg).ext (Ext.refl _).drew
    rw [hW1]; exact (OffB.refl (B := fun q => q = g) w).setCell (p := ⟨g, 0, none⟩) rfl _
  have hsz1 : W1.drew.heap.size = w.heap.size := by show W1.heap.size = _; rw [hW1]; simp
  have hbase : base ≤ W1.drew.heap.size := by rw [hsz1]; have := h.gb; omega
  have hcell : ∀ (w' : World), w'.heap[g]? = some (.cells (bkRow (n + 1) T) 46 (0, 0)) → w'.cell? ⟨g, 0, none⟩ = some (.int .i64 ((n + 1 : Nat) : Int)) ∧ w'.cell? ⟨g, 6, none⟩ = some hv ∧ w'.frozen? ⟨g, 6, none⟩ = false := fun w' hw' => by
    refine ⟨by rw [cell_of_row _ _ _ _ _ _ hw']; rfl, by rw [cell_of_row _ _ _ _ _ _ hw', hhv]; rfl, ?_⟩
    unfold World.frozen?; rw [hw']; simp
  obtain ⟨ca0, ca1, _⟩ := hcell W1.drew hr1
  have hlit := fun o => hcell (W1.drew.alloc o) (((Ext.refl _).alloc _).row (show W1.drew.heap[g]? = _ from hr1))
  obtain ⟨cb0, cb1, _⟩ := hlit (.cells #[.slice a len cap, .slice none 0 0, .int .i64 ((n + 1 : Nat) : Int)] 161)
  have cc0 : (W1.alloc (.cells #[.slice a len cap, .slice none 0 0, .int .i64 ((n + 1 : Nat) : Int)] 161)).drew.cell? ⟨g, 0, none⟩ = _ := cb0
  have cc1 : (W1.alloc (.cells #[.slice a len cap, .slice none 0 0, .int .i64 ((n + 1 : Nat) : Int)] 161)).drew.cell? ⟨g, 6, none⟩ = _ := cb1
  have hfin : Hid (∀ v' w6, AppK W1.drew w6 base 161 3 hv v' hs.length (hs.flatMap Hd.cs) [.slice a len cap, .slice none 0 0, .int .i64 ((n + 1 : Nat) : Int)] → w6.cell? ⟨g, 6, none⟩ = some hv ∧ w6.frozen? ⟨g, 6, none⟩ = false ∧ Hid (Below base w (w6.setCell ⟨g, 6, none⟩ v') ∧ OffB (fun q => q = g ∨ (T 6).1.ownBlock = some q) w (w6.setCell ⟨g, 6, none⟩ v') ∧ (∀ q, v'.ownBlock = some q → (T 6).1.ownBlock = some q ∨ w.heap.size ≤ q) ∧ BkI bkT base (w6.setCell ⟨g, 6, none⟩ v').heap.size g (n + 1) (upd T 6 (v', (T 6).2 ++ [⟨.slice a len cap, len, n + 1, .slice none 0 0⟩])) st (w6.setCell ⟨g, 6, none⟩ v'))) := Lib.hid (fun v' w6 hA => by
    have hO6 : OffB (fun q => q = g ∨ hv.ownBlock = some q) w w6 := hO1.trans (OffB.trans (.of_ext (Ext.refl _).drew) (hA.off.mono fun q hq => .inr hq))
    have hg6 : w6.heap[g]? = some (.cells (bkRow (n + 1) T) 46 (0, 0)) := (hA.off.block g (by rw [hsz1]; exact hgw) (fun e => hsepg g e rfl)).trans hr1
    obtain ⟨_, d1, d2⟩ := hcell w6 hg6
    have hO7 : OffB (fun q => q = g ∨ hv.ownBlock = some q) w (w6.setCell ⟨g, 6, none⟩ v') := hO6.setCell (p := ⟨g, 6, none⟩) (.inl rfl) _
    have hvq : ∀ q, v'.ownBlock = some q → q ≠ g := fun q hq e => by
      rcases hA.at_ q hq with h1 | h1
      · exact hsepg q h1 e
      · rw [hsz1] at h1; omega
    have hva : ∀ q, v'.ownBlock = some q → (T 6).1.ownBlock = some q ∨ w.heap.size ≤ q := fun q hq => by
      rw [← hhv]
      rcases hA.at_ q hq with h1 | h1
      · exact .inl h1
      · rw [hsz1] at h1; exact .inr h1
    refine ⟨d1, d2, Lib.hid ⟨hO7.below (fun q hq => ?_) (by rw [← hsz1]; exact hbase), by rw [← hhv]; exact hO7, hva, h.kept 6 h0 v' ⟨.slice a len cap, len, n + 1, .slice none 0 0⟩ ?_ (by rw [← hhv]; exact hO7) ?_ hva ⟨hx, rfl⟩ hxl hxg hxf⟩⟩
    · rcases hq with rfl | hq
      · exact h.gb
      · exact (hown.lt q hq).1
    · rw [setCell_eq_setRow _ _ _ _ _ _ _ hg6, setRow_heap _ _ _ _ _ _ hg6]
      rfl
    · have h1 : OwnC w6 base 161 3 v' (hs.length + 1) (hs.flatMap Hd.cs ++ [.slice a len cap, .slice none 0 0, .int .i64 ((n + 1 : Nat) : Int)]) := hA.own
      rw [← hhs, List.flatMap_append]
      refine h1.offB (B := fun q => q = g) ((OffB.refl (B := fun q => q = g) w6).setCell (p := ⟨g, 6, none⟩) rfl _) hvq)
  have hml : hs.length ≤ 1000000 := by rw [hhs]; exact hm
  obtain ⟨m, hmm⟩ : ∃ m, m = hs.length := ⟨_, rfl⟩
  obtain ⟨xs, hxs⟩ : ∃ xs, xs = hs.flatMap Hd.cs := ⟨_, rfl⟩
  rw [← hmm] at hml hown1 hfin
  rw [← hxs] at hown1 hfin
  have hown1' := Lib.hid hown1
  have hW1' := Lib.hid hW1
  have hn1 : IntKind.i64.wrap ((n : Int) + 1) = (n : Int) + 1 := by rw [IntKind.wrap_i64]; omega
  have e1 : ((n + 1 : Nat) : Int) = (n : Int) + 1 := by omega
  rw [e1] at ca0 cb0 cb1 cc0 cc1
  clear h h0 hm hx hxl hxg hxf hhv hhs hgw hr1 hO1 hown hsepg hown1 hcell hlit hW1 hmm hxs hsz1
  go_enter Tryz.func123, Tryz.ntmps123
  go_upto_region 1 with fail
  rw [show w.setCell ⟨g, 0, none⟩ (.int .i64 ((n : Int) + 1)) = W1 by rw [hW1'.out, e1]]
  clear c0 z0 hn1
  go_region_law (first | ((refine step_append_k rfl (.tmp 15) (.tmp 22) 37 161 rfl Tryz.underlying37 el_heldRow W1.drew base m xs hv (by rfl) hown1'.out #[.slice a len cap, .slice none 0 0, .int .i64 ((n : Int) + 1)] (by rfl) (by rfl) (by simp [Value.oneCell']) (by omega) (by omega) hbase ?_); (intro v' w6 hA; obtain ⟨oa4, oc4, rfl, _⟩ := hA.own.form; obtain ⟨hc6, hz6, hfin6⟩ := hfin.out _ w6 (by rw [e1]; exact hA); clear hA)) | fail)
  all_goals
    go_end0
    exact ⟨rfl, hfin6.out.1, hfin6.out.2.1, _, hfin6.out.2.2⟩
end Go.Proofs.YtmopjmhapeinjaaGreatDoor

/- keepChange: a list more is kept. No condition. -/
namespace Go.Proofs.YtmopjmhapeinjaaGreatDoor
open Go.RowKit
set_option maxRecDepth 100000
set_option maxHeartbeats 4000000
theorem el_heldChange : ElemIs Tryz.prog 164 3 56 := by
  refine ElemIs.mk (z := .agg #[.slice none 0 0, .slice none 0 0, .int .i64 0]) (by kernel_rfl) (by rfl) (by decide)
theorem keepChange_any {base N0 g n : Nat} {T : Nat → Kd} {st : Nat → Nat} {w : World} (h : BkI bkT base N0 g n T st w) (h0 : ∀ j, st j = 0) (hn : n < 1000000) (hm : (T 7).2.length ≤ 1000000) (a : Option Addr) (len cap : Nat) (hx : ∃ xs, OwnC w base (bkT.et 7) (bkT.z 7) (.slice a len cap) len xs) (hxl : len ≤ 1000000) (hxg : (Value.slice a len cap).ownBlock ≠ some g) (hxf : ∀ j q, (Value.slice a len cap).ownBlock = some q → ¬ FP (T j) q) :
    Calls Tryz.prog 108 #[.pointer (some ⟨g, 0, none⟩), .slice a len cap] w fun e w' => e = .returned (.tuple #[]) ∧ Below base w w' ∧ OffB (fun q => q = g ∨ (T 7).1.ownBlock = some q) w w' ∧ ∃ v', (∀ q, v'.ownBlock = some q → (T 7).1.ownBlock = some q ∨ w.heap.size ≤ q) ∧ BkI bkT base w'.heap.size g (n + 1) (upd T 7 (v', (T 7).2 ++ [⟨.slice a len cap, len, n + 1, .slice none 0 0⟩])) st w' := by
  obtain ⟨hv, hhv⟩ : ∃ v, v = (T 7).1 := ⟨_, rfl⟩
  obtain ⟨hs, hhs⟩ : ∃ v, v = (T 7).2 := ⟨_, rfl⟩
  obtain ⟨W1, hW1⟩ : ∃ W, W = w.setCell ⟨g, 0, none⟩ (.int .i64 ((n + 1 : Nat) : Int)) := ⟨_, rfl⟩
  have hgw : g < w.heap.size := (Array.getElem?_eq_some_iff.1 h.row).1
  have c0 : w.cell? ⟨g, 0, none⟩ = some (.int .i64 (n : Int)) := by rw [cell_of_row _ _ _ _ _ _ h.row]; rfl
  have z0 : w.frozen? ⟨g, 0, none⟩ = false := by unfold World.frozen?; rw [h.row]; simp
  have hr1 : W1.heap[g]? = some (.cells (bkRow (n + 1) T) 46 (0, 0)) := by
    rw [hW1, setCell_eq_setRow _ _ _ _ _ _ _ h.row, setRow_heap _ _ _ _ _ _ h.row]
    rfl
  have hO1 : OffB (fun q => q = g ∨ hv.ownBlock = some q) w W1 := by rw [hW1]; exact (OffB.refl w).setCell (p := ⟨g, 0, none⟩) (.inl rfl) _
  have hown : OwnC w base 164 3 hv hs.length (hs.flatMap Hd.cs) := by have := h.hdr 7; rw [← hhv, ← hhs] at this; exact this
  have hsepg : ∀ q, hv.ownBlock = some q → q ≠ g := fun q hq e => h.sepg 7 (.inl (by rw [← hhv, ← e]; exact hq))
  have hown1 : OwnC W1.drew base 164 3 hv hs.length (hs.flatMap Hd.cs) := by
    refine (hown.offB (B := fun q => q = g) (w' := W1) ?_ hsepg).ext (Ext.refl _).drew
    rw [hW1]; exact (OffB.refl (B := fun q => q = g) w).setCell (p := ⟨g, 0, none⟩) rfl _
  have hsz1 : W1.drew.heap.size = w.heap.size := by show W1.heap.size = _; rw [hW1]; simp
  have hbase : base ≤ W1.drew.heap.size := by rw [hsz1]; have := h.gb; omega
  have hcell : ∀ (w' : World), w'.heap[g]? = some (.cells (bkRow (n + 1) T) 46 (0, 0)) → w'.cell? ⟨g, 0, none⟩ = some (.int .i64 ((n + 1 : Nat) : Int)) ∧ w'.cell? ⟨g, 7, none⟩ = some hv ∧ w'.frozen? ⟨g, 7, none⟩ = false := fun w' hw' => by
    refine ⟨by rw [cell_of_row _ _ _ _ _ _ hw']; rfl, by rw [cell_of_row _ _ _ _ _ _ hw', hhv]; rfl, ?_⟩
    unfold World.frozen?; rw [hw']; simp
  obtain ⟨ca0, ca1, _⟩ := hcell W1.drew hr1
  have hlit := fun o => hcell (W1.drew.alloc o) (((Ext.refl _).alloc _).row (show W1.drew.heap[g]? = _ from hr1))
  obtain ⟨cb0, cb1, _⟩ := hlit (.cells #[.slice a len cap, .slice none 0 0, .int .i64 ((n + 1 : Nat) : Int)] 164)
  have cc0 : (W1.alloc (.cells #[.slice a len cap, .slice none 0 0, .int .i64 ((n + 1 : Nat) : Int)] 164)).drew.cell? ⟨g, 0, none⟩ = _ := cb0
  have cc1 : (W1.alloc (.cells #[.slice a len cap, .slice none 0 0, .int .i64 ((n + 1 : Nat) : Int)] 164)).drew.cell? ⟨g, 7, none⟩ = _ := cb1
  have hfin : Hid (∀ v' w6, AppK W1.drew w6 base 164 3 hv v' hs.length (hs.flatMap Hd.cs) [.slice a len cap, .slice none 0 0, .int .i64 ((n + 1 : Nat) : Int)] → w6.cell? ⟨g, 7, none⟩ = some hv ∧ w6.frozen? ⟨g, 7, none⟩ = false ∧ Hid (Below base w (w6.setCell ⟨g, 7, none⟩ v') ∧ OffB (fun q => q = g ∨ (T 7).1.ownBlock = some q) w (w6.setCell ⟨g, 7, none⟩ v') ∧ (∀ q, v'.ownBlock = some q → (T 7).1.ownBlock = some q ∨ w.heap.size ≤ q) ∧ BkI bkT base (w6.setCell ⟨g, 7, none⟩ v').heap.size g (n + 1) (upd T 7 (v', (T 7).2 ++ [⟨.slice a len cap, len, n + 1, .slice none 0 0⟩])) st (w6.setCell ⟨g, 7, none⟩ v'))) := Lib.hid (fun v' w6 hA => by
    have hO6 : OffB (fun q => q = g ∨ hv.ownBlock = some q) w w6 := hO1.trans (OffB.trans (.of_ext (Ext.refl _).drew) (hA.off.mono fun q hq => .inr hq))
    have hg6 : w6.heap[g]? = some (.cells (bkRow (n + 1) T) 46 (0, 0)) := (hA.off.block g (by rw [hsz1]; exact hgw) (fun e => hsepg g e rfl)).trans hr1
    obtain ⟨_, d1, d2⟩ := hcell w6 hg6
    have hO7 : OffB (fun q => q = g ∨ hv.ownBlock = some q) w (w6.setCell ⟨g, 7, none⟩ v') := hO6.setCell (p := ⟨g, 7, none⟩) (.inl rfl) _
    have hvq : ∀ q, v'.ownBlock = some q → q ≠ g := fun q hq e => by
      rcases hA.at_ q hq with h1 | h1
      · exact hsepg q h1 e
      · rw [hsz1] at h1; omega
    have hva : ∀ q, v'.ownBlock = some q → (T 7).1.ownBlock = some q ∨ w.heap.size ≤ q := fun q hq => by
      rw [← hhv]
      rcases hA.at_ q hq with h1 | h1
      · exact .inl h1
      · rw [hsz1] at h1; exact .inr h1
    refine ⟨d1, d2, Lib.hid ⟨hO7.below (fun q hq => ?_) (by rw [← hsz1]; exact hbase), by rw [← hhv]; exact hO7, hva, h.kept 7 h0 v' ⟨.slice a len cap, len, n + 1, .slice none 0 0⟩ ?_ (by rw [← hhv]; exact hO7) ?_ hva ⟨hx, rfl⟩ hxl hxg hxf⟩⟩
    · rcases hq with rfl | hq
      · exact h.gb
      · exact (hown.lt q hq).1
    · rw [setCell_eq_setRow _ _ _ _ _ _ _ hg6, setRow_heap _ _ _ _ _ _ hg6]
      rfl
    · have h1 : OwnC w6 base 164 3 v' (hs.length + 1) (hs.flatMap Hd.cs ++ [.slice a len cap, .slice none 0 0, .int .i64 ((n + 1 : Nat) : Int)]) := hA.own
      rw [← hhs, List.flatMap_append]
      refine h1.offB (B := fun q => q = g) ((OffB.refl (B := fun q => q = g) w6).setCell (p := ⟨g, 7, none⟩) rfl _) hvq)
  have hml : hs.length ≤ 1000000 := by rw [hhs]; exact hm
  obtain ⟨m, hmm⟩ : ∃ m, m = hs.length := ⟨_, rfl⟩
  obtain ⟨xs, hxs⟩ : ∃ xs, xs = hs.flatMap Hd.cs := ⟨_, rfl⟩
  rw [← hmm] at hml hown1 hfin
  rw [← hxs] at hown1 hfin
  have hown1' := Lib.hid hown1
  have hW1' := Lib.hid hW1
  have hn1 : IntKind.i64.wrap ((n : Int) + 1) = (n : Int) + 1 := by rw [IntKind.wrap_i64]; omega
  have e1 : ((n + 1 : Nat) : Int) = (n : Int) + 1 := by omega
  rw [e1] at ca0 cb0 cb1 cc0 cc1
  clear h h0 hm hx hxl hxg hxf hhv hhs hgw hr1 hO1 hown hsepg hown1 hcell hlit hW1 hmm hxs hsz1
  go_enter Tryz.func108, Tryz.ntmps108
  go_upto_region 1 with fail
  rw [show w.setCell ⟨g, 0, none⟩ (.int .i64 ((n : Int) + 1)) = W1 by rw [hW1'.out, e1]]
  clear c0 z0 hn1
  go_region_law (first | ((refine step_append_k rfl (.tmp 15) (.tmp 22) 38 164 rfl Tryz.underlying38 el_heldChange W1.drew base m xs hv (by rfl) hown1'.out #[.slice a len cap, .slice none 0 0, .int .i64 ((n : Int) + 1)] (by rfl) (by rfl) (by simp [Value.oneCell']) (by omega) (by omega) hbase ?_); (intro v' w6 hA; obtain ⟨oa4, oc4, rfl, _⟩ := hA.own.form; obtain ⟨hc6, hz6, hfin6⟩ := hfin.out _ w6 (by rw [e1]; exact hA); clear hA)) | fail)
  all_goals
    go_end0
    exact ⟨rfl, hfin6.out.1, hfin6.out.2.1, _, hfin6.out.2.2⟩
end Go.Proofs.YtmopjmhapeinjaaGreatDoor

/- keepItem: a list more is kept. No condition. -/
namespace Go.Proofs.YtmopjmhapeinjaaGreatDoor
open Go.RowKit
set_option maxRecDepth 100000
set_option maxHeartbeats 4000000
theorem el_heldItem : ElemIs Tryz.prog 181 3 56 := by
  refine ElemIs.mk (z := .agg #[.slice none 0 0, .slice none 0 0, .int .i64 0]) (by kernel_rfl) (by rfl) (by decide)
theorem keepItem_any {base N0 g n : Nat} {T : Nat → Kd} {st : Nat → Nat} {w : World} (h : BkI bkT base N0 g n T st w) (h0 : ∀ j, st j = 0) (hn : n < 1000000) (hm : (T 10).2.length ≤ 1000000) (a : Option Addr) (len cap : Nat) (hx : ∃ xs, OwnC w base (bkT.et 10) (bkT.z 10) (.slice a len cap) len xs) (hxl : len ≤ 1000000) (hxg : (Value.slice a len cap).ownBlock ≠ some g) (hxf : ∀ j q, (Value.slice a len cap).ownBlock = some q → ¬ FP (T j) q) :
    Calls Tryz.prog 122 #[.pointer (some ⟨g, 0, none⟩), .slice a len cap] w fun e w' => e = .returned (.tuple #[]) ∧ Below base w w' ∧ OffB (fun q => q = g ∨ (T 10).1.ownBlock = some q) w w' ∧ ∃ v', (∀ q, v'.ownBlock = some q → (T 10).1.ownBlock = some q ∨ w.heap.size ≤ q) ∧ BkI bkT base w'.heap.size g (n + 1) (upd T 10 (v', (T 10).2 ++ [⟨.slice a len cap, len, n + 1, .slice none 0 0⟩])) st w' := by
  obtain ⟨hv, hhv⟩ : ∃ v, v = (T 10).1 := ⟨_, rfl⟩
  obtain ⟨hs, hhs⟩ : ∃ v, v = (T 10).2 := ⟨_, rfl⟩
  obtain ⟨W1, hW1⟩ : ∃ W, W = w.setCell ⟨g, 0, none⟩ (.int .i64 ((n + 1 : Nat) : Int)) := ⟨_, rfl⟩
  have hgw : g < w.heap.size := (Array.getElem?_eq_some_iff.1 h.row).1
  have c0 : w.cell? ⟨g, 0, none⟩ = some (.int .i64 (n : Int)) := by rw [cell_of_row _ _ _ _ _ _ h.row]; rfl
  have z0 : w.frozen? ⟨g, 0, none⟩ = false := by unfold World.frozen?; rw [h.row]; simp
  have hr1 : W1.heap[g]? = some (.cells (bkRow (n + 1) T) 46 (0, 0)) := by
    rw [hW1, setCell_eq_setRow _ _ _ _ _ _ _ h.row, setRow_heap _ _ _ _ _ _ h.row]
    rfl
  have hO1 : OffB (fun q => q = g ∨ hv.ownBlock = some q) w W1 := by rw [hW1]; exact (OffB.refl w).setCell (p := ⟨g, 0, none⟩) (.inl rfl) _
  have hown : OwnC w base 181 3 hv hs.length (hs.flatMap Hd.cs) := by have := h.hdr 10; rw [← hhv, ← hhs] at this; exact this
  have hsepg : ∀ q, hv.ownBlock = some q → q ≠ g := fun q hq e => h.sepg 10 (.inl (by rw [← hhv, ← e]; exact hq))
  have hown1 : OwnC W1.drew base 181 3 hv hs.length (hs.flatMap Hd.cs) := by
    refine (hown.offB (B := fun q => q = g) (w' := W1) ?_ hsepg).ext (Ext.refl _).drew
    rw [hW1]; exact (OffB.refl (B := fun q => q = g) w).setCell (p := ⟨g, 0, none⟩) rfl _
  have hsz1 : W1.drew.heap.size = w.heap.size := by show W1.heap.size = _; rw [hW1]; simp
  have hbase : base ≤ W1.drew.heap.size := by rw [hsz1]; have := h.gb; omega
  have hcell : ∀ (w' : World), w'.heap[g]? = some (.cells (bkRow (n + 1) T) 46 (0, 0)) → w'.cell? ⟨g, 0, none⟩ = some (.int .i64 ((n + 1 : Nat) : Int)) ∧ w'.cell? ⟨g, 10, none⟩ = some hv ∧ w'.frozen? ⟨g, 10, none⟩ = false := fun w' hw' => by
    refine ⟨by rw [cell_of_row _ _ _ _ _ _ hw']; rfl, by rw [cell_of_row _ _ _ _ _ _ hw', hhv]; rfl, ?_⟩
    unfold World.frozen?; rw [hw']; simp
  obtain ⟨ca0, ca1, _⟩ := hcell W1.drew hr1
  have hlit := fun o => hcell (W1.drew.alloc o) (((Ext.refl _).alloc _).row (show W1.drew.heap[g]? = _ from hr1))
  obtain ⟨cb0, cb1, _⟩ := hlit (.cells #[.slice a len cap, .slice none 0 0, .int .i64 ((n + 1 : Nat) : Int)] 181)
  have cc0 : (W1.alloc (.cells #[.slice a len cap, .slice none 0 0, .int .i64 ((n + 1 : Nat) : Int)] 181)).drew.cell? ⟨g, 0, none⟩ = _ := cb0
  have cc1 : (W1.alloc (.cells #[.slice a len cap, .slice none 0 0, .int .i64 ((n + 1 : Nat) : Int)] 181)).drew.cell? ⟨g, 10, none⟩ = _ := cb1
  have hfin : Hid (∀ v' w6, AppK W1.drew w6 base 181 3 hv v' hs.length (hs.flatMap Hd.cs) [.slice a len cap, .slice none 0 0, .int .i64 ((n + 1 : Nat) : Int)] → w6.cell? ⟨g, 10, none⟩ = some hv ∧ w6.frozen? ⟨g, 10, none⟩ = false ∧ Hid (Below base w (w6.setCell ⟨g, 10, none⟩ v') ∧ OffB (fun q => q = g ∨ (T 10).1.ownBlock = some q) w (w6.setCell ⟨g, 10, none⟩ v') ∧ (∀ q, v'.ownBlock = some q → (T 10).1.ownBlock = some q ∨ w.heap.size ≤ q) ∧ BkI bkT base (w6.setCell ⟨g, 10, none⟩ v').heap.size g (n + 1) (upd T 10 (v', (T 10).2 ++ [⟨.slice a len cap, len, n + 1, .slice none 0 0⟩])) st (w6.setCell ⟨g, 10, none⟩ v'))) := Lib.hid (fun v' w6 hA => by
    have hO6 : OffB (fun q => q = g ∨ hv.ownBlock = some q) w w6 := hO1.trans (OffB.trans (.of_ext (Ext.refl _).drew) (hA.off.mono fun q hq => .inr hq))
    have hg6 : w6.heap[g]? = some (.cells (bkRow (n + 1) T) 46 (0, 0)) := (hA.off.block g (by rw [hsz1]; exact hgw) (fun e => hsepg g e rfl)).trans hr1
    obtain ⟨_, d1, d2⟩ := hcell w6 hg6
    have hO7 : OffB (fun q => q = g ∨ hv.ownBlock = some q) w (w6.setCell ⟨g, 10, none⟩ v') := hO6.setCell (p := ⟨g, 10, none⟩) (.inl rfl) _
    have hvq : ∀ q, v'.ownBlock = some q → q ≠ g := fun q hq e => by
      rcases hA.at_ q hq with h1 | h1
      · exact hsepg q h1 e
      · rw [hsz1] at h1; omega
    have hva : ∀ q, v'.ownBlock = some q → (T 10).1.ownBlock = some q ∨ w.heap.size ≤ q := fun q hq => by
      rw [← hhv]
      rcases hA.at_ q hq with h1 | h1
      · exact .inl h1
      · rw [hsz1] at h1; exact .inr h1
    refine ⟨d1, d2, Lib.hid ⟨hO7.below (fun q hq => ?_) (by rw [← hsz1]; exact hbase), by rw [← hhv]; exact hO7, hva, h.kept 10 h0 v' ⟨.slice a len cap, len, n + 1, .slice none 0 0⟩ ?_ (by rw [← hhv]; exact hO7) ?_ hva ⟨hx, rfl⟩ hxl hxg hxf⟩⟩
    · rcases hq with rfl | hq
      · exact h.gb
      · exact (hown.lt q hq).1
    · rw [setCell_eq_setRow _ _ _ _ _ _ _ hg6, setRow_heap _ _ _ _ _ _ hg6]
      rfl
    · have h1 : OwnC w6 base 181 3 v' (hs.length + 1) (hs.flatMap Hd.cs ++ [.slice a len cap, .slice none 0 0, .int .i64 ((n + 1 : Nat) : Int)]) := hA.own
      rw [← hhs, List.flatMap_append]
      refine h1.offB (B := fun q => q = g) ((OffB.refl (B := fun q => q = g) w6).setCell (p := ⟨g, 10, none⟩) rfl _) hvq)
  have hml : hs.length ≤ 1000000 := by rw [hhs]; exact hm
  obtain ⟨m, hmm⟩ : ∃ m, m = hs.length := ⟨_, rfl⟩
  obtain ⟨xs, hxs⟩ : ∃ xs, xs = hs.flatMap Hd.cs := ⟨_, rfl⟩
  rw [← hmm] at hml hown1 hfin
  rw [← hxs] at hown1 hfin
  have hown1' := Lib.hid hown1
  have hW1' := Lib.hid hW1
  have hn1 : IntKind.i64.wrap ((n : Int) + 1) = (n : Int) + 1 := by rw [IntKind.wrap_i64]; omega
  have e1 : ((n + 1 : Nat) : Int) = (n : Int) + 1 := by omega
  rw [e1] at ca0 cb0 cb1 cc0 cc1
  clear h h0 hm hx hxl hxg hxf hhv hhs hgw hr1 hO1 hown hsepg hown1 hcell hlit hW1 hmm hxs hsz1
  go_enter Tryz.func122, Tryz.ntmps122
  go_upto_region 1 with fail
  rw [show w.setCell ⟨g, 0, none⟩ (.int .i64 ((n : Int) + 1)) = W1 by rw [hW1'.out, e1]]
  clear c0 z0 hn1
  go_region_law (first | ((refine step_append_k rfl (.tmp 15) (.tmp 22) 41 181 rfl Tryz.underlying41 el_heldItem W1.drew base m xs hv (by rfl) hown1'.out #[.slice a len cap, .slice none 0 0, .int .i64 ((n : Int) + 1)] (by rfl) (by rfl) (by simp [Value.oneCell']) (by omega) (by omega) hbase ?_); (intro v' w6 hA; obtain ⟨oa4, oc4, rfl, _⟩ := hA.own.form; obtain ⟨hc6, hz6, hfin6⟩ := hfin.out _ w6 (by rw [e1]; exact hA); clear hA)) | fail)
  all_goals
    go_end0
    exact ⟨rfl, hfin6.out.1, hfin6.out.2.1, _, hfin6.out.2.2⟩
end Go.Proofs.YtmopjmhapeinjaaGreatDoor

/- keepSaid: a list more is kept. No condition. -/
namespace Go.Proofs.YtmopjmhapeinjaaGreatDoor
open Go.RowKit
set_option maxRecDepth 100000
set_option maxHeartbeats 4000000
theorem el_heldSaid : ElemIs Tryz.prog 184 3 56 := by
  refine ElemIs.mk (z := .agg #[.slice none 0 0, .slice none 0 0, .int .i64 0]) (by kernel_rfl) (by rfl) (by decide)
theorem keepSaid_any {base N0 g n : Nat} {T : Nat → Kd} {st : Nat → Nat} {w : World} (h : BkI bkT base N0 g n T st w) (h0 : ∀ j, st j = 0) (hn : n < 1000000) (hm : (T 11).2.length ≤ 1000000) (a : Option Addr) (len cap : Nat) (hx : ∃ xs, OwnC w base (bkT.et 11) (bkT.z 11) (.slice a len cap) len xs) (hxl : len ≤ 1000000) (hxg : (Value.slice a len cap).ownBlock ≠ some g) (hxf : ∀ j q, (Value.slice a len cap).ownBlock = some q → ¬ FP (T j) q) :
    Calls Tryz.prog 125 #[.pointer (some ⟨g, 0, none⟩), .slice a len cap] w fun e w' => e = .returned (.tuple #[]) ∧ Below base w w' ∧ OffB (fun q => q = g ∨ (T 11).1.ownBlock = some q) w w' ∧ ∃ v', (∀ q, v'.ownBlock = some q → (T 11).1.ownBlock = some q ∨ w.heap.size ≤ q) ∧ BkI bkT base w'.heap.size g (n + 1) (upd T 11 (v', (T 11).2 ++ [⟨.slice a len cap, len, n + 1, .slice none 0 0⟩])) st w' := by
  obtain ⟨hv, hhv⟩ : ∃ v, v = (T 11).1 := ⟨_, rfl⟩
  obtain ⟨hs, hhs⟩ : ∃ v, v = (T 11).2 := ⟨_, rfl⟩
  obtain ⟨W1, hW1⟩ : ∃ W, W = w.setCell ⟨g, 0, none⟩ (.int .i64 ((n + 1 : Nat) : Int)) := ⟨_, rfl⟩
  have hgw : g < w.heap.size := (Array.getElem?_eq_some_iff.1 h.row).1
  have c0 : w.cell? ⟨g, 0, none⟩ = some (.int .i64 (n : Int)) := by rw [cell_of_row _ _ _ _ _ _ h.row]; rfl
  have z0 : w.frozen? ⟨g, 0, none⟩ = false := by unfold World.frozen?; rw [h.row]; simp
  have hr1 : W1.heap[g]? = some (.cells (bkRow (n + 1) T) 46 (0, 0)) := by
    rw [hW1, setCell_eq_setRow _ _ _ _ _ _ _ h.row, setRow_heap _ _ _ _ _ _ h.row]
    rfl
  have hO1 : OffB (fun q => q = g ∨ hv.ownBlock = some q) w W1 := by rw [hW1]; exact (OffB.refl w).setCell (p := ⟨g, 0, none⟩) (.inl rfl) _
  have hown : OwnC w base 184 3 hv hs.length (hs.flatMap Hd.cs) := by have := h.hdr 11; rw [← hhv, ← hhs] at this; exact this
  have hsepg : ∀ q, hv.ownBlock = some q → q ≠ g := fun q hq e => h.sepg 11 (.inl (by rw [← hhv, ← e]; exact hq))
  have hown1 : OwnC W1.drew base 184 3 hv hs.length (hs.flatMap Hd.cs) := by
    refine (hown.offB (B := fun q => q = g) (w' := W1) ?_ hsepg).ext (Ext.refl _).drew
    rw [hW1]; exact (OffB.refl (B := fun q => q = g) w).setCell (p := ⟨g, 0, none⟩) rfl _
  have hsz1 : W1.drew.heap.size = w.heap.size := by show W1.heap.size = _; rw [hW1]; simp
  have hbase : base ≤ W1.drew.heap.size := by rw [hsz1]; have := h.gb; omega
  have hcell : ∀ (w' : World), w'.heap[g]? = some (.cells (bkRow (n + 1) T) 46 (0, 0)) → w'.cell? ⟨g, 0, none⟩ = some (.int .i64 ((n + 1 : Nat) : Int)) ∧ w'.cell? ⟨g, 11, none⟩ = some hv ∧ w'.frozen? ⟨g, 11, none⟩ = false := fun w' hw' => by
    refine ⟨by rw [cell_of_row _ _ _ _ _ _ hw']; rfl, by rw [cell_of_row _ _ _ _ _ _ hw', hhv]; rfl, ?_⟩
    unfold World.frozen?; rw [hw']; simp
  obtain ⟨ca0, ca1, _⟩ := hcell W1.drew hr1
  have hlit := fun o => hcell (W1.drew.alloc o) (((Ext.refl _).alloc _).row (show W1.drew.heap[g]? = _ from hr1))
  obtain ⟨cb0, cb1, _⟩ := hlit (.cells #[.slice a len cap, .slice none 0 0, .int .i64 ((n + 1 : Nat) : Int)] 184)
  have cc0 : (W1.alloc (.cells #[.slice a len cap, .slice none 0 0, .int .i64 ((n + 1 : Nat) : Int)] 184)).drew.cell? ⟨g, 0, none⟩ = _ := cb0
  have cc1 : (W1.alloc (.cells #[.slice a len cap, .slice none 0 0, .int .i64 ((n + 1 : Nat) : Int)] 184)).drew.cell? ⟨g, 11, none⟩ = _ := cb1
  have hfin : Hid (∀ v' w6, AppK W1.drew w6 base 184 3 hv v' hs.length (hs.flatMap Hd.cs) [.slice a len cap, .slice none 0 0, .int .i64 ((n + 1 : Nat) : Int)] → w6.cell? ⟨g, 11, none⟩ = some hv ∧ w6.frozen? ⟨g, 11, none⟩ = false ∧ Hid (Below base w (w6.setCell ⟨g, 11, none⟩ v') ∧ OffB (fun q => q = g ∨ (T 11).1.ownBlock = some q) w (w6.setCell ⟨g, 11, none⟩ v') ∧ (∀ q, v'.ownBlock = some q → (T 11).1.ownBlock = some q ∨ w.heap.size ≤ q) ∧ BkI bkT base (w6.setCell ⟨g, 11, none⟩ v').heap.size g (n + 1) (upd T 11 (v', (T 11).2 ++ [⟨.slice a len cap, len, n + 1, .slice none 0 0⟩])) st (w6.setCell ⟨g, 11, none⟩ v'))) := Lib.hid (fun v' w6 hA => by
    have hO6 : OffB (fun q => q = g ∨ hv.ownBlock = some q) w w6 := hO1.trans (OffB.trans (.of_ext (Ext.refl _).drew) (hA.off.mono fun q hq => .inr hq))
    have hg6 : w6.heap[g]? = some (.cells (bkRow (n + 1) T) 46 (0, 0)) := (hA.off.block g (by rw [hsz1]; exact hgw) (fun e => hsepg g e rfl)).trans hr1
    obtain ⟨_, d1, d2⟩ := hcell w6 hg6
    have hO7 : OffB (fun q => q = g ∨ hv.ownBlock = some q) w (w6.setCell ⟨g, 11, none⟩ v') := hO6.setCell (p := ⟨g, 11, none⟩) (.inl rfl) _
    have hvq : ∀ q, v'.ownBlock = some q → q ≠ g := fun q hq e => by
      rcases hA.at_ q hq with h1 | h1
      · exact hsepg q h1 e
      · rw [hsz1] at h1; omega
    have hva : ∀ q, v'.ownBlock = some q → (T 11).1.ownBlock = some q ∨ w.heap.size ≤ q := fun q hq => by
      rw [← hhv]
      rcases hA.at_ q hq with h1 | h1
      · exact .inl h1
      · rw [hsz1] at h1; exact .inr h1
    refine ⟨d1, d2, Lib.hid ⟨hO7.below (fun q hq => ?_) (by rw [← hsz1]; exact hbase), by rw [← hhv]; exact hO7, hva, h.kept 11 h0 v' ⟨.slice a len cap, len, n + 1, .slice none 0 0⟩ ?_ (by rw [← hhv]; exact hO7) ?_ hva ⟨hx, rfl⟩ hxl hxg hxf⟩⟩
    · rcases hq with rfl | hq
      · exact h.gb
      · exact (hown.lt q hq).1
    · rw [setCell_eq_setRow _ _ _ _ _ _ _ hg6, setRow_heap _ _ _ _ _ _ hg6]
      rfl
    · have h1 : OwnC w6 base 184 3 v' (hs.length + 1) (hs.flatMap Hd.cs ++ [.slice a len cap, .slice none 0 0, .int .i64 ((n + 1 : Nat) : Int)]) := hA.own
      rw [← hhs, List.flatMap_append]
      refine h1.offB (B := fun q => q = g) ((OffB.refl (B := fun q => q = g) w6).setCell (p := ⟨g, 11, none⟩) rfl _) hvq)
  have hml : hs.length ≤ 1000000 := by rw [hhs]; exact hm
  obtain ⟨m, hmm⟩ : ∃ m, m = hs.length := ⟨_, rfl⟩
  obtain ⟨xs, hxs⟩ : ∃ xs, xs = hs.flatMap Hd.cs := ⟨_, rfl⟩
  rw [← hmm] at hml hown1 hfin
  rw [← hxs] at hown1 hfin
  have hown1' := Lib.hid hown1
  have hW1' := Lib.hid hW1
  have hn1 : IntKind.i64.wrap ((n : Int) + 1) = (n : Int) + 1 := by rw [IntKind.wrap_i64]; omega
  have e1 : ((n + 1 : Nat) : Int) = (n : Int) + 1 := by omega
  rw [e1] at ca0 cb0 cb1 cc0 cc1
  clear h h0 hm hx hxl hxg hxf hhv hhs hgw hr1 hO1 hown hsepg hown1 hcell hlit hW1 hmm hxs hsz1
  go_enter Tryz.func125, Tryz.ntmps125
  go_upto_region 1 with fail
  rw [show w.setCell ⟨g, 0, none⟩ (.int .i64 ((n : Int) + 1)) = W1 by rw [hW1'.out, e1]]
  clear c0 z0 hn1
  go_region_law (first | ((refine step_append_k rfl (.tmp 15) (.tmp 22) 42 184 rfl Tryz.underlying42 el_heldSaid W1.drew base m xs hv (by rfl) hown1'.out #[.slice a len cap, .slice none 0 0, .int .i64 ((n : Int) + 1)] (by rfl) (by rfl) (by simp [Value.oneCell']) (by omega) (by omega) hbase ?_); (intro v' w6 hA; obtain ⟨oa4, oc4, rfl, _⟩ := hA.own.form; obtain ⟨hc6, hz6, hfin6⟩ := hfin.out _ w6 (by rw [e1]; exact hA); clear hA)) | fail)
  all_goals
    go_end0
    exact ⟨rfl, hfin6.out.1, hfin6.out.2.1, _, hfin6.out.2.2⟩
end Go.Proofs.YtmopjmhapeinjaaGreatDoor
