/- 'alive' of bucketlinelaw07. No condition. -/
import Derived.Test.YthhmehkclgmppaaTabX
import Derived.Deep.RegionHeld3
namespace Go.Proofs.Ythhmehkclgmppaa
open Go.RowKit
theorem rw_b2 : enRow eB2 = #[.string ⟨#[98]⟩, .int .u64 2, .bool false, .string ⟨#[118]⟩] := by kernel_rfl
theorem rw_a1 : enRow eA1 = #[.string ⟨#[97]⟩, .int .u64 1, .bool true, .string ⟨#[]⟩] := by kernel_rfl
theorem rw_b3 : enRow eB3 = #[.string ⟨#[98]⟩, .int .u64 3, .bool false, .string ⟨#[119, 120]⟩] := by kernel_rfl
theorem rw_y2 : enRow eY2 = #[.string ⟨#[98]⟩, .int .u64 2, .bool false, .string ⟨#[121]⟩] := by kernel_rfl
def eB1 : En := mkEn ⟨#[98]⟩ 1 ⟨#[118]⟩
def eN1 : En := mkEn ⟨#[]⟩ 1 ⟨#[118]⟩
theorem rw_b1 : enRow eB1 = #[.string ⟨#[98]⟩, .int .u64 1, .bool false, .string ⟨#[118]⟩] := by kernel_rfl
theorem rw_n1 : enRow eN1 = #[.string ⟨#[]⟩, .int .u64 1, .bool false, .string ⟨#[118]⟩] := by kernel_rfl
theorem rw_z : enRow zEn = #[.string ⟨#[]⟩, .int .u64 0, .bool false, .string ⟨#[]⟩] := rfl
theorem en_b2 (w : World) : Calls Try.prog 22 #[.string ⟨#[98]⟩, .int .u64 2, .string ⟨#[118]⟩] w fun e w' => e = .returned (.agg #[.string ⟨#[98]⟩, .int .u64 2, .bool false, .string ⟨#[118]⟩]) ∧ Ext w w' := by rw [← rw_b2]; exact entry_any w ⟨#[98]⟩ 2 ⟨#[118]⟩
theorem en_a1 (w : World) : Calls Try.prog 22 #[.string ⟨#[97]⟩, .int .u64 1, .string ⟨#[]⟩] w fun e w' => e = .returned (.agg #[.string ⟨#[97]⟩, .int .u64 1, .bool true, .string ⟨#[]⟩]) ∧ Ext w w' := by rw [← rw_a1]; exact entry_any w ⟨#[97]⟩ 1 ⟨#[]⟩
theorem en_b3 (w : World) : Calls Try.prog 22 #[.string ⟨#[98]⟩, .int .u64 3, .string ⟨#[119, 120]⟩] w fun e w' => e = .returned (.agg #[.string ⟨#[98]⟩, .int .u64 3, .bool false, .string ⟨#[119, 120]⟩]) ∧ Ext w w' := by rw [← rw_b3]; exact entry_any w ⟨#[98]⟩ 3 ⟨#[119, 120]⟩
theorem en_y2 (w : World) : Calls Try.prog 22 #[.string ⟨#[98]⟩, .int .u64 2, .string ⟨#[121]⟩] w fun e w' => e = .returned (.agg #[.string ⟨#[98]⟩, .int .u64 2, .bool false, .string ⟨#[121]⟩]) ∧ Ext w w' := by rw [← rw_y2]; exact entry_any w ⟨#[98]⟩ 2 ⟨#[121]⟩
theorem en_b1 (w : World) : Calls Try.prog 22 #[.string ⟨#[98]⟩, .int .u64 1, .string ⟨#[118]⟩] w fun e w' => e = .returned (.agg #[.string ⟨#[98]⟩, .int .u64 1, .bool false, .string ⟨#[118]⟩]) ∧ Ext w w' := by rw [← rw_b1]; exact entry_any w ⟨#[98]⟩ 1 ⟨#[118]⟩
theorem en_n1 (w : World) : Calls Try.prog 22 #[.string ⟨#[]⟩, .int .u64 1, .string ⟨#[118]⟩] w fun e w' => e = .returned (.agg #[.string ⟨#[]⟩, .int .u64 1, .bool false, .string ⟨#[118]⟩]) ∧ Ext w w' := by rw [← rw_n1]; exact entry_any w ⟨#[]⟩ 1 ⟨#[118]⟩
theorem al_p1 {w0 w : World} {tb : Nat} (h : TabX w0 w tb []) : Calls Try.prog 11 #[.pointer (some ⟨tb, 0, none⟩), .agg #[.string ⟨#[98]⟩, .int .u64 2, .bool false, .string ⟨#[118]⟩], .int .i64 1] w fun e w' => e = .returned (.int .i64 0) ∧ TabX w0 w' tb [eB2] := by
  have := tx_put h eB2 1 (by decide) ⟨by decide, by decide⟩
  rw [al_c1, al_l1, rw_b2] at this; exact this
theorem al_p2 {w0 w : World} {tb : Nat} (h : TabX w0 w tb [eB2]) : Calls Try.prog 11 #[.pointer (some ⟨tb, 0, none⟩), .agg #[.string ⟨#[97]⟩, .int .u64 1, .bool true, .string ⟨#[]⟩], .int .i64 8] w fun e w' => e = .returned (.int .i64 0) ∧ TabX w0 w' tb [eA1, eB2] := by
  have := tx_put h eA1 8 (by decide) ⟨by decide, by decide⟩
  rw [al_c2, al_l2, rw_a1] at this; exact this
theorem al_p3 {w0 w : World} {tb : Nat} (h : TabX w0 w tb [eA1, eB2]) : Calls Try.prog 11 #[.pointer (some ⟨tb, 0, none⟩), .agg #[.string ⟨#[98]⟩, .int .u64 3, .bool false, .string ⟨#[119, 120]⟩], .int .i64 2] w fun e w' => e = .returned (.int .i64 0) ∧ TabX w0 w' tb [eA1, eB3, eB2] := by
  have := tx_put h eB3 2 (by decide) ⟨by decide, by decide⟩
  rw [al_c3, al_l3, rw_b3] at this; exact this
theorem al_p4 {w0 w : World} {tb : Nat} (h : TabX w0 w tb [eA1, eB3, eB2]) : Calls Try.prog 11 #[.pointer (some ⟨tb, 0, none⟩), .agg #[.string ⟨#[98]⟩, .int .u64 2, .bool false, .string ⟨#[121]⟩], .int .i64 1] w fun e w' => e = .returned (.int .i64 8) ∧ TabX w0 w' tb alL := by
  have := tx_put h eY2 1 (by decide) ⟨by decide, by decide⟩
  rw [al_c4, al_l4, rw_y2] at this; exact this
theorem al_b {w0 w : World} {tb : Nat} (h : TabX w0 w tb alL) : Calls Try.prog 11 #[.pointer (some ⟨tb, 0, none⟩), .agg #[.string ⟨#[98]⟩, .int .u64 1, .bool false, .string ⟨#[118]⟩], .int .i64 9] w fun e w' => e = .returned (.int .i64 1) ∧ Ext w w' := by
  have := tx_arg h eB1 9 ⟨by decide, by decide⟩ al_o1
  rw [rw_b1] at this; exact this
theorem al_n {w0 w : World} {tb : Nat} (h : TabX w0 w tb alL) : Calls Try.prog 11 #[.pointer (some ⟨tb, 0, none⟩), .agg #[.string ⟨#[]⟩, .int .u64 1, .bool false, .string ⟨#[118]⟩], .int .i64 1] w fun e w' => e = .returned (.int .i64 1) ∧ Ext w w' := by
  have := tx_arg h eN1 1 ⟨by decide, by decide⟩ al_o2
  rw [rw_n1] at this; exact this
theorem al_t1 {w0 w : World} {tb : Nat} (h : TabX w0 w tb alL) : Calls Try.prog 10 #[.pointer (some ⟨tb, 0, none⟩), .string ⟨#[98]⟩, .int .u64 9] w fun e w' => e = .returned (.tuple #[.agg #[.string ⟨#[98]⟩, .int .u64 3, .bool false, .string ⟨#[119, 120]⟩], .bool true]) ∧ Ext w w' := by
  have := tx_get h ⟨#[98]⟩ 9
  rw [al_g1, Option.getD_some, rw_b3] at this; exact this
theorem al_t2 {w0 w : World} {tb : Nat} (h : TabX w0 w tb alL) : Calls Try.prog 10 #[.pointer (some ⟨tb, 0, none⟩), .string ⟨#[98]⟩, .int .u64 2] w fun e w' => e = .returned (.tuple #[.agg #[.string ⟨#[98]⟩, .int .u64 2, .bool false, .string ⟨#[118]⟩], .bool true]) ∧ Ext w w' := by
  have := tx_get h ⟨#[98]⟩ 2
  rw [al_g2, Option.getD_some, rw_b2] at this; exact this
theorem al_t3 {w0 w : World} {tb : Nat} (h : TabX w0 w tb alL) : Calls Try.prog 10 #[.pointer (some ⟨tb, 0, none⟩), .string ⟨#[98]⟩, .int .u64 1] w fun e w' => e = .returned (.tuple #[.agg #[.string ⟨#[]⟩, .int .u64 0, .bool false, .string ⟨#[]⟩], .bool false]) ∧ Ext w w' := by
  have := tx_get h ⟨#[98]⟩ 1
  rw [al_g3] at this; exact this
theorem al_t4 {w0 w : World} {tb : Nat} (h : TabX w0 w tb alL) : Calls Try.prog 10 #[.pointer (some ⟨tb, 0, none⟩), .string ⟨#[97]⟩, .int .u64 5] w fun e w' => e = .returned (.tuple #[.agg #[.string ⟨#[97]⟩, .int .u64 1, .bool true, .string ⟨#[]⟩], .bool true]) ∧ Ext w w' := by
  have := tx_get h ⟨#[97]⟩ 5
  rw [al_g4, Option.getD_some, rw_a1] at this; exact this
theorem al_h1 {w0 w : World} {tb : Nat} (h : TabX w0 w tb alL) : Calls Try.prog 12 #[.pointer (some ⟨tb, 0, none⟩), .agg #[.string ⟨#[98]⟩, .int .u64 2, .bool false], .int .i64 9] w fun e w' => ∃ a cap, e = .returned (.slice a 1 cap) ∧ RowIs w' 4 (.slice a 1 cap) 1 ([eB2].flatMap enL) ∧ Ext w w' := by
  have := tx_from h (by decide) ⟨⟨#[98]⟩, 2, false⟩ 9
  rw [show (9 : Int).toNat = 9 from rfl, al_f1] at this
  exact this.mono fun _ _ h => from_row h
theorem al_h2 {w0 w : World} {tb : Nat} (h : TabX w0 w tb alL) : Calls Try.prog 12 #[.pointer (some ⟨tb, 0, none⟩), .agg #[.string ⟨#[97]⟩, .int .u64 5, .bool false], .int .i64 1] w fun e w' => ∃ a cap, e = .returned (.slice a 1 cap) ∧ RowIs w' 4 (.slice a 1 cap) 1 ([eA1].flatMap enL) ∧ Ext w w' := by
  have := tx_from h (by decide) ⟨⟨#[97]⟩, 5, false⟩ 1
  rw [show (1 : Int).toNat = 1 from rfl, al_f2] at this
  exact this.mono fun _ _ h => from_row h
theorem al_s {w : World} {x : En} {cs : Array Value} {a : Option Addr} {cap g : Nat} (hr : enRow x = cs) (h1 : RowIs w 4 (.slice a 1 cap) 1 ([x].flatMap enL)) (h2 : RowIs w 4 (.slice (some ⟨g, 0, none⟩) 1 1) 1 cs.toList) : Calls Try.prog 20 #[.slice a 1 cap, .slice (some ⟨g, 0, none⟩) 1 1] w fun e w' => e = .returned (.bool true) ∧ Ext w w' := by
  subst hr
  have := same_any w [x] [x] a (some ⟨g, 0, none⟩) cap 1 h1 (by rw [show [x].flatMap enL = (enRow x).toList by simp [enL]]; exact h2)
  rw [decide_eq_true rfl] at this
  exact this
theorem st_lit {w : World} {k v : ByteArray} {s : Int} {b : Bool} {g : Nat} (hr : w.heap[g]? = some (.cells #[.string k, .int .u64 s, .bool b, .string v] 26 (0, 0))) : ∀ w', Ext w w' → w'.cell? ⟨g, 0, none⟩ = some (.string k) ∧ w'.cell? ⟨g, 1, none⟩ = some (.int .u64 s) ∧ w'.cell? ⟨g, 2, none⟩ = some (.bool b) ∧ w'.cell? ⟨g, 3, none⟩ = some (.string v) := by
  intro w' he
  have h := he.row hr
  refine ⟨?_, ?_, ?_, ?_⟩ <;> (rw [cell_of_row _ _ _ _ 26 (0, 0) h]; rfl)
set_option maxRecDepth 100000 in
set_option maxHeartbeats 2000000 in
theorem alive_any (w : World) : Calls Try.prog 15 #[] w fun e w' => e = .returned (.bool true) ∧ Ext w w' := by
  go_enter Try.func15, Try.ntmps15
  go_wp2_with fail
  refine (tx_new w).mono ?_
  rintro e w0 ⟨rfl, hT⟩
  go_wp2_with fail
  refine (en_b2 _).mono ?_
  rintro e wa ⟨rfl, hE⟩
  replace hT := hT.ext hE
  clear hE
  go_wp2_with fail
  refine (al_p1 hT).mono ?_
  clear hT
  rintro e wb ⟨rfl, hT⟩
  go_wp2_with fail
  refine (en_a1 _).mono ?_
  rintro e wa ⟨rfl, hE⟩
  replace hT := hT.ext hE
  clear hE
  go_wp2_with fail
  refine (al_p2 hT).mono ?_
  clear hT
  rintro e wb ⟨rfl, hT⟩
  go_wp2_with fail
  refine (en_b3 _).mono ?_
  rintro e wa ⟨rfl, hE⟩
  replace hT := hT.ext hE
  clear hE
  go_wp2_with fail
  refine (al_p3 hT).mono ?_
  clear hT
  rintro e wb ⟨rfl, hT⟩
  go_wp2_with fail
  refine (en_y2 _).mono ?_
  rintro e wa ⟨rfl, hE⟩
  replace hT := hT.ext hE
  clear hE
  go_wp2_with fail
  refine (al_p4 hT).mono ?_
  clear hT
  rintro e wb ⟨rfl, hT⟩
  go_wp2_with fail
  have hlen := tx_len hT
  rw [show ((alL.length : Nat) : Int) = 3 from rfl] at hlen
  refine hlen.mono ?_
  clear hlen
  rintro e wc ⟨rfl, rfl⟩
  go_wp2_with fail
  have hlen := tx_bytes hT
  rw [show ((szL alL : Nat) : Int) = 6 from rfl] at hlen
  refine hlen.mono ?_
  clear hlen
  rintro e wc ⟨rfl, rfl⟩
  go_wp2_with fail
  refine (al_t1 hT).mono ?_
  rintro e v0 ⟨rfl, hE⟩
  replace hT := hT.ext hE
  clear hE
  go_wp2_with (first | (refine wpList_store_whole (by rfl) 26 (.tmp 2) (.tmp 52) (by rfl) v0 _ #[.string ⟨#[98]⟩, .int .u64 3, .bool false, .string ⟨#[119, 120]⟩] v0.heap.size (by rfl) rfl (by rfl) info_entry rfl rfl ?_) | fail)
  have hr0 := heap_alloc_new v0 (.cells #[.string ⟨#[98]⟩, .int .u64 3, .bool false, .string ⟨#[119, 120]⟩] 26)
  have hE := (Ext.refl v0).alloc (.cells #[.string ⟨#[98]⟩, .int .u64 3, .bool false, .string ⟨#[119, 120]⟩] 26)
  replace hT := hT.ext hE
  clear hE
  generalize v0.alloc _ = u0 at *
  obtain ⟨g0, hg0⟩ : ∃ g, g = v0.heap.size := ⟨_, rfl⟩
  rw [← hg0] at hr0 ⊢
  clear hg0
  go_wp2_with fail
  refine (al_t2 hT).mono ?_
  rintro e v1 ⟨rfl, hE⟩
  replace hT := hT.ext hE
  replace hr0 := hE.row hr0
  clear hE
  go_wp2_with (first | (refine wpList_store_whole (by rfl) 26 (.tmp 4) (.tmp 57) (by rfl) v1 _ #[.string ⟨#[98]⟩, .int .u64 2, .bool false, .string ⟨#[118]⟩] v1.heap.size (by rfl) rfl (by rfl) info_entry rfl rfl ?_) | fail)
  have hr1 := heap_alloc_new v1 (.cells #[.string ⟨#[98]⟩, .int .u64 2, .bool false, .string ⟨#[118]⟩] 26)
  have hE := (Ext.refl v1).alloc (.cells #[.string ⟨#[98]⟩, .int .u64 2, .bool false, .string ⟨#[118]⟩] 26)
  replace hT := hT.ext hE
  replace hr0 := hE.row hr0
  clear hE
  generalize v1.alloc _ = u1 at *
  obtain ⟨g1, hg1⟩ : ∃ g, g = v1.heap.size := ⟨_, rfl⟩
  rw [← hg1] at hr1 ⊢
  clear hg1
  go_wp2_with fail
  refine (al_t3 hT).mono ?_
  rintro e v2 ⟨rfl, hE⟩
  replace hT := hT.ext hE
  replace hr0 := hE.row hr0
  replace hr1 := hE.row hr1
  clear hE
  go_wp2_with (first | (refine wpList_store_whole (by rfl) 26 (.tmp 6) (.tmp 62) (by rfl) v2 _ #[.string ⟨#[]⟩, .int .u64 0, .bool false, .string ⟨#[]⟩] v2.heap.size (by rfl) rfl (by rfl) info_entry rfl rfl ?_) | fail)
  have hr2 := heap_alloc_new v2 (.cells #[.string ⟨#[]⟩, .int .u64 0, .bool false, .string ⟨#[]⟩] 26)
  have hE := (Ext.refl v2).alloc (.cells #[.string ⟨#[]⟩, .int .u64 0, .bool false, .string ⟨#[]⟩] 26)
  replace hT := hT.ext hE
  replace hr0 := hE.row hr0
  replace hr1 := hE.row hr1
  clear hE
  generalize v2.alloc _ = u2 at *
  obtain ⟨g2, hg2⟩ : ∃ g, g = v2.heap.size := ⟨_, rfl⟩
  rw [← hg2] at hr2 ⊢
  clear hg2
  go_wp2_with fail
  refine (al_t4 hT).mono ?_
  rintro e v3 ⟨rfl, hE⟩
  replace hT := hT.ext hE
  replace hr0 := hE.row hr0
  replace hr1 := hE.row hr1
  replace hr2 := hE.row hr2
  clear hE
  go_wp2_with (first | (refine wpList_store_whole (by rfl) 26 (.tmp 8) (.tmp 67) (by rfl) v3 _ #[.string ⟨#[97]⟩, .int .u64 1, .bool true, .string ⟨#[]⟩] v3.heap.size (by rfl) rfl (by rfl) info_entry rfl rfl ?_) | fail)
  have hr3 := heap_alloc_new v3 (.cells #[.string ⟨#[97]⟩, .int .u64 1, .bool true, .string ⟨#[]⟩] 26)
  have hE := (Ext.refl v3).alloc (.cells #[.string ⟨#[97]⟩, .int .u64 1, .bool true, .string ⟨#[]⟩] 26)
  replace hT := hT.ext hE
  replace hr0 := hE.row hr0
  replace hr1 := hE.row hr1
  replace hr2 := hE.row hr2
  clear hE
  generalize v3.alloc _ = u3 at *
  obtain ⟨g3, hg3⟩ : ∃ g, g = v3.heap.size := ⟨_, rfl⟩
  rw [← hg3] at hr3 ⊢
  clear hg3
  go_wp2_with fail
  refine (al_h1 hT).mono ?_
  rintro e x0 ⟨a0, cap0, rfl, hq0, hE⟩
  replace hT := hT.ext hE
  replace hr0 := hE.row hr0
  replace hr1 := hE.row hr1
  replace hr2 := hE.row hr2
  replace hr3 := hE.row hr3
  clear hE
  go_wp2_with fail
  refine (al_h2 hT).mono ?_
  rintro e x1 ⟨a1, cap1, rfl, hq1, hE⟩
  replace hT := hT.ext hE
  replace hr0 := hE.row hr0
  replace hr1 := hE.row hr1
  replace hr2 := hE.row hr2
  replace hr3 := hE.row hr3
  replace hq0 := hq0.ext hE
  clear hE
  have h0 : Ext w x1 := hT.1
  have hX : ∀ w', Ext x1 w' → Ext x1 w' ∧ (w'.cell? ⟨g0, 0, none⟩ = some (.string ⟨#[98]⟩) ∧ w'.cell? ⟨g0, 1, none⟩ = some (.int .u64 3) ∧ w'.cell? ⟨g0, 2, none⟩ = some (.bool false) ∧ w'.cell? ⟨g0, 3, none⟩ = some (.string ⟨#[119, 120]⟩)) ∧
      (w'.cell? ⟨g1, 0, none⟩ = some (.string ⟨#[98]⟩) ∧ w'.cell? ⟨g1, 1, none⟩ = some (.int .u64 2) ∧ w'.cell? ⟨g1, 2, none⟩ = some (.bool false) ∧ w'.cell? ⟨g1, 3, none⟩ = some (.string ⟨#[118]⟩)) ∧
      (w'.cell? ⟨g3, 0, none⟩ = some (.string ⟨#[97]⟩) ∧ w'.cell? ⟨g3, 1, none⟩ = some (.int .u64 1) ∧ w'.cell? ⟨g3, 2, none⟩ = some (.bool true) ∧ w'.cell? ⟨g3, 3, none⟩ = some (.string ⟨#[]⟩)) :=
    fun w' he => ⟨he, st_lit hr0 w' he, st_lit hr1 w' he, st_lit hr3 w' he⟩
  have hX' := Lib.hid hX
  have hT' := Lib.hid hT
  have hq0' := Lib.hid hq0
  have hq1' := Lib.hid hq1
  clear hX hT hq0 hq1 hr0 hr1 hr2 hr3
  go_upto_region 10 with fail
  go_region_held3 (fun w' => Ext x1 w' ∧ (w'.cell? ⟨g0, 0, none⟩ = some (.string ⟨#[98]⟩) ∧ w'.cell? ⟨g0, 1, none⟩ = some (.int .u64 3) ∧ w'.cell? ⟨g0, 2, none⟩ = some (.bool false) ∧ w'.cell? ⟨g0, 3, none⟩ = some (.string ⟨#[119, 120]⟩)) ∧
      (w'.cell? ⟨g1, 0, none⟩ = some (.string ⟨#[98]⟩) ∧ w'.cell? ⟨g1, 1, none⟩ = some (.int .u64 2) ∧ w'.cell? ⟨g1, 2, none⟩ = some (.bool false) ∧ w'.cell? ⟨g1, 3, none⟩ = some (.string ⟨#[118]⟩)) ∧
      (w'.cell? ⟨g3, 0, none⟩ = some (.string ⟨#[97]⟩) ∧ w'.cell? ⟨g3, 1, none⟩ = some (.int .u64 1) ∧ w'.cell? ⟨g3, 2, none⟩ = some (.bool true) ∧ w'.cell? ⟨g3, 3, none⟩ = some (.string ⟨#[]⟩))) ((refine hX'.out _ ?_; first | exact (Ext.refl _).drew | assumption | (go_split_ands; assumption) | (refine Ext.alloc ?_ _; go_split_ands; assumption))) (first
      | (go_at_call 22; (with_reducible refine (calls_ext (W := x1) (by go_split_ands; assumption) (en_b3 _)).mono ?_); rintro e w1 ⟨rfl, hE1⟩)
      | (go_at_call 22; (with_reducible refine (calls_ext (W := x1) (by go_split_ands; assumption) (en_b2 _)).mono ?_); rintro e w1 ⟨rfl, hE1⟩)
      | (go_at_call 22; (with_reducible refine (calls_ext (W := x1) (by go_split_ands; assumption) (en_a1 _)).mono ?_); rintro e w1 ⟨rfl, hE1⟩)
      | (go_at_call 22; (with_reducible refine (calls_ext (W := x1) (by go_split_ands; assumption) (en_b1 _)).mono ?_); rintro e w1 ⟨rfl, hE1⟩)
      | (go_at_call 22; (with_reducible refine (calls_ext (W := x1) (by go_split_ands; assumption) (en_n1 _)).mono ?_); rintro e w1 ⟨rfl, hE1⟩)
      | (go_at_call 20; (with_reducible refine (calls_ext (W := x1) (by go_split_ands; assumption) (al_s rw_b2 (hq0'.out.ext (by go_split_ands; assumption)) (RowIs.lit _ 4 1 _ _ _ rfl (by decide)))).mono ?_); rintro e w1 ⟨rfl, hE1⟩)
      | (go_at_call 20; (with_reducible refine (calls_ext (W := x1) (by go_split_ands; assumption) (al_s rw_a1 (hq1'.out.ext (by go_split_ands; assumption)) (RowIs.lit _ 4 1 _ _ _ rfl (by decide)))).mono ?_); rintro e w1 ⟨rfl, hE1⟩)
      | (go_at_call 11; (with_reducible refine (calls_ext (W := x1) (by go_split_ands; assumption) (al_b (hT'.out.ext (by go_split_ands; assumption)))).mono ?_); rintro e w1 ⟨rfl, hE1⟩)
      | (go_at_call 11; (with_reducible refine (calls_ext (W := x1) (by go_split_ands; assumption) (al_n (hT'.out.ext (by go_split_ands; assumption)))).mono ?_); rintro e w1 ⟨rfl, hE1⟩)
      | fail)
  all_goals (go_wp2_with fail; go_ret; exact ⟨rfl, h0.trans (by go_split_ands; assumption)⟩)
end Go.Proofs.Ythhmehkclgmppaa
