/- pasts.may: may an event be? No condition. -/
import Derived.Test.YtgbiifefpidebaaEv
import Derived.Deep.CutRange
import Derived.Laws.Cover1
namespace Go.Proofs.Ytgbiifefpidebaa
open Go.RowKit
set_option maxRecDepth 100000
set_option maxHeartbeats 4000000
def Ev.people (x : Ev) : Bool := decide (1 ≤ x.cl) && (decide (x.cl ≤ 8) && (x.num != 0))
def Ev.level (x : Ev) : Bool := (x.lvl == 1) || (x.lvl == 2)
def Ev.mayB (x : Ev) : Bool :=
  if x.kind = 1 then x.people && (x.level && x.ask.okB)
  else if x.kind = 2 then x.people && (x.level && ((x.ep != 0) && (x.idx != 0)))
  else if x.kind = 3 then (x.ep != 0) && (decide (x.lvl ≤ 2) && ((x.lvl != 2) || (x.idx == 0)))
  else if x.kind = 5 then x.people && ((x.ep != 0) && ((x.idx != 0) && x.ask.okB))
  else x.kind == 4
theorem ev_cells {w : World} {g : Nat} {x : Ev} (h : w.heap[g]? = some (.cells x.row 40 (0, 0))) :
    w.cell? ⟨g, 0, none⟩ = some (.int .u8 x.kind) ∧ w.cell? ⟨g, 1, none⟩ = some (.int .u32 x.ep) ∧ w.cell? ⟨g, 2, none⟩ = some (.int .u8 x.cl) ∧ w.cell? ⟨g, 3, none⟩ = some (.int .u32 x.num) ∧
    w.cell? ⟨g, 4, none⟩ = some (.int .u8 x.ask.kind) ∧ w.cell? ⟨g, 5, none⟩ = some (.string x.ask.key) ∧ w.cell? ⟨g, 6, none⟩ = some (.string x.ask.val) ∧ w.cell? ⟨g, 7, none⟩ = some (.string x.ask.old) ∧ w.cell? ⟨g, 8, none⟩ = some (.bool x.ask.new) ∧ w.cell? ⟨g, 9, none⟩ = some (.string x.ask.to) ∧ w.cell? ⟨g, 10, none⟩ = some (.int .i64 x.ask.many) ∧ w.cell? ⟨g, 11, none⟩ = some (.slice x.ad x.ask.chs.length x.cap) ∧
    w.cell? ⟨g, 12, none⟩ = some (.int .u8 x.lvl) ∧ w.cell? ⟨g, 13, none⟩ = some (.int .i64 x.re) ∧ w.cell? ⟨g, 14, none⟩ = some (.bool x.ry) ∧ w.cell? ⟨g, 15, none⟩ = some (.slice x.ra x.rows.length x.rc) ∧ w.cell? ⟨g, 16, none⟩ = some (.int .u64 x.idx) := by
  refine ⟨?_, ?_, ?_, ?_, ?_, ?_, ?_, ?_, ?_, ?_, ?_, ?_, ?_, ?_, ?_, ?_, ?_⟩ <;> (rw [cell_of_row _ _ _ _ 40 (0, 0) h]; rfl)
theorem may_any (w : World) (x : Ev) (h : x.good w) : Calls Try.prog 15 #[.agg x.row] w fun e w' => e = .returned (.bool x.mayB) ∧ Ext w w' := by
  obtain ⟨W, hW⟩ : ∃ W, W = w.alloc (.cells x.row 40) := ⟨_, rfl⟩
  have hE : Ext w W := by rw [hW]; exact (Ext.refl _).alloc _
  have hX : W.heap[w.heap.size]? = some (.cells x.row 40 (0, 0)) := by rw [hW]; exact heap_alloc_new w _
  obtain ⟨c0, c1, c2, c3, c4, c5, c6, c7, c8, c9, c10, c11, c12, c13, c14, c15, c16⟩ := ev_cells hX
  have hck := check_any W x.ask x.ad x.cap (h.chs.ext hE) h.ask
  obtain ⟨B, hB⟩ : ∃ B, B = x.ask.okB := ⟨_, rfl⟩
  obtain ⟨Pp, hP⟩ : ∃ B, B = x.people := ⟨_, rfl⟩
  obtain ⟨Lv, hL⟩ : ∃ B, B = x.level := ⟨_, rfl⟩
  rw [← hB] at hck
  unfold Ak.row at hck
  obtain ⟨M, hM⟩ : ∃ M, M = x.mayB := ⟨_, rfl⟩
  rw [← hM]
  have hM' := Lib.hid hM
  have hB' := Lib.hid hB
  have hP' := Lib.hid hP
  have hL' := Lib.hid hL
  have hck' := Lib.hid hck
  have hW' := Lib.hid hW
  have hg' := Lib.hid h
  clear hW hX hck hM hB hP hL h
  unfold Ev.row at hW'
  unfold Ev.row
  go_enter Try.func15, Try.ntmps15
  go_upto_region 1 with fail
  rw [← hW'.out]
  clear hW'
  go_cut [3] from 5 to 17 (fun p wx => p = .bool Pp ∧ wx = W)
  case first =>
    have hPp : Hid (Pp = (decide (1 ≤ x.cl) && (decide (x.cl ≤ 8) && (x.num != 0)))) := Lib.hid hP'.out
    by_cases h1 : 1 ≤ x.cl
    · by_cases h2 : x.cl ≤ 8
      · cases h3 : (x.num != 0)
        · have : Hid (Pp = false) := Lib.hid (by rw [hPp.out, h3]; simp)
          go_wp2_with fail
          all_goals go_meet
          all_goals exact ⟨by rw [this.out], rfl⟩
        · have : Hid (Pp = true) := Lib.hid (by rw [hPp.out, h3]; simp [h1, h2])
          go_wp2_with fail
          all_goals go_meet
          all_goals exact ⟨by rw [this.out], rfl⟩
      · have : Hid (Pp = false) := Lib.hid (by rw [hPp.out]; simp [h2])
        go_wp2_with fail
        all_goals go_meet
        all_goals exact ⟨by rw [this.out], rfl⟩
    · have : Hid (Pp = false) := Lib.hid (by rw [hPp.out]; simp [h1])
      go_wp2_with fail
      all_goals go_meet
      all_goals exact ⟨by rw [this.out], rfl⟩
  case rest =>
  obtain ⟨rfl, rfl⟩ := hcut
  go_upto_region 2 with fail
  go_cut [4] from 18 to 25 (fun p wx => p = .bool Lv ∧ wx = wc)
  case first =>
    have hLl : Hid (Lv = ((x.lvl == 1) || (x.lvl == 2))) := Lib.hid hL'.out
    cases h1 : (x.lvl == 1)
    · cases h2 : (x.lvl == 2)
      · have : Hid (Lv = false) := Lib.hid (by rw [hLl.out, h1, h2]; rfl)
        go_wp2_with fail
        all_goals go_meet
        all_goals exact ⟨by rw [this.out], rfl⟩
      · have : Hid (Lv = true) := Lib.hid (by rw [hLl.out, h1, h2]; rfl)
        go_wp2_with fail
        all_goals go_meet
        all_goals exact ⟨by rw [this.out], rfl⟩
    · have : Hid (Lv = true) := Lib.hid (by rw [hLl.out, h1]; rfl)
      go_wp2_with fail
      all_goals go_meet
      all_goals exact ⟨by rw [this.out], rfl⟩
  case rest =>
  obtain ⟨rfl, rfl⟩ := hcut
  have hMM : Hid (M = if x.kind = 1 then Pp && (Lv && B) else if x.kind = 2 then Pp && (Lv && ((x.ep != 0) && (x.idx != 0))) else if x.kind = 3 then (x.ep != 0) && (decide (x.lvl ≤ 2) && ((x.lvl != 2) || (x.idx == 0))) else if x.kind = 5 then Pp && ((x.ep != 0) && ((x.idx != 0) && B)) else x.kind == 4) := Lib.hid (by rw [hM'.out, hP'.out, hL'.out, hB'.out]; rfl)
  cases h1 : (x.kind == 1)
  case true =>
    have e1 := eq_of_beq h1
    have hm : Hid (M = (Pp && (Lv && B))) := Lib.hid (by rw [hMM.out, if_pos e1])
    clear e1
    cases Pp
    · go_wp2_with fail
      go_ret
      exact ⟨by rw [hm.out]; rfl, hE⟩
    cases Lv
    · go_wp2_with fail
      go_ret
      exact ⟨by rw [hm.out]; rfl, hE⟩
    go_wp2_with fail
    refine hck'.out.mono ?_
    rintro e w2 ⟨rfl, hE2⟩
    go_wp2_with fail
    go_ret
    exact ⟨by rw [hm.out]; rfl, hE.trans hE2⟩
  have n1 : ¬ x.kind = 1 := fun h => by rw [h] at h1; exact Bool.noConfusion h1
  replace hMM := Lib.hid (by have := hMM.out; rw [if_neg n1] at this; exact this)
  clear n1
  cases h2 : (x.kind == 2)
  case true =>
    have e1 := eq_of_beq h2
    have hm : Hid (M = (Pp && (Lv && ((x.ep != 0) && (x.idx != 0))))) := Lib.hid (by rw [hMM.out, if_pos e1])
    clear e1
    cases Pp
    · go_wp2_with fail
      go_ret
      exact ⟨by rw [hm.out]; rfl, hE⟩
    cases Lv
    · go_wp2_with fail
      go_ret
      exact ⟨by rw [hm.out]; rfl, hE⟩
    cases h3 : (x.ep != 0)
    · go_wp2_with fail
      go_ret
      exact ⟨by rw [hm.out, h3]; rfl, hE⟩
    cases h4 : (x.idx != 0)
    all_goals
      go_wp2_with fail
      go_ret
      exact ⟨by rw [hm.out, h3, h4]; rfl, hE⟩
  have n1 : ¬ x.kind = 2 := fun h => by rw [h] at h2; exact Bool.noConfusion h2
  replace hMM := Lib.hid (by have := hMM.out; rw [if_neg n1] at this; exact this)
  clear n1
  cases h3 : (x.kind == 3)
  case true =>
    have e1 := eq_of_beq h3
    have hm : Hid (M = ((x.ep != 0) && (decide (x.lvl ≤ 2) && ((x.lvl != 2) || (x.idx == 0))))) := Lib.hid (by rw [hMM.out, if_pos e1])
    clear e1
    cases h4 : (x.ep != 0)
    · go_wp2_with fail
      go_ret
      exact ⟨by rw [hm.out, h4]; rfl, hE⟩
    by_cases h5 : x.lvl ≤ 2
    · have d5 : decide (x.lvl ≤ 2) = true := decide_eq_true h5
      cases h6 : (x.lvl != 2)
      · cases h7 : (x.idx == 0)
        all_goals
          go_wp2_with fail
          go_ret
          exact ⟨by rw [hm.out, h4, d5, h6, h7]; rfl, hE⟩
      · go_wp2_with fail
        go_ret
        exact ⟨by rw [hm.out, h4, d5, h6]; rfl, hE⟩
    · have d5 : decide (x.lvl ≤ 2) = false := decide_eq_false h5
      go_wp2_with fail
      go_ret
      exact ⟨by rw [hm.out, h4, d5]; rfl, hE⟩
  have n1 : ¬ x.kind = 3 := fun h => by rw [h] at h3; exact Bool.noConfusion h3
  replace hMM := Lib.hid (by have := hMM.out; rw [if_neg n1] at this; exact this)
  clear n1
  cases h5 : (x.kind == 5)
  case true =>
    have e1 := eq_of_beq h5
    have hm : Hid (M = (Pp && ((x.ep != 0) && ((x.idx != 0) && B)))) := Lib.hid (by rw [hMM.out, if_pos e1])
    clear e1
    cases Pp
    · go_wp2_with fail
      go_ret
      exact ⟨by rw [hm.out]; rfl, hE⟩
    cases h6 : (x.ep != 0)
    · go_wp2_with fail
      go_ret
      exact ⟨by rw [hm.out, h6]; rfl, hE⟩
    cases h7 : (x.idx != 0)
    · go_wp2_with fail
      go_ret
      exact ⟨by rw [hm.out, h6, h7]; rfl, hE⟩
    go_wp2_with fail
    refine hck'.out.mono ?_
    rintro e w2 ⟨rfl, hE2⟩
    go_wp2_with fail
    go_ret
    exact ⟨by rw [hm.out, h6, h7]; rfl, hE.trans hE2⟩
  have n1 : ¬ x.kind = 5 := fun h => by rw [h] at h5; exact Bool.noConfusion h5
  have hm : Hid (M = (x.kind == 4)) := Lib.hid (by have := hMM.out; rw [if_neg n1] at this; exact this)
  clear n1 hMM
  go_wp2_with fail
  go_ret
  exact ⟨by rw [hm.out]; rfl, hE⟩
end Go.Proofs.Ytgbiifefpidebaa
