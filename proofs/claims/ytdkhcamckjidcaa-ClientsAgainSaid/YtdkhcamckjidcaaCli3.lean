/- A client's Came. No condition. -/
import Derived.Test.YtdkhcamckjidcaaCli2
import Derived.Deep.QuietTactic
import Derived.BigQuiet
namespace Go.Proofs.Ytdkhcamckjidcaa
open Go.RowKit
structure Mg where
  say : Int
  fr : Int
  to : Int
  ep : Int
  lv : Int
  num : Int
  ix : Int
  sure : Int
def Mg.row (m : Mg) (v8 v9 v10 v11 v12 v13 v14 v15 : Value) : Array Value := #[.int .u8 m.say, .int .u8 m.fr, .int .u8 m.to, .int .u32 m.ep, .int .u8 m.lv, .int .u32 m.num, .int .u64 m.ix, .int .u64 m.sure, v8, v9, v10, v11, v12, v13, v14, v15]
theorem Mg.cells {W : World} {g : Nat} {m : Mg} {v8 v9 v10 v11 v12 v13 v14 v15 : Value} (h : W.heap[g]? = some (.cells (m.row v8 v9 v10 v11 v12 v13 v14 v15) 66 (0, 0))) :
    W.cell? ⟨g, 0, none⟩ = some (.int .u8 m.say) ∧ W.cell? ⟨g, 2, none⟩ = some (.int .u8 m.to) ∧ W.cell? ⟨g, 4, none⟩ = some (.int .u8 m.lv) ∧ W.cell? ⟨g, 5, none⟩ = some (.int .u32 m.num) := by
  refine ⟨?_, ?_, ?_, ?_⟩ <;> (rw [cell_of_row _ _ _ _ 66 (0, 0) h]; rfl)
theorem ext_drewN {a w : World} (h : Ext a w) (n : Nat) : Ext a (w.drewN n) := h.trans ⟨rfl, rfl, rfl, Nat.le_refl _, fun _ _ => rfl⟩
set_option maxRecDepth 100000 in
set_option maxHeartbeats 1000000 in
theorem came_idle (w : World) (c : Nat) (id num : Int) (m : Mg) (v8 v9 v10 v11 v12 v13 v14 v15 : Value) (h : ClAt w c id num none) (h1 : 1 ≤ id) (h8 : id ≤ 8) (hs : m.say = 2) (ht : m.to = 16 + id) :
    Calls Try.prog 22 #[.pointer (some ⟨c, 0, none⟩), .agg (m.row v8 v9 v10 v11 v12 v13 v14 v15)] w fun e w' => e = .returned (.tuple #[.bool false, .int .i64 0]) ∧ Ext w w' := by
  obtain ⟨W, hW⟩ : ∃ W, W = w.alloc (.cells (m.row v8 v9 v10 v11 v12 v13 v14 v15) 66) := ⟨_, rfl⟩
  have hE : Ext w W := by rw [hW]; exact (Ext.refl w).alloc _
  have hbx : W.heap[w.heap.size]? = some (.cells (m.row v8 v9 v10 v11 v12 v13 v14 v15) 66 (0, 0)) := by rw [hW]; exact heap_alloc_new _ _
  have hcl := h.ext hE
  obtain ⟨c0, c1, c2, cf⟩ := hcl.cells
  obtain ⟨m0, m2, m4, m5⟩ := Mg.cells hbx
  rw [hs] at m0
  rw [ht] at m2
  have e1 : IntKind.u8.wrap (16 + id) = 16 + id := by rw [IntKind.wrap_u8]; omega
  have hW' := Lib.hid hW
  clear hW hbx cf hs ht
  unfold Mg.row at hW' ⊢
  go_enter Try.func22, Try.ntmps22
  go_wp2_with fail
  rw [← hW'.out]
  clear hW'
  refine (there_any _ c id num _ hcl h1).mono ?_
  rintro e w' ⟨rfl, rfl⟩
  go_wp2_with fail
  go_quiet (fail)
  go_wp2_with fail
  go_quiet (fail)
  go_wp2_with fail
  go_ret2
  exact ⟨rfl, ext_drewN (ext_drewN hE _) _⟩
set_option maxRecDepth 100000 in
set_option maxHeartbeats 1000000 in
theorem came_yes (w : World) (c g : Nat) (id num : Int) (x : Ak) (lv : Int) (ga : Option Addr) (gc : Nat) (m : Mg) (v8 v9 v10 v11 v12 v13 v14 v15 : Value) (h : ClAt w c id num (some ⟨g, 0, none⟩)) (hg : WaAt w g x lv ga gc) (h1 : 1 ≤ id) (h8 : id ≤ 8) (hs : m.say = 2) (ht : m.to = 16 + id) (hn : m.num = num) (hl : m.lv = lv) :
    Calls Try.prog 22 #[.pointer (some ⟨c, 0, none⟩), .agg (m.row v8 v9 v10 v11 v12 v13 v14 v15)] w fun e w' => e = .returned (.tuple #[.bool true, .int .i64 0]) ∧ ClAt w' c id num none ∧ OffB (fun k => k = c) w w' := by
  obtain ⟨W, hW⟩ : ∃ W, W = w.alloc (.cells (m.row v8 v9 v10 v11 v12 v13 v14 v15) 66) := ⟨_, rfl⟩
  have hE : Ext w W := by rw [hW]; exact (Ext.refl w).alloc _
  have hbx : W.heap[w.heap.size]? = some (.cells (m.row v8 v9 v10 v11 v12 v13 v14 v15) 66 (0, 0)) := by rw [hW]; exact heap_alloc_new _ _
  have hcl := h.ext hE
  obtain ⟨c0, c1, c2, cf⟩ := hcl.cells
  obtain ⟨m0, m2, m4, m5⟩ := Mg.cells hbx
  rw [hs] at m0
  rw [ht] at m2
  rw [hl] at m4
  rw [hn] at m5
  obtain ⟨_, g8⟩ := (hg.ext hE).cells
  have cf2 := cf 2
  have e1 : IntKind.u8.wrap (16 + id) = 16 + id := by rw [IntKind.wrap_u8]; omega
  have hW' := Lib.hid hW
  clear hW hbx cf hs ht hn hl
  unfold Mg.row at hW' ⊢
  go_enter Try.func22, Try.ntmps22
  go_wp2_with fail
  rw [← hW'.out]
  clear hW'
  refine (there_any _ c id num _ hcl h1).mono ?_
  rintro e w' ⟨rfl, rfl⟩
  go_wp2_with fail
  go_quiet (fail)
  rename Nat => n1
  go_wp2_with fail
  go_quiet (fail)
  rename Nat => n2
  go_wp2_with fail
  go_ret2
  have hE2 := ext_drewN (Ext.refl W) (n1 + n2)
  exact ⟨rfl, (hcl.ext hE2).put2 none, OffB.setCell (B := fun k => k = c) (.of_ext (hE.trans hE2)) rfl _⟩
set_option maxRecDepth 100000 in
set_option maxHeartbeats 1000000 in
theorem came_no (w : World) (c g : Nat) (id num : Int) (x : Ak) (lv : Int) (ga : Option Addr) (gc : Nat) (m : Mg) (v8 v9 v10 v11 v12 v13 v14 v15 : Value) (h : ClAt w c id num (some ⟨g, 0, none⟩)) (hg : WaAt w g x lv ga gc) (h1 : 1 ≤ id) (h8 : id ≤ 8) (hs : m.say = 2) (ht : m.to = 16 + id) (hn : m.num ≠ num ∨ m.lv ≠ lv) :
    Calls Try.prog 22 #[.pointer (some ⟨c, 0, none⟩), .agg (m.row v8 v9 v10 v11 v12 v13 v14 v15)] w fun e w' => e = .returned (.tuple #[.bool false, .int .i64 0]) ∧ Ext w w' := by
  obtain ⟨W, hW⟩ : ∃ W, W = w.alloc (.cells (m.row v8 v9 v10 v11 v12 v13 v14 v15) 66) := ⟨_, rfl⟩
  have hE : Ext w W := by rw [hW]; exact (Ext.refl w).alloc _
  have hbx : W.heap[w.heap.size]? = some (.cells (m.row v8 v9 v10 v11 v12 v13 v14 v15) 66 (0, 0)) := by rw [hW]; exact heap_alloc_new _ _
  have hcl := h.ext hE
  obtain ⟨c0, c1, c2, cf⟩ := hcl.cells
  obtain ⟨m0, m2, m4, m5⟩ := Mg.cells hbx
  rw [hs] at m0
  rw [ht] at m2
  obtain ⟨_, g8⟩ := (hg.ext hE).cells
  have e1 : IntKind.u8.wrap (16 + id) = 16 + id := by rw [IntKind.wrap_u8]; omega
  have hW' := Lib.hid hW
  clear hW hbx cf hs ht
  unfold Mg.row at hW' ⊢
  by_cases hn1 : m.num = num
  · have hl1 : ¬ m.lv = lv := by rcases hn with hn | hn; exact absurd hn1 hn; exact hn
    rw [hn1] at m5
    clear hn hn1
    go_enter Try.func22, Try.ntmps22
    go_wp2_with fail
    rw [← hW'.out]
    clear hW'
    refine (there_any _ c id num _ hcl h1).mono ?_
    rintro e w' ⟨rfl, rfl⟩
    go_wp2_with fail
    go_quiet (fail)
    go_wp2_with fail
    go_quiet (fail)
    go_wp2_with fail
    go_ret2
    exact ⟨rfl, ext_drewN (ext_drewN hE _) _⟩
  · clear hn
    go_enter Try.func22, Try.ntmps22
    go_wp2_with fail
    rw [← hW'.out]
    clear hW'
    refine (there_any _ c id num _ hcl h1).mono ?_
    rintro e w' ⟨rfl, rfl⟩
    go_wp2_with fail
    go_quiet (fail)
    go_wp2_with fail
    go_quiet (fail)
    go_wp2_with fail
    go_ret2
    exact ⟨rfl, ext_drewN (ext_drewN hE _) _⟩
end Go.Proofs.Ytdkhcamckjidcaa
