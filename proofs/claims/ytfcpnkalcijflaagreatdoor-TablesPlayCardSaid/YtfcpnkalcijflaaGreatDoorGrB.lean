/- Several texts in one: BkM BkN BkT. No condition. -/
import Derived.Test.YtfcpnkalcijflaaGreatDoorGrA
import Derived.Deep.RegionHeld3
import Derived.BigQuiet
import Derived.Test.YtfcpnkalcijflaaGreatDoorProg
import Derived.Test.YtfcpnkalcijflaaGreatDoorKit6
import Derived.WalkKit
/- The marks of a book: numbers, rows, entries. No condition. -/
namespace Go.Proofs.YtfcpnkalcijflaaGreatDoor
open Go.RowKit
def mkNum (n : Nat) : List Value := [.int .u64 ((1000 + n : Nat) : Int)]
def mkRowL (n : Nat) : List Value := [.string (wordB n), .string ⟨#[]⟩]
def mkEntryL (n : Nat) : List Value := [.string (wordB n), .int .u64 0, .bool false, .string ⟨#[]⟩]
theorem markNum_any (w : World) (n : Nat) (hn : n < 1000) : Calls Tryz.prog 70 #[.int .i64 (n : Int)] w fun e w' => e = .returned (.int .u64 ((1000 + n : Nat) : Int)) ∧ Ext w w' := by
  have h1 : IntKind.i64.wrap (1000 + (n : Int)) = 1000 + (n : Int) := by rw [IntKind.wrap_i64]; omega
  have h2 : IntKind.u64.wrap (1000 + (n : Int)) = 1000 + (n : Int) := by rw [IntKind.wrap_u64]; omega
  go_enter Tryz.func70, Tryz.ntmps70
  go_wp2_with fail
  go_ret
  exact ⟨by go_num, Ext.refl _⟩
theorem isNum_any (w : World) (n : Nat) (hn : n < 1000) : Calls Tryz.prog 83 #[.int .u64 ((1000 + n : Nat) : Int), .int .i64 (n : Int)] w fun e w' => e = .returned (.bool true) ∧ Ext w w' := by
  have h1 : IntKind.i64.wrap (1000 + (n : Int)) = 1000 + (n : Int) := by rw [IntKind.wrap_i64]; omega
  have h2 : IntKind.u64.wrap (1000 + (n : Int)) = 1000 + (n : Int) := by rw [IntKind.wrap_u64]; omega
  go_enter Tryz.func83, Tryz.ntmps83
  go_wp2_with fail
  go_ret
  exact ⟨rfl, Ext.refl _⟩
theorem info_rowM : (Tryz.prog.info? 101).map (·.size) = some 2 := by kernel_rfl
theorem info_entryM : (Tryz.prog.info? 49).map (·.size) = some 4 := by kernel_rfl
def rowM (s : ByteArray) : Array Value := #[.string s, .string ⟨#[]⟩]
def entryM (s : ByteArray) : Array Value := #[.string s, .int .u64 0, .bool false, .string ⟨#[]⟩]
theorem rowM_one (s : ByteArray) : (rowM s).all (·.oneCell') = true := by kernel_rfl
theorem entryM_one (s : ByteArray) : (entryM s).all (·.oneCell') = true := by kernel_rfl
theorem rowM_cells {w : World} {b : Nat} {s : ByteArray} (h : w.heap[b]? = some (.cells (rowM s) 101 (0, 0))) : w.cell? ⟨b, 0, none⟩ = some (.string s) ∧ w.cell? ⟨b, 1, none⟩ = some (.string ⟨#[]⟩) :=
  ⟨by rw [cell_of_row _ _ _ _ _ _ h]; rfl, by rw [cell_of_row _ _ _ _ _ _ h]; rfl⟩
theorem entryM_cells {w : World} {b : Nat} {s : ByteArray} (h : w.heap[b]? = some (.cells (entryM s) 49 (0, 0))) : w.cell? ⟨b, 0, none⟩ = some (.string s) ∧ w.cell? ⟨b, 1, none⟩ = some (.int .u64 0) ∧ w.cell? ⟨b, 2, none⟩ = some (.bool false) ∧ w.cell? ⟨b, 3, none⟩ = some (.string ⟨#[]⟩) :=
  ⟨by rw [cell_of_row _ _ _ _ _ _ h]; rfl, by rw [cell_of_row _ _ _ _ _ _ h]; rfl, by rw [cell_of_row _ _ _ _ _ _ h]; rfl, by rw [cell_of_row _ _ _ _ _ _ h]; rfl⟩
theorem ext_row {a w : World} (h : Ext a w) (cs : Array Value) : Ext a (w.setRow a.heap.size cs) :=
  ⟨show w.os = a.os from Below.os h, show w.tape = a.tape from Below.tape h, show w.output = a.output from Below.output h, by have := h.size; simpa using this, fun k hk => by rw [setRow_other _ _ _ _ (by omega)]; exact Below.block h k hk⟩
theorem markRow_any (w : World) (n : Nat) (hn : n < numTop) (ht : ∀ W, Ext w W → TabW W) : Calls Tryz.prog 73 #[.int .i64 (n : Int)] w fun e w' => e = .returned (.agg (mkRowL n).toArray) ∧ Ext w w' := by
  obtain ⟨s, hs⟩ : ∃ s, s = wordB n := ⟨_, rfl⟩
  have hw := fun W (hE : Ext w W) => word_any W n hn (ht W hE)
  unfold mkRowL
  rw [← hs] at hw ⊢
  clear hs
  go_enter Tryz.func73, Tryz.ntmps73
  go_wp2_with fail
  refine (hw _ (by first | exact Ext.refl _ | exact (Ext.refl _).alloc _ | exact (Ext.refl _).drew | assumption)).mono ?_
  rintro e w1 ⟨rfl, hE1⟩
  have hrow := hE1.row (heap_alloc_new w _)
  have hE : Ext w w1 := ((Ext.refl w).alloc _).trans hE1
  clear hE1
  go_wp2_with (first | (refine wpList_store_row (by rfl) 101 (.tmp 2) (.tmp 5) (by rfl) w.heap.size (rowM s) (by rfl) (by rfl) 101 _ hrow (by exact info_rowM) (by rfl) (rowM_one s) ?_) | fail)
  have hr2 := setRow_heap w1 w.heap.size _ (rowM s) 101 (0, 0) hrow
  obtain ⟨W, hW⟩ : ∃ W, W = w1.setRow w.heap.size (rowM s) := ⟨_, rfl⟩
  rw [← hW] at hr2 ⊢
  have hEW : Ext w W := by rw [hW]; exact ext_row hE _
  obtain ⟨c0, c1⟩ := rowM_cells hr2
  clear hW
  exact bodyPost_ret (v := .agg (rowM s)) (by simp [results, Act.put, Tryz.results73, go_sem, c0, c1, rowM]) rfl ⟨rfl, hEW⟩
theorem markEntry_any (w : World) (n : Nat) (hn : n < numTop) (ht : ∀ W, Ext w W → TabW W) : Calls Tryz.prog 75 #[.int .i64 (n : Int)] w fun e w' => e = .returned (.agg (mkEntryL n).toArray) ∧ Ext w w' := by
  obtain ⟨s, hs⟩ : ∃ s, s = wordB n := ⟨_, rfl⟩
  have hw := fun W (hE : Ext w W) => word_any W n hn (ht W hE)
  unfold mkEntryL
  rw [← hs] at hw ⊢
  clear hs
  go_enter Tryz.func75, Tryz.ntmps75
  go_wp2_with fail
  refine (hw _ (by first | exact Ext.refl _ | exact (Ext.refl _).alloc _ | exact (Ext.refl _).drew | assumption)).mono ?_
  rintro e w1 ⟨rfl, hE1⟩
  have hrow := hE1.row (heap_alloc_new w _)
  have hE : Ext w w1 := ((Ext.refl w).alloc _).trans hE1
  clear hE1
  go_wp2_with (first | (refine wpList_store_row (by rfl) 49 (.tmp 2) (.tmp 6) (by rfl) w.heap.size (entryM s) (by rfl) (by rfl) 49 _ hrow (by exact info_entryM) (by rfl) (entryM_one s) ?_) | fail)
  have hr2 := setRow_heap w1 w.heap.size _ (entryM s) 49 (0, 0) hrow
  obtain ⟨W, hW⟩ : ∃ W, W = w1.setRow w.heap.size (entryM s) := ⟨_, rfl⟩
  rw [← hW] at hr2 ⊢
  have hEW : Ext w W := by rw [hW]; exact ext_row hE _
  obtain ⟨c0, c1, c2, c3⟩ := entryM_cells hr2
  clear hW
  exact bodyPost_ret (v := .agg (entryM s)) (by simp [results, Act.put, Tryz.results75, go_sem, c0, c1, c2, c3, entryM]) rfl ⟨rfl, hEW⟩
theorem isRow_any (w : World) (n : Nat) (hn : n < numTop) (ht : ∀ W, Ext w W → TabW W) : Calls Tryz.prog 86 #[.agg (mkRowL n).toArray, .int .i64 (n : Int)] w fun e w' => e = .returned (.bool true) ∧ Ext w w' := by
  obtain ⟨s, hs⟩ : ∃ s, s = wordB n := ⟨_, rfl⟩
  have hw := fun W (hE : Ext w W) => word_any W n hn (ht W hE)
  unfold mkRowL
  rw [← hs] at hw ⊢
  clear hs
  go_enter Tryz.func86, Tryz.ntmps86
  go_wp2_with fail
  obtain ⟨W, hW⟩ : ∃ W, W = w.alloc (.cells (rowM s) 101) := ⟨_, rfl⟩
  have hEW : Ext w W := by rw [hW]; exact (Ext.refl _).alloc _
  have hrow : W.heap[w.heap.size]? = some (.cells (rowM s) 101 (0, 0)) := by rw [hW]; exact heap_alloc_new w _
  have hS : Hid (∀ w', Ext W w' → Ext W w' ∧ w'.cell? ⟨w.heap.size, 0, none⟩ = some (.string s)) := Lib.hid (fun w' h => ⟨h, (rowM_cells (h.row hrow)).1⟩)
  rw [show w.alloc (.cells #[.string s, .string ⟨#[]⟩] 101) = W by rw [hW]; rfl]
  clear hW hrow
  go_region_held3 (fun w' => Ext W w' ∧ w'.cell? ⟨w.heap.size, 0, none⟩ = some (.string s)) ((refine hS.out _ ?_; first | exact (Ext.refl _).drew | assumption | (go_split_ands; assumption) | (refine Ext.trans ?_ (by assumption); go_split_ands; assumption))) (first | (go_at_call 101; refine (hw _ (hEW.trans (Ext.refl W).drew)).mono ?_; rintro e w1 ⟨rfl, hE1⟩) | fail)
  all_goals
    have hE : Ext w w1 := hEW.trans ((Ext.refl W).drew.trans hE1)
    go_wp2_with fail
    go_ret
    exact ⟨rfl, hE⟩
theorem isEntry_any (w : World) (n : Nat) (hn : n < numTop) (ht : ∀ W, Ext w W → TabW W) : Calls Tryz.prog 88 #[.agg (mkEntryL n).toArray, .int .i64 (n : Int)] w fun e w' => e = .returned (.bool true) ∧ Ext w w' := by
  obtain ⟨s, hs⟩ : ∃ s, s = wordB n := ⟨_, rfl⟩
  have hw := fun W (hE : Ext w W) => word_any W n hn (ht W hE)
  unfold mkEntryL
  rw [← hs] at hw ⊢
  clear hs
  go_enter Tryz.func88, Tryz.ntmps88
  go_wp2_with fail
  obtain ⟨W, hW⟩ : ∃ W, W = w.alloc (.cells (entryM s) 49) := ⟨_, rfl⟩
  have hEW : Ext w W := by rw [hW]; exact (Ext.refl _).alloc _
  have hrow : W.heap[w.heap.size]? = some (.cells (entryM s) 49 (0, 0)) := by rw [hW]; exact heap_alloc_new w _
  have hS : Hid (∀ w', Ext W w' → Ext W w' ∧ w'.cell? ⟨w.heap.size, 0, none⟩ = some (.string s)) := Lib.hid (fun w' h => ⟨h, (entryM_cells (h.row hrow)).1⟩)
  rw [show w.alloc (.cells #[.string s, .int .u64 0, .bool false, .string ⟨#[]⟩] 49) = W by rw [hW]; rfl]
  clear hW hrow
  go_region_held3 (fun w' => Ext W w' ∧ w'.cell? ⟨w.heap.size, 0, none⟩ = some (.string s)) ((refine hS.out _ ?_; first | exact (Ext.refl _).drew | assumption | (go_split_ands; assumption) | (refine Ext.trans ?_ (by assumption); go_split_ands; assumption))) (first | (go_at_call 101; refine (hw _ (hEW.trans (Ext.refl W).drew)).mono ?_; rintro e w1 ⟨rfl, hE1⟩) | fail)
  all_goals
    have hE : Ext w w1 := hEW.trans ((Ext.refl W).drew.trans hE1)
    go_wp2_with fail
    go_ret
    exact ⟨rfl, hE⟩
end Go.Proofs.YtfcpnkalcijflaaGreatDoor

/- A book's kinds of lists of which it holds none: they are gone over. No condition. -/
namespace Go.Proofs.YtfcpnkalcijflaaGreatDoor
open Go.RowKit
def OkE (w : World) (e : Ending) (w' : World) : Prop := e = .returned (.tuple #[]) ∧ Ext w w'
theorem fillByte_nil (w : World) (g : Nat) (h : w.cell? ⟨g, 1, none⟩ = some (.slice none 0 0)) : Calls Tryz.prog 26 #[.pointer (some ⟨g, 0, none⟩)] w (OkE w) := by
  go_enter Tryz.func26, Tryz.ntmps26
  go_wp2_with fail
  go_loopw [2] (fun i wr => i = .int .i64 0 ∧ Ext w wr) (fun _ _ => 0)
  case atStart => exact ⟨rfl, Ext.refl _⟩
  case round =>
    obtain ⟨rfl, hE⟩ := hrel
    have hc := hE.cell h
    go_wp2_with fail
    go_end0
    exact ⟨rfl, hE⟩
theorem growByte_nil (w : World) (g : Nat) (h : w.cell? ⟨g, 1, none⟩ = some (.slice none 0 0)) : Calls Tryz.prog 39 #[.pointer (some ⟨g, 0, none⟩)] w (OkE w) := by
  go_enter Tryz.func39, Tryz.ntmps39
  go_wp2_with fail
  go_loopw [2] (fun i wr => i = .int .i64 0 ∧ Ext w wr) (fun _ _ => 0)
  case atStart => exact ⟨rfl, Ext.refl _⟩
  case round =>
    obtain ⟨rfl, hE⟩ := hrel
    have hc := hE.cell h
    go_wp2_with fail
    go_end0
    exact ⟨rfl, hE⟩
theorem lookByte_nil (w : World) (g : Nat) (h : w.cell? ⟨g, 1, none⟩ = some (.slice none 0 0)) : Calls Tryz.prog 52 #[.pointer (some ⟨g, 0, none⟩)] w fun e w' => e = .returned (.bool true) ∧ Ext w w' := by
  go_enter Tryz.func52, Tryz.ntmps52
  go_wp2_with fail
  go_loopw [3] (fun i wr => i = .int .i64 0 ∧ Ext w wr) (fun _ _ => 0)
  case atStart => exact ⟨rfl, Ext.refl _⟩
  case round =>
    obtain ⟨rfl, hE⟩ := hrel
    have hc := hE.cell h
    go_wp2_with fail
    go_ret
    exact ⟨rfl, hE⟩
theorem fillId_nil (w : World) (g : Nat) (h : w.cell? ⟨g, 2, none⟩ = some (.slice none 0 0)) : Calls Tryz.prog 27 #[.pointer (some ⟨g, 0, none⟩)] w (OkE w) := by
  go_enter Tryz.func27, Tryz.ntmps27
  go_wp2_with fail
  go_loopw [2] (fun i wr => i = .int .i64 0 ∧ Ext w wr) (fun _ _ => 0)
  case atStart => exact ⟨rfl, Ext.refl _⟩
  case round =>
    obtain ⟨rfl, hE⟩ := hrel
    have hc := hE.cell h
    go_wp2_with fail
    go_end0
    exact ⟨rfl, hE⟩
theorem growId_nil (w : World) (g : Nat) (h : w.cell? ⟨g, 2, none⟩ = some (.slice none 0 0)) : Calls Tryz.prog 40 #[.pointer (some ⟨g, 0, none⟩)] w (OkE w) := by
  go_enter Tryz.func40, Tryz.ntmps40
  go_wp2_with fail
  go_loopw [2] (fun i wr => i = .int .i64 0 ∧ Ext w wr) (fun _ _ => 0)
  case atStart => exact ⟨rfl, Ext.refl _⟩
  case round =>
    obtain ⟨rfl, hE⟩ := hrel
    have hc := hE.cell h
    go_wp2_with fail
    go_end0
    exact ⟨rfl, hE⟩
theorem lookId_nil (w : World) (g : Nat) (h : w.cell? ⟨g, 2, none⟩ = some (.slice none 0 0)) : Calls Tryz.prog 53 #[.pointer (some ⟨g, 0, none⟩)] w fun e w' => e = .returned (.bool true) ∧ Ext w w' := by
  go_enter Tryz.func53, Tryz.ntmps53
  go_wp2_with fail
  go_loopw [3] (fun i wr => i = .int .i64 0 ∧ Ext w wr) (fun _ _ => 0)
  case atStart => exact ⟨rfl, Ext.refl _⟩
  case round =>
    obtain ⟨rfl, hE⟩ := hrel
    have hc := hE.cell h
    go_wp2_with fail
    go_ret
    exact ⟨rfl, hE⟩
theorem fillNum_nil (w : World) (g : Nat) (h : w.cell? ⟨g, 3, none⟩ = some (.slice none 0 0)) : Calls Tryz.prog 28 #[.pointer (some ⟨g, 0, none⟩)] w (OkE w) := by
  go_enter Tryz.func28, Tryz.ntmps28
  go_wp2_with fail
  go_loopw [2] (fun i wr => i = .int .i64 0 ∧ Ext w wr) (fun _ _ => 0)
  case atStart => exact ⟨rfl, Ext.refl _⟩
  case round =>
    obtain ⟨rfl, hE⟩ := hrel
    have hc := hE.cell h
    go_wp2_with fail
    go_end0
    exact ⟨rfl, hE⟩
theorem growNum_nil (w : World) (g : Nat) (h : w.cell? ⟨g, 3, none⟩ = some (.slice none 0 0)) : Calls Tryz.prog 41 #[.pointer (some ⟨g, 0, none⟩)] w (OkE w) := by
  go_enter Tryz.func41, Tryz.ntmps41
  go_wp2_with fail
  go_loopw [2] (fun i wr => i = .int .i64 0 ∧ Ext w wr) (fun _ _ => 0)
  case atStart => exact ⟨rfl, Ext.refl _⟩
  case round =>
    obtain ⟨rfl, hE⟩ := hrel
    have hc := hE.cell h
    go_wp2_with fail
    go_end0
    exact ⟨rfl, hE⟩
theorem lookNum_nil (w : World) (g : Nat) (h : w.cell? ⟨g, 3, none⟩ = some (.slice none 0 0)) : Calls Tryz.prog 54 #[.pointer (some ⟨g, 0, none⟩)] w fun e w' => e = .returned (.bool true) ∧ Ext w w' := by
  go_enter Tryz.func54, Tryz.ntmps54
  go_wp2_with fail
  go_loopw [3] (fun i wr => i = .int .i64 0 ∧ Ext w wr) (fun _ _ => 0)
  case atStart => exact ⟨rfl, Ext.refl _⟩
  case round =>
    obtain ⟨rfl, hE⟩ := hrel
    have hc := hE.cell h
    go_wp2_with fail
    go_ret
    exact ⟨rfl, hE⟩
theorem fillInt_nil (w : World) (g : Nat) (h : w.cell? ⟨g, 4, none⟩ = some (.slice none 0 0)) : Calls Tryz.prog 29 #[.pointer (some ⟨g, 0, none⟩)] w (OkE w) := by
  go_enter Tryz.func29, Tryz.ntmps29
  go_wp2_with fail
  go_loopw [2] (fun i wr => i = .int .i64 0 ∧ Ext w wr) (fun _ _ => 0)
  case atStart => exact ⟨rfl, Ext.refl _⟩
  case round =>
    obtain ⟨rfl, hE⟩ := hrel
    have hc := hE.cell h
    go_wp2_with fail
    go_end0
    exact ⟨rfl, hE⟩
theorem growInt_nil (w : World) (g : Nat) (h : w.cell? ⟨g, 4, none⟩ = some (.slice none 0 0)) : Calls Tryz.prog 42 #[.pointer (some ⟨g, 0, none⟩)] w (OkE w) := by
  go_enter Tryz.func42, Tryz.ntmps42
  go_wp2_with fail
  go_loopw [2] (fun i wr => i = .int .i64 0 ∧ Ext w wr) (fun _ _ => 0)
  case atStart => exact ⟨rfl, Ext.refl _⟩
  case round =>
    obtain ⟨rfl, hE⟩ := hrel
    have hc := hE.cell h
    go_wp2_with fail
    go_end0
    exact ⟨rfl, hE⟩
theorem lookInt_nil (w : World) (g : Nat) (h : w.cell? ⟨g, 4, none⟩ = some (.slice none 0 0)) : Calls Tryz.prog 55 #[.pointer (some ⟨g, 0, none⟩)] w fun e w' => e = .returned (.bool true) ∧ Ext w w' := by
  go_enter Tryz.func55, Tryz.ntmps55
  go_wp2_with fail
  go_loopw [3] (fun i wr => i = .int .i64 0 ∧ Ext w wr) (fun _ _ => 0)
  case atStart => exact ⟨rfl, Ext.refl _⟩
  case round =>
    obtain ⟨rfl, hE⟩ := hrel
    have hc := hE.cell h
    go_wp2_with fail
    go_ret
    exact ⟨rfl, hE⟩
theorem fillText_nil (w : World) (g : Nat) (h : w.cell? ⟨g, 5, none⟩ = some (.slice none 0 0)) : Calls Tryz.prog 30 #[.pointer (some ⟨g, 0, none⟩)] w (OkE w) := by
  go_enter Tryz.func30, Tryz.ntmps30
  go_wp2_with fail
  go_loopw [2] (fun i wr => i = .int .i64 0 ∧ Ext w wr) (fun _ _ => 0)
  case atStart => exact ⟨rfl, Ext.refl _⟩
  case round =>
    obtain ⟨rfl, hE⟩ := hrel
    have hc := hE.cell h
    go_wp2_with fail
    go_end0
    exact ⟨rfl, hE⟩
theorem growText_nil (w : World) (g : Nat) (h : w.cell? ⟨g, 5, none⟩ = some (.slice none 0 0)) : Calls Tryz.prog 43 #[.pointer (some ⟨g, 0, none⟩)] w (OkE w) := by
  go_enter Tryz.func43, Tryz.ntmps43
  go_wp2_with fail
  go_loopw [2] (fun i wr => i = .int .i64 0 ∧ Ext w wr) (fun _ _ => 0)
  case atStart => exact ⟨rfl, Ext.refl _⟩
  case round =>
    obtain ⟨rfl, hE⟩ := hrel
    have hc := hE.cell h
    go_wp2_with fail
    go_end0
    exact ⟨rfl, hE⟩
theorem lookText_nil (w : World) (g : Nat) (h : w.cell? ⟨g, 5, none⟩ = some (.slice none 0 0)) : Calls Tryz.prog 56 #[.pointer (some ⟨g, 0, none⟩)] w fun e w' => e = .returned (.bool true) ∧ Ext w w' := by
  go_enter Tryz.func56, Tryz.ntmps56
  go_wp2_with fail
  go_loopw [3] (fun i wr => i = .int .i64 0 ∧ Ext w wr) (fun _ _ => 0)
  case atStart => exact ⟨rfl, Ext.refl _⟩
  case round =>
    obtain ⟨rfl, hE⟩ := hrel
    have hc := hE.cell h
    go_wp2_with fail
    go_ret
    exact ⟨rfl, hE⟩
theorem fillRow_nil (w : World) (g : Nat) (h : w.cell? ⟨g, 6, none⟩ = some (.slice none 0 0)) : Calls Tryz.prog 31 #[.pointer (some ⟨g, 0, none⟩)] w (OkE w) := by
  go_enter Tryz.func31, Tryz.ntmps31
  go_wp2_with fail
  go_loopw [2] (fun i wr => i = .int .i64 0 ∧ Ext w wr) (fun _ _ => 0)
  case atStart => exact ⟨rfl, Ext.refl _⟩
  case round =>
    obtain ⟨rfl, hE⟩ := hrel
    have hc := hE.cell h
    go_wp2_with fail
    go_end0
    exact ⟨rfl, hE⟩
theorem growRow_nil (w : World) (g : Nat) (h : w.cell? ⟨g, 6, none⟩ = some (.slice none 0 0)) : Calls Tryz.prog 44 #[.pointer (some ⟨g, 0, none⟩)] w (OkE w) := by
  go_enter Tryz.func44, Tryz.ntmps44
  go_wp2_with fail
  go_loopw [2] (fun i wr => i = .int .i64 0 ∧ Ext w wr) (fun _ _ => 0)
  case atStart => exact ⟨rfl, Ext.refl _⟩
  case round =>
    obtain ⟨rfl, hE⟩ := hrel
    have hc := hE.cell h
    go_wp2_with fail
    go_end0
    exact ⟨rfl, hE⟩
theorem lookRow_nil (w : World) (g : Nat) (h : w.cell? ⟨g, 6, none⟩ = some (.slice none 0 0)) : Calls Tryz.prog 57 #[.pointer (some ⟨g, 0, none⟩)] w fun e w' => e = .returned (.bool true) ∧ Ext w w' := by
  go_enter Tryz.func57, Tryz.ntmps57
  go_wp2_with fail
  go_loopw [3] (fun i wr => i = .int .i64 0 ∧ Ext w wr) (fun _ _ => 0)
  case atStart => exact ⟨rfl, Ext.refl _⟩
  case round =>
    obtain ⟨rfl, hE⟩ := hrel
    have hc := hE.cell h
    go_wp2_with fail
    go_ret
    exact ⟨rfl, hE⟩
theorem fillChange_nil (w : World) (g : Nat) (h : w.cell? ⟨g, 7, none⟩ = some (.slice none 0 0)) : Calls Tryz.prog 32 #[.pointer (some ⟨g, 0, none⟩)] w (OkE w) := by
  go_enter Tryz.func32, Tryz.ntmps32
  go_wp2_with fail
  go_loopw [2] (fun i wr => i = .int .i64 0 ∧ Ext w wr) (fun _ _ => 0)
  case atStart => exact ⟨rfl, Ext.refl _⟩
  case round =>
    obtain ⟨rfl, hE⟩ := hrel
    have hc := hE.cell h
    go_wp2_with fail
    go_end0
    exact ⟨rfl, hE⟩
theorem growChange_nil (w : World) (g : Nat) (h : w.cell? ⟨g, 7, none⟩ = some (.slice none 0 0)) : Calls Tryz.prog 45 #[.pointer (some ⟨g, 0, none⟩)] w (OkE w) := by
  go_enter Tryz.func45, Tryz.ntmps45
  go_wp2_with fail
  go_loopw [2] (fun i wr => i = .int .i64 0 ∧ Ext w wr) (fun _ _ => 0)
  case atStart => exact ⟨rfl, Ext.refl _⟩
  case round =>
    obtain ⟨rfl, hE⟩ := hrel
    have hc := hE.cell h
    go_wp2_with fail
    go_end0
    exact ⟨rfl, hE⟩
theorem lookChange_nil (w : World) (g : Nat) (h : w.cell? ⟨g, 7, none⟩ = some (.slice none 0 0)) : Calls Tryz.prog 58 #[.pointer (some ⟨g, 0, none⟩)] w fun e w' => e = .returned (.bool true) ∧ Ext w w' := by
  go_enter Tryz.func58, Tryz.ntmps58
  go_wp2_with fail
  go_loopw [3] (fun i wr => i = .int .i64 0 ∧ Ext w wr) (fun _ _ => 0)
  case atStart => exact ⟨rfl, Ext.refl _⟩
  case round =>
    obtain ⟨rfl, hE⟩ := hrel
    have hc := hE.cell h
    go_wp2_with fail
    go_ret
    exact ⟨rfl, hE⟩
theorem fillEntry_nil (w : World) (g : Nat) (h : w.cell? ⟨g, 8, none⟩ = some (.slice none 0 0)) : Calls Tryz.prog 33 #[.pointer (some ⟨g, 0, none⟩)] w (OkE w) := by
  go_enter Tryz.func33, Tryz.ntmps33
  go_wp2_with fail
  go_loopw [2] (fun i wr => i = .int .i64 0 ∧ Ext w wr) (fun _ _ => 0)
  case atStart => exact ⟨rfl, Ext.refl _⟩
  case round =>
    obtain ⟨rfl, hE⟩ := hrel
    have hc := hE.cell h
    go_wp2_with fail
    go_end0
    exact ⟨rfl, hE⟩
theorem growEntry_nil (w : World) (g : Nat) (h : w.cell? ⟨g, 8, none⟩ = some (.slice none 0 0)) : Calls Tryz.prog 46 #[.pointer (some ⟨g, 0, none⟩)] w (OkE w) := by
  go_enter Tryz.func46, Tryz.ntmps46
  go_wp2_with fail
  go_loopw [2] (fun i wr => i = .int .i64 0 ∧ Ext w wr) (fun _ _ => 0)
  case atStart => exact ⟨rfl, Ext.refl _⟩
  case round =>
    obtain ⟨rfl, hE⟩ := hrel
    have hc := hE.cell h
    go_wp2_with fail
    go_end0
    exact ⟨rfl, hE⟩
theorem lookEntry_nil (w : World) (g : Nat) (h : w.cell? ⟨g, 8, none⟩ = some (.slice none 0 0)) : Calls Tryz.prog 59 #[.pointer (some ⟨g, 0, none⟩)] w fun e w' => e = .returned (.bool true) ∧ Ext w w' := by
  go_enter Tryz.func59, Tryz.ntmps59
  go_wp2_with fail
  go_loopw [3] (fun i wr => i = .int .i64 0 ∧ Ext w wr) (fun _ _ => 0)
  case atStart => exact ⟨rfl, Ext.refl _⟩
  case round =>
    obtain ⟨rfl, hE⟩ := hrel
    have hc := hE.cell h
    go_wp2_with fail
    go_ret
    exact ⟨rfl, hE⟩
theorem fillFile_nil (w : World) (g : Nat) (h : w.cell? ⟨g, 9, none⟩ = some (.slice none 0 0)) : Calls Tryz.prog 34 #[.pointer (some ⟨g, 0, none⟩)] w (OkE w) := by
  go_enter Tryz.func34, Tryz.ntmps34
  go_wp2_with fail
  go_loopw [2] (fun i wr => i = .int .i64 0 ∧ Ext w wr) (fun _ _ => 0)
  case atStart => exact ⟨rfl, Ext.refl _⟩
  case round =>
    obtain ⟨rfl, hE⟩ := hrel
    have hc := hE.cell h
    go_wp2_with fail
    go_end0
    exact ⟨rfl, hE⟩
theorem growFile_nil (w : World) (g : Nat) (h : w.cell? ⟨g, 9, none⟩ = some (.slice none 0 0)) : Calls Tryz.prog 47 #[.pointer (some ⟨g, 0, none⟩)] w (OkE w) := by
  go_enter Tryz.func47, Tryz.ntmps47
  go_wp2_with fail
  go_loopw [2] (fun i wr => i = .int .i64 0 ∧ Ext w wr) (fun _ _ => 0)
  case atStart => exact ⟨rfl, Ext.refl _⟩
  case round =>
    obtain ⟨rfl, hE⟩ := hrel
    have hc := hE.cell h
    go_wp2_with fail
    go_end0
    exact ⟨rfl, hE⟩
theorem lookFile_nil (w : World) (g : Nat) (h : w.cell? ⟨g, 9, none⟩ = some (.slice none 0 0)) : Calls Tryz.prog 60 #[.pointer (some ⟨g, 0, none⟩)] w fun e w' => e = .returned (.bool true) ∧ Ext w w' := by
  go_enter Tryz.func60, Tryz.ntmps60
  go_wp2_with fail
  go_loopw [3] (fun i wr => i = .int .i64 0 ∧ Ext w wr) (fun _ _ => 0)
  case atStart => exact ⟨rfl, Ext.refl _⟩
  case round =>
    obtain ⟨rfl, hE⟩ := hrel
    have hc := hE.cell h
    go_wp2_with fail
    go_ret
    exact ⟨rfl, hE⟩
theorem fillItem_nil (w : World) (g : Nat) (h : w.cell? ⟨g, 10, none⟩ = some (.slice none 0 0)) : Calls Tryz.prog 35 #[.pointer (some ⟨g, 0, none⟩)] w (OkE w) := by
  go_enter Tryz.func35, Tryz.ntmps35
  go_wp2_with fail
  go_loopw [2] (fun i wr => i = .int .i64 0 ∧ Ext w wr) (fun _ _ => 0)
  case atStart => exact ⟨rfl, Ext.refl _⟩
  case round =>
    obtain ⟨rfl, hE⟩ := hrel
    have hc := hE.cell h
    go_wp2_with fail
    go_end0
    exact ⟨rfl, hE⟩
theorem growItem_nil (w : World) (g : Nat) (h : w.cell? ⟨g, 10, none⟩ = some (.slice none 0 0)) : Calls Tryz.prog 48 #[.pointer (some ⟨g, 0, none⟩)] w (OkE w) := by
  go_enter Tryz.func48, Tryz.ntmps48
  go_wp2_with fail
  go_loopw [2] (fun i wr => i = .int .i64 0 ∧ Ext w wr) (fun _ _ => 0)
  case atStart => exact ⟨rfl, Ext.refl _⟩
  case round =>
    obtain ⟨rfl, hE⟩ := hrel
    have hc := hE.cell h
    go_wp2_with fail
    go_end0
    exact ⟨rfl, hE⟩
theorem lookItem_nil (w : World) (g : Nat) (h : w.cell? ⟨g, 10, none⟩ = some (.slice none 0 0)) : Calls Tryz.prog 61 #[.pointer (some ⟨g, 0, none⟩)] w fun e w' => e = .returned (.bool true) ∧ Ext w w' := by
  go_enter Tryz.func61, Tryz.ntmps61
  go_wp2_with fail
  go_loopw [3] (fun i wr => i = .int .i64 0 ∧ Ext w wr) (fun _ _ => 0)
  case atStart => exact ⟨rfl, Ext.refl _⟩
  case round =>
    obtain ⟨rfl, hE⟩ := hrel
    have hc := hE.cell h
    go_wp2_with fail
    go_ret
    exact ⟨rfl, hE⟩
theorem fillSaid_nil (w : World) (g : Nat) (h : w.cell? ⟨g, 11, none⟩ = some (.slice none 0 0)) : Calls Tryz.prog 36 #[.pointer (some ⟨g, 0, none⟩)] w (OkE w) := by
  go_enter Tryz.func36, Tryz.ntmps36
  go_wp2_with fail
  go_loopw [2] (fun i wr => i = .int .i64 0 ∧ Ext w wr) (fun _ _ => 0)
  case atStart => exact ⟨rfl, Ext.refl _⟩
  case round =>
    obtain ⟨rfl, hE⟩ := hrel
    have hc := hE.cell h
    go_wp2_with fail
    go_end0
    exact ⟨rfl, hE⟩
theorem growSaid_nil (w : World) (g : Nat) (h : w.cell? ⟨g, 11, none⟩ = some (.slice none 0 0)) : Calls Tryz.prog 49 #[.pointer (some ⟨g, 0, none⟩)] w (OkE w) := by
  go_enter Tryz.func49, Tryz.ntmps49
  go_wp2_with fail
  go_loopw [2] (fun i wr => i = .int .i64 0 ∧ Ext w wr) (fun _ _ => 0)
  case atStart => exact ⟨rfl, Ext.refl _⟩
  case round =>
    obtain ⟨rfl, hE⟩ := hrel
    have hc := hE.cell h
    go_wp2_with fail
    go_end0
    exact ⟨rfl, hE⟩
theorem lookSaid_nil (w : World) (g : Nat) (h : w.cell? ⟨g, 11, none⟩ = some (.slice none 0 0)) : Calls Tryz.prog 62 #[.pointer (some ⟨g, 0, none⟩)] w fun e w' => e = .returned (.bool true) ∧ Ext w w' := by
  go_enter Tryz.func62, Tryz.ntmps62
  go_wp2_with fail
  go_loopw [3] (fun i wr => i = .int .i64 0 ∧ Ext w wr) (fun _ _ => 0)
  case atStart => exact ⟨rfl, Ext.refl _⟩
  case round =>
    obtain ⟨rfl, hE⟩ := hrel
    have hc := hE.cell h
    go_wp2_with fail
    go_ret
    exact ⟨rfl, hE⟩
theorem fillMsg_nil (w : World) (g : Nat) (h : w.cell? ⟨g, 12, none⟩ = some (.slice none 0 0)) : Calls Tryz.prog 37 #[.pointer (some ⟨g, 0, none⟩)] w (OkE w) := by
  go_enter Tryz.func37, Tryz.ntmps37
  go_wp2_with fail
  go_loopw [2] (fun i wr => i = .int .i64 0 ∧ Ext w wr) (fun _ _ => 0)
  case atStart => exact ⟨rfl, Ext.refl _⟩
  case round =>
    obtain ⟨rfl, hE⟩ := hrel
    have hc := hE.cell h
    go_wp2_with fail
    go_end0
    exact ⟨rfl, hE⟩
theorem growMsg_nil (w : World) (g : Nat) (h : w.cell? ⟨g, 12, none⟩ = some (.slice none 0 0)) : Calls Tryz.prog 50 #[.pointer (some ⟨g, 0, none⟩)] w (OkE w) := by
  go_enter Tryz.func50, Tryz.ntmps50
  go_wp2_with fail
  go_loopw [2] (fun i wr => i = .int .i64 0 ∧ Ext w wr) (fun _ _ => 0)
  case atStart => exact ⟨rfl, Ext.refl _⟩
  case round =>
    obtain ⟨rfl, hE⟩ := hrel
    have hc := hE.cell h
    go_wp2_with fail
    go_end0
    exact ⟨rfl, hE⟩
theorem lookMsg_nil (w : World) (g : Nat) (h : w.cell? ⟨g, 12, none⟩ = some (.slice none 0 0)) : Calls Tryz.prog 63 #[.pointer (some ⟨g, 0, none⟩)] w fun e w' => e = .returned (.bool true) ∧ Ext w w' := by
  go_enter Tryz.func63, Tryz.ntmps63
  go_wp2_with fail
  go_loopw [3] (fun i wr => i = .int .i64 0 ∧ Ext w wr) (fun _ _ => 0)
  case atStart => exact ⟨rfl, Ext.refl _⟩
  case round =>
    obtain ⟨rfl, hE⟩ := hrel
    have hc := hE.cell h
    go_wp2_with fail
    go_ret
    exact ⟨rfl, hE⟩
theorem fillEvent_nil (w : World) (g : Nat) (h : w.cell? ⟨g, 13, none⟩ = some (.slice none 0 0)) : Calls Tryz.prog 38 #[.pointer (some ⟨g, 0, none⟩)] w (OkE w) := by
  go_enter Tryz.func38, Tryz.ntmps38
  go_wp2_with fail
  go_loopw [2] (fun i wr => i = .int .i64 0 ∧ Ext w wr) (fun _ _ => 0)
  case atStart => exact ⟨rfl, Ext.refl _⟩
  case round =>
    obtain ⟨rfl, hE⟩ := hrel
    have hc := hE.cell h
    go_wp2_with fail
    go_end0
    exact ⟨rfl, hE⟩
theorem growEvent_nil (w : World) (g : Nat) (h : w.cell? ⟨g, 13, none⟩ = some (.slice none 0 0)) : Calls Tryz.prog 51 #[.pointer (some ⟨g, 0, none⟩)] w (OkE w) := by
  go_enter Tryz.func51, Tryz.ntmps51
  go_wp2_with fail
  go_loopw [2] (fun i wr => i = .int .i64 0 ∧ Ext w wr) (fun _ _ => 0)
  case atStart => exact ⟨rfl, Ext.refl _⟩
  case round =>
    obtain ⟨rfl, hE⟩ := hrel
    have hc := hE.cell h
    go_wp2_with fail
    go_end0
    exact ⟨rfl, hE⟩
theorem lookEvent_nil (w : World) (g : Nat) (h : w.cell? ⟨g, 13, none⟩ = some (.slice none 0 0)) : Calls Tryz.prog 64 #[.pointer (some ⟨g, 0, none⟩)] w fun e w' => e = .returned (.bool true) ∧ Ext w w' := by
  go_enter Tryz.func64, Tryz.ntmps64
  go_wp2_with fail
  go_loopw [3] (fun i wr => i = .int .i64 0 ∧ Ext w wr) (fun _ _ => 0)
  case atStart => exact ⟨rfl, Ext.refl _⟩
  case round =>
    obtain ⟨rfl, hE⟩ := hrel
    have hc := hE.cell h
    go_wp2_with fail
    go_ret
    exact ⟨rfl, hE⟩
end Go.Proofs.YtfcpnkalcijflaaGreatDoor

/- The kinds of lists of a book that come up here. No condition. -/
namespace Go.Proofs.YtfcpnkalcijflaaGreatDoor
open Go.RowKit
def bkT : BkT := { ht := fun j => match j with | 8 => 75 | _ => 0, et := fun j => match j with | 8 => 49 | _ => 0, z := fun j => match j with | 8 => 4 | _ => 0, mark := fun j n => match j with | 8 => mkEntryL n | _ => [] }
end Go.Proofs.YtfcpnkalcijflaaGreatDoor
