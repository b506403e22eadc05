/- Several texts in one: BkM BkM2 BkN BkT. No condition. -/
import Derived.Test.YthageoibkeebhaaGreatDoorGrT
import Derived.Deep.RegionHeld3
import Derived.BigQuiet
import Derived.Test.YthageoibkeebhaaGreatDoorProg
import Derived.Test.YthageoibkeebhaaGreatDoorGrKit
import Derived.WalkKit
/- The marks of a book: numbers, rows, entries. No condition. -/
namespace Go.Proofs.YthageoibkeebhaaGreatDoor
open Go.RowKit
def mkNum (n : Nat) : List Value := [.int .u64 ((1000 + n : Nat) : Int)]
def mkRowL (n : Nat) : List Value := [.string (wordB n), .string ⟨#[]⟩]
def mkEntryL (n : Nat) : List Value := [.string (wordB n), .int .u64 0, .bool false, .string ⟨#[]⟩]
theorem markNum_any (w : World) (n : Nat) (hn : n < 1000) : Calls Tryz.prog 121 #[.int .i64 (n : Int)] w fun e w' => e = .returned (.int .u64 ((1000 + n : Nat) : Int)) ∧ Ext w w' := by
  have h1 : IntKind.i64.wrap (1000 + (n : Int)) = 1000 + (n : Int) := by rw [IntKind.wrap_i64]; omega
  have h2 : IntKind.u64.wrap (1000 + (n : Int)) = 1000 + (n : Int) := by rw [IntKind.wrap_u64]; omega
  go_enter Tryz.func121, Tryz.ntmps121
  go_wp2_with fail
  go_ret
  exact ⟨by go_num, Ext.refl _⟩
theorem isNum_any (w : World) (n : Nat) (hn : n < 1000) : Calls Tryz.prog 134 #[.int .u64 ((1000 + n : Nat) : Int), .int .i64 (n : Int)] w fun e w' => e = .returned (.bool true) ∧ Ext w w' := by
  have h1 : IntKind.i64.wrap (1000 + (n : Int)) = 1000 + (n : Int) := by rw [IntKind.wrap_i64]; omega
  have h2 : IntKind.u64.wrap (1000 + (n : Int)) = 1000 + (n : Int) := by rw [IntKind.wrap_u64]; omega
  go_enter Tryz.func134, Tryz.ntmps134
  go_wp2_with fail
  go_ret
  exact ⟨rfl, Ext.refl _⟩
theorem info_rowM : (Tryz.prog.info? 84).map (·.size) = some 2 := by kernel_rfl
theorem info_entryM : (Tryz.prog.info? 159).map (·.size) = some 4 := by kernel_rfl
def rowM (s : ByteArray) : Array Value := #[.string s, .string ⟨#[]⟩]
def entryM (s : ByteArray) : Array Value := #[.string s, .int .u64 0, .bool false, .string ⟨#[]⟩]
theorem rowM_one (s : ByteArray) : (rowM s).all (·.oneCell') = true := by kernel_rfl
theorem entryM_one (s : ByteArray) : (entryM s).all (·.oneCell') = true := by kernel_rfl
theorem rowM_cells {w : World} {b : Nat} {s : ByteArray} (h : w.heap[b]? = some (.cells (rowM s) 84 (0, 0))) : w.cell? ⟨b, 0, none⟩ = some (.string s) ∧ w.cell? ⟨b, 1, none⟩ = some (.string ⟨#[]⟩) :=
  ⟨by rw [cell_of_row _ _ _ _ _ _ h]; rfl, by rw [cell_of_row _ _ _ _ _ _ h]; rfl⟩
theorem entryM_cells {w : World} {b : Nat} {s : ByteArray} (h : w.heap[b]? = some (.cells (entryM s) 159 (0, 0))) : w.cell? ⟨b, 0, none⟩ = some (.string s) ∧ w.cell? ⟨b, 1, none⟩ = some (.int .u64 0) ∧ w.cell? ⟨b, 2, none⟩ = some (.bool false) ∧ w.cell? ⟨b, 3, none⟩ = some (.string ⟨#[]⟩) :=
  ⟨by rw [cell_of_row _ _ _ _ _ _ h]; rfl, by rw [cell_of_row _ _ _ _ _ _ h]; rfl, by rw [cell_of_row _ _ _ _ _ _ h]; rfl, by rw [cell_of_row _ _ _ _ _ _ h]; rfl⟩
theorem ext_row {a w : World} (h : Ext a w) (cs : Array Value) : Ext a (w.setRow a.heap.size cs) :=
  ⟨show w.os = a.os from Below.os h, show w.tape = a.tape from Below.tape h, show w.output = a.output from Below.output h, by have := h.size; simpa using this, fun k hk => by rw [setRow_other _ _ _ _ (by omega)]; exact Below.block h k hk⟩
theorem markRow_any (w : World) (n : Nat) (hn : n < numTop) (ht : ∀ W, Ext w W → TabW W) : Calls Tryz.prog 124 #[.int .i64 (n : Int)] w fun e w' => e = .returned (.agg (mkRowL n).toArray) ∧ Ext w w' := by
  obtain ⟨s, hs⟩ : ∃ s, s = wordB n := ⟨_, rfl⟩
  have hw := fun W (hE : Ext w W) => word_any W n hn (ht W hE)
  unfold mkRowL
  rw [← hs] at hw ⊢
  clear hs
  go_enter Tryz.func124, Tryz.ntmps124
  go_wp2_with fail
  refine (hw _ (by first | exact Ext.refl _ | exact (Ext.refl _).alloc _ | exact (Ext.refl _).drew | assumption)).mono ?_
  rintro e w1 ⟨rfl, hE1⟩
  have hrow := hE1.row (heap_alloc_new w _)
  have hE : Ext w w1 := ((Ext.refl w).alloc _).trans hE1
  clear hE1
  go_wp2_with (first | (refine wpList_store_row (by rfl) 84 (.tmp 2) (.tmp 5) (by rfl) w.heap.size (rowM s) (by rfl) (by rfl) 84 _ hrow (by exact info_rowM) (by rfl) (rowM_one s) ?_) | fail)
  have hr2 := setRow_heap w1 w.heap.size _ (rowM s) 84 (0, 0) hrow
  obtain ⟨W, hW⟩ : ∃ W, W = w1.setRow w.heap.size (rowM s) := ⟨_, rfl⟩
  rw [← hW] at hr2 ⊢
  have hEW : Ext w W := by rw [hW]; exact ext_row hE _
  obtain ⟨c0, c1⟩ := rowM_cells hr2
  clear hW
  exact bodyPost_ret (v := .agg (rowM s)) (by simp [results, Act.put, Tryz.results124, go_sem, c0, c1, rowM]) rfl ⟨rfl, hEW⟩
theorem markEntry_any (w : World) (n : Nat) (hn : n < numTop) (ht : ∀ W, Ext w W → TabW W) : Calls Tryz.prog 126 #[.int .i64 (n : Int)] w fun e w' => e = .returned (.agg (mkEntryL n).toArray) ∧ Ext w w' := by
  obtain ⟨s, hs⟩ : ∃ s, s = wordB n := ⟨_, rfl⟩
  have hw := fun W (hE : Ext w W) => word_any W n hn (ht W hE)
  unfold mkEntryL
  rw [← hs] at hw ⊢
  clear hs
  go_enter Tryz.func126, Tryz.ntmps126
  go_wp2_with fail
  refine (hw _ (by first | exact Ext.refl _ | exact (Ext.refl _).alloc _ | exact (Ext.refl _).drew | assumption)).mono ?_
  rintro e w1 ⟨rfl, hE1⟩
  have hrow := hE1.row (heap_alloc_new w _)
  have hE : Ext w w1 := ((Ext.refl w).alloc _).trans hE1
  clear hE1
  go_wp2_with (first | (refine wpList_store_row (by rfl) 159 (.tmp 2) (.tmp 6) (by rfl) w.heap.size (entryM s) (by rfl) (by rfl) 159 _ hrow (by exact info_entryM) (by rfl) (entryM_one s) ?_) | fail)
  have hr2 := setRow_heap w1 w.heap.size _ (entryM s) 159 (0, 0) hrow
  obtain ⟨W, hW⟩ : ∃ W, W = w1.setRow w.heap.size (entryM s) := ⟨_, rfl⟩
  rw [← hW] at hr2 ⊢
  have hEW : Ext w W := by rw [hW]; exact ext_row hE _
  obtain ⟨c0, c1, c2, c3⟩ := entryM_cells hr2
  clear hW
  exact bodyPost_ret (v := .agg (entryM s)) (by simp [results, Act.put, Tryz.results126, go_sem, c0, c1, c2, c3, entryM]) rfl ⟨rfl, hEW⟩
theorem isRow_any (w : World) (n : Nat) (hn : n < numTop) (ht : ∀ W, Ext w W → TabW W) : Calls Tryz.prog 137 #[.agg (mkRowL n).toArray, .int .i64 (n : Int)] w fun e w' => e = .returned (.bool true) ∧ Ext w w' := by
  obtain ⟨s, hs⟩ : ∃ s, s = wordB n := ⟨_, rfl⟩
  have hw := fun W (hE : Ext w W) => word_any W n hn (ht W hE)
  unfold mkRowL
  rw [← hs] at hw ⊢
  clear hs
  go_enter Tryz.func137, Tryz.ntmps137
  go_wp2_with fail
  obtain ⟨W, hW⟩ : ∃ W, W = w.alloc (.cells (rowM s) 84) := ⟨_, rfl⟩
  have hEW : Ext w W := by rw [hW]; exact (Ext.refl _).alloc _
  have hrow : W.heap[w.heap.size]? = some (.cells (rowM s) 84 (0, 0)) := by rw [hW]; exact heap_alloc_new w _
  have hS : Hid (∀ w', Ext W w' → Ext W w' ∧ w'.cell? ⟨w.heap.size, 0, none⟩ = some (.string s)) := Lib.hid (fun w' h => ⟨h, (rowM_cells (h.row hrow)).1⟩)
  rw [show w.alloc (.cells #[.string s, .string ⟨#[]⟩] 84) = W by rw [hW]; rfl]
  clear hW hrow
  go_region_held3 (fun w' => Ext W w' ∧ w'.cell? ⟨w.heap.size, 0, none⟩ = some (.string s)) ((refine hS.out _ ?_; first | exact (Ext.refl _).drew | assumption | (go_split_ands; assumption) | (refine Ext.trans ?_ (by assumption); go_split_ands; assumption))) (first | (go_at_call 154; refine (hw _ (hEW.trans (Ext.refl W).drew)).mono ?_; rintro e w1 ⟨rfl, hE1⟩) | fail)
  all_goals
    have hE : Ext w w1 := hEW.trans ((Ext.refl W).drew.trans hE1)
    go_wp2_with fail
    go_ret
    exact ⟨rfl, hE⟩
theorem isEntry_any (w : World) (n : Nat) (hn : n < numTop) (ht : ∀ W, Ext w W → TabW W) : Calls Tryz.prog 139 #[.agg (mkEntryL n).toArray, .int .i64 (n : Int)] w fun e w' => e = .returned (.bool true) ∧ Ext w w' := by
  obtain ⟨s, hs⟩ : ∃ s, s = wordB n := ⟨_, rfl⟩
  have hw := fun W (hE : Ext w W) => word_any W n hn (ht W hE)
  unfold mkEntryL
  rw [← hs] at hw ⊢
  clear hs
  go_enter Tryz.func139, Tryz.ntmps139
  go_wp2_with fail
  obtain ⟨W, hW⟩ : ∃ W, W = w.alloc (.cells (entryM s) 159) := ⟨_, rfl⟩
  have hEW : Ext w W := by rw [hW]; exact (Ext.refl _).alloc _
  have hrow : W.heap[w.heap.size]? = some (.cells (entryM s) 159 (0, 0)) := by rw [hW]; exact heap_alloc_new w _
  have hS : Hid (∀ w', Ext W w' → Ext W w' ∧ w'.cell? ⟨w.heap.size, 0, none⟩ = some (.string s)) := Lib.hid (fun w' h => ⟨h, (entryM_cells (h.row hrow)).1⟩)
  rw [show w.alloc (.cells #[.string s, .int .u64 0, .bool false, .string ⟨#[]⟩] 159) = W by rw [hW]; rfl]
  clear hW hrow
  go_region_held3 (fun w' => Ext W w' ∧ w'.cell? ⟨w.heap.size, 0, none⟩ = some (.string s)) ((refine hS.out _ ?_; first | exact (Ext.refl _).drew | assumption | (go_split_ands; assumption) | (refine Ext.trans ?_ (by assumption); go_split_ands; assumption))) (first | (go_at_call 154; refine (hw _ (hEW.trans (Ext.refl W).drew)).mono ?_; rintro e w1 ⟨rfl, hE1⟩) | fail)
  all_goals
    have hE : Ext w w1 := hEW.trans ((Ext.refl W).drew.trans hE1)
    go_wp2_with fail
    go_ret
    exact ⟨rfl, hE⟩
end Go.Proofs.YthageoibkeebhaaGreatDoor

/- The marks of a book: changes, what was said. No condition. -/
namespace Go.Proofs.YthageoibkeebhaaGreatDoor
open Go.RowKit
set_option maxRecDepth 100000
def mkChangeL (n : Nat) : List Value := [.string (wordB n), .string ⟨#[]⟩, .bool false]
def mkSaidL (n : Nat) : List Value := [.int .u8 200, .int .u32 (n : Int), .int .i64 0, .bool false, .slice none 0 0]
theorem info_changeM : (Tryz.prog.info? 102).map (·.size) = some 3 := by kernel_rfl
theorem info_saidM : (Tryz.prog.info? 87).map (·.size) = some 5 := by kernel_rfl
def changeM (s : ByteArray) : Array Value := #[.string s, .string ⟨#[]⟩, .bool false]
theorem changeM_one (s : ByteArray) : (changeM s).all (·.oneCell') = true := by kernel_rfl
theorem changeM_cells {w : World} {b : Nat} {s : ByteArray} (h : w.heap[b]? = some (.cells (changeM s) 102 (0, 0))) : w.cell? ⟨b, 0, none⟩ = some (.string s) ∧ w.cell? ⟨b, 1, none⟩ = some (.string ⟨#[]⟩) ∧ w.cell? ⟨b, 2, none⟩ = some (.bool false) :=
  ⟨by rw [cell_of_row _ _ _ _ _ _ h]; rfl, by rw [cell_of_row _ _ _ _ _ _ h]; rfl, by rw [cell_of_row _ _ _ _ _ _ h]; rfl⟩
theorem markChange_any (w : World) (n : Nat) (hn : n < numTop) (ht : ∀ W, Ext w W → TabW W) : Calls Tryz.prog 125 #[.int .i64 (n : Int)] w fun e w' => e = .returned (.agg (mkChangeL n).toArray) ∧ Ext w w' := by
  obtain ⟨s, hs⟩ : ∃ s, s = wordB n := ⟨_, rfl⟩
  have hw := fun W (hE : Ext w W) => word_any W n hn (ht W hE)
  unfold mkChangeL
  rw [← hs] at hw ⊢
  clear hs
  go_enter Tryz.func125, Tryz.ntmps125
  go_wp2_with fail
  refine (hw _ (by first | exact Ext.refl _ | exact (Ext.refl _).alloc _ | exact (Ext.refl _).drew | assumption)).mono ?_
  rintro e w1 ⟨rfl, hE1⟩
  have hrow := hE1.row (heap_alloc_new w _)
  have hE : Ext w w1 := ((Ext.refl w).alloc _).trans hE1
  clear hE1
  go_wp2_with (first | (refine wpList_store_row (by rfl) 102 (.tmp 2) (.tmp 5) (by rfl) w.heap.size (changeM s) (by rfl) (by rfl) 102 _ hrow (by exact info_changeM) (by rfl) (changeM_one s) ?_) | fail)
  have hr2 := setRow_heap w1 w.heap.size _ (changeM s) 102 (0, 0) hrow
  obtain ⟨W, hW⟩ : ∃ W, W = w1.setRow w.heap.size (changeM s) := ⟨_, rfl⟩
  rw [← hW] at hr2 ⊢
  have hEW : Ext w W := by rw [hW]; exact ext_row hE _
  obtain ⟨c0, c1, c2⟩ := changeM_cells hr2
  clear hW
  exact bodyPost_ret (v := .agg (changeM s)) (by simp [results, Act.put, Tryz.results125, go_sem, c0, c1, c2, changeM]) rfl ⟨rfl, hEW⟩
theorem isChange_any (w : World) (n : Nat) (hn : n < numTop) (ht : ∀ W, Ext w W → TabW W) : Calls Tryz.prog 138 #[.agg (mkChangeL n).toArray, .int .i64 (n : Int)] w fun e w' => e = .returned (.bool true) ∧ Ext w w' := by
  obtain ⟨s, hs⟩ : ∃ s, s = wordB n := ⟨_, rfl⟩
  have hw := fun W (hE : Ext w W) => word_any W n hn (ht W hE)
  unfold mkChangeL
  rw [← hs] at hw ⊢
  clear hs
  go_enter Tryz.func138, Tryz.ntmps138
  go_wp2_with fail
  obtain ⟨W, hW⟩ : ∃ W, W = w.alloc (.cells (changeM s) 102) := ⟨_, rfl⟩
  have hEW : Ext w W := by rw [hW]; exact (Ext.refl _).alloc _
  have hrow : W.heap[w.heap.size]? = some (.cells (changeM s) 102 (0, 0)) := by rw [hW]; exact heap_alloc_new w _
  have hS : Hid (∀ w', Ext W w' → Ext W w' ∧ w'.cell? ⟨w.heap.size, 0, none⟩ = some (.string s)) := Lib.hid (fun w' h => ⟨h, (changeM_cells (h.row hrow)).1⟩)
  rw [show w.alloc (.cells #[.string s, .string ⟨#[]⟩, .bool false] 102) = W by rw [hW]; rfl]
  clear hW hrow
  go_region_held3 (fun w' => Ext W w' ∧ w'.cell? ⟨w.heap.size, 0, none⟩ = some (.string s)) ((refine hS.out _ ?_; first | exact (Ext.refl _).drew | assumption | (go_split_ands; assumption) | (refine Ext.trans ?_ (by assumption); go_split_ands; assumption))) (first | (go_at_call 154; refine (hw _ (hEW.trans (Ext.refl W).drew)).mono ?_; rintro e w1 ⟨rfl, hE1⟩) | fail)
  all_goals
    have hE : Ext w w1 := hEW.trans ((Ext.refl W).drew.trans hE1)
    go_wp2_with fail
    go_ret
    exact ⟨rfl, hE⟩
def saidM (n : Nat) : Array Value := #[.int .u8 200, .int .u32 (n : Int), .int .i64 0, .bool false, .slice none 0 0]
theorem saidM_one (n : Nat) : (saidM n).all (·.oneCell') = true := by kernel_rfl
theorem markSaid_any (w : World) (n : Nat) (hn : n < 1000) : Calls Tryz.prog 129 #[.int .i64 (n : Int)] w fun e w' => e = .returned (.agg (mkSaidL n).toArray) ∧ Ext w w' := by
  have h2 : IntKind.u32.wrap (n : Int) = (n : Int) := by rw [IntKind.wrap_u32]; omega
  unfold mkSaidL
  go_enter Tryz.func129, Tryz.ntmps129
  go_wp2_with (first | (refine wpList_store_whole (by rfl) 87 (.tmp 2) (.tmp 5) (by rfl) w _ (saidM n) w.heap.size (by rfl) rfl (by rfl) (by exact info_saidM) (by rfl) (saidM_one n) ?_) | fail)
  have hset := heap_alloc_new w (.cells (saidM n) 87)
  have hE : Ext w (w.alloc (.cells (saidM n) 87)) := (Ext.refl _).alloc _
  generalize w.alloc _ = W at *
  have c0 : W.cell? ⟨w.heap.size, 0, none⟩ = some (.int .u8 200) := by rw [cell_of_row _ _ _ _ _ _ hset]; rfl
  have c1 : W.cell? ⟨w.heap.size, 1, none⟩ = some (.int .u32 (n : Int)) := by rw [cell_of_row _ _ _ _ _ _ hset]; rfl
  have c2 : W.cell? ⟨w.heap.size, 2, none⟩ = some (.int .i64 0) := by rw [cell_of_row _ _ _ _ _ _ hset]; rfl
  have c3 : W.cell? ⟨w.heap.size, 3, none⟩ = some (.bool false) := by rw [cell_of_row _ _ _ _ _ _ hset]; rfl
  have c4 : W.cell? ⟨w.heap.size, 4, none⟩ = some (.slice none 0 0) := by rw [cell_of_row _ _ _ _ _ _ hset]; rfl
  exact bodyPost_ret (v := .agg (saidM n)) (by simp [results, Act.put, Tryz.results129, go_sem, c0, c1, c2, c3, c4, saidM]) rfl ⟨rfl, hE⟩
theorem isSaid_any (w : World) (n : Nat) (hn : n < 1000) : Calls Tryz.prog 142 #[.agg (mkSaidL n).toArray, .int .i64 (n : Int)] w fun e w' => e = .returned (.bool true) ∧ Ext w w' := by
  have h2 : IntKind.u32.wrap (n : Int) = (n : Int) := by rw [IntKind.wrap_u32]; omega
  unfold mkSaidL
  go_enter Tryz.func142, Tryz.ntmps142
  go_wp2_with fail
  go_ret
  exact ⟨rfl, (Ext.refl _).alloc _⟩
end Go.Proofs.YthageoibkeebhaaGreatDoor

/- A book's kinds of lists of which it holds none: they are gone over. No condition. -/
namespace Go.Proofs.YthageoibkeebhaaGreatDoor
open Go.RowKit
def OkE (w : World) (e : Ending) (w' : World) : Prop := e = .returned (.tuple #[]) ∧ Ext w w'
theorem fillByte_nil (w : World) (g : Nat) (h : w.cell? ⟨g, 1, none⟩ = some (.slice none 0 0)) : Calls Tryz.prog 58 #[.pointer (some ⟨g, 0, none⟩)] w (OkE w) := by
  go_enter Tryz.func58, Tryz.ntmps58
  go_wp2_with fail
  go_loopw [2] (fun i wr => i = .int .i64 0 ∧ Ext w wr) (fun _ _ => 0)
  case atStart => exact ⟨rfl, Ext.refl _⟩
  case round =>
    obtain ⟨rfl, hE⟩ := hrel
    have hc := hE.cell h
    go_wp2_with fail
    go_end0
    exact ⟨rfl, hE⟩
theorem growByte_nil (w : World) (g : Nat) (h : w.cell? ⟨g, 1, none⟩ = some (.slice none 0 0)) : Calls Tryz.prog 71 #[.pointer (some ⟨g, 0, none⟩)] w (OkE w) := by
  go_enter Tryz.func71, Tryz.ntmps71
  go_wp2_with fail
  go_loopw [2] (fun i wr => i = .int .i64 0 ∧ Ext w wr) (fun _ _ => 0)
  case atStart => exact ⟨rfl, Ext.refl _⟩
  case round =>
    obtain ⟨rfl, hE⟩ := hrel
    have hc := hE.cell h
    go_wp2_with fail
    go_end0
    exact ⟨rfl, hE⟩
theorem lookByte_nil (w : World) (g : Nat) (h : w.cell? ⟨g, 1, none⟩ = some (.slice none 0 0)) : Calls Tryz.prog 84 #[.pointer (some ⟨g, 0, none⟩)] w fun e w' => e = .returned (.bool true) ∧ Ext w w' := by
  go_enter Tryz.func84, Tryz.ntmps84
  go_wp2_with fail
  go_loopw [3] (fun i wr => i = .int .i64 0 ∧ Ext w wr) (fun _ _ => 0)
  case atStart => exact ⟨rfl, Ext.refl _⟩
  case round =>
    obtain ⟨rfl, hE⟩ := hrel
    have hc := hE.cell h
    go_wp2_with fail
    go_ret
    exact ⟨rfl, hE⟩
theorem fillId_nil (w : World) (g : Nat) (h : w.cell? ⟨g, 2, none⟩ = some (.slice none 0 0)) : Calls Tryz.prog 59 #[.pointer (some ⟨g, 0, none⟩)] w (OkE w) := by
  go_enter Tryz.func59, Tryz.ntmps59
  go_wp2_with fail
  go_loopw [2] (fun i wr => i = .int .i64 0 ∧ Ext w wr) (fun _ _ => 0)
  case atStart => exact ⟨rfl, Ext.refl _⟩
  case round =>
    obtain ⟨rfl, hE⟩ := hrel
    have hc := hE.cell h
    go_wp2_with fail
    go_end0
    exact ⟨rfl, hE⟩
theorem growId_nil (w : World) (g : Nat) (h : w.cell? ⟨g, 2, none⟩ = some (.slice none 0 0)) : Calls Tryz.prog 72 #[.pointer (some ⟨g, 0, none⟩)] w (OkE w) := by
  go_enter Tryz.func72, Tryz.ntmps72
  go_wp2_with fail
  go_loopw [2] (fun i wr => i = .int .i64 0 ∧ Ext w wr) (fun _ _ => 0)
  case atStart => exact ⟨rfl, Ext.refl _⟩
  case round =>
    obtain ⟨rfl, hE⟩ := hrel
    have hc := hE.cell h
    go_wp2_with fail
    go_end0
    exact ⟨rfl, hE⟩
theorem lookId_nil (w : World) (g : Nat) (h : w.cell? ⟨g, 2, none⟩ = some (.slice none 0 0)) : Calls Tryz.prog 85 #[.pointer (some ⟨g, 0, none⟩)] w fun e w' => e = .returned (.bool true) ∧ Ext w w' := by
  go_enter Tryz.func85, Tryz.ntmps85
  go_wp2_with fail
  go_loopw [3] (fun i wr => i = .int .i64 0 ∧ Ext w wr) (fun _ _ => 0)
  case atStart => exact ⟨rfl, Ext.refl _⟩
  case round =>
    obtain ⟨rfl, hE⟩ := hrel
    have hc := hE.cell h
    go_wp2_with fail
    go_ret
    exact ⟨rfl, hE⟩
theorem fillNum_nil (w : World) (g : Nat) (h : w.cell? ⟨g, 3, none⟩ = some (.slice none 0 0)) : Calls Tryz.prog 60 #[.pointer (some ⟨g, 0, none⟩)] w (OkE w) := by
  go_enter Tryz.func60, Tryz.ntmps60
  go_wp2_with fail
  go_loopw [2] (fun i wr => i = .int .i64 0 ∧ Ext w wr) (fun _ _ => 0)
  case atStart => exact ⟨rfl, Ext.refl _⟩
  case round =>
    obtain ⟨rfl, hE⟩ := hrel
    have hc := hE.cell h
    go_wp2_with fail
    go_end0
    exact ⟨rfl, hE⟩
theorem growNum_nil (w : World) (g : Nat) (h : w.cell? ⟨g, 3, none⟩ = some (.slice none 0 0)) : Calls Tryz.prog 73 #[.pointer (some ⟨g, 0, none⟩)] w (OkE w) := by
  go_enter Tryz.func73, Tryz.ntmps73
  go_wp2_with fail
  go_loopw [2] (fun i wr => i = .int .i64 0 ∧ Ext w wr) (fun _ _ => 0)
  case atStart => exact ⟨rfl, Ext.refl _⟩
  case round =>
    obtain ⟨rfl, hE⟩ := hrel
    have hc := hE.cell h
    go_wp2_with fail
    go_end0
    exact ⟨rfl, hE⟩
theorem lookNum_nil (w : World) (g : Nat) (h : w.cell? ⟨g, 3, none⟩ = some (.slice none 0 0)) : Calls Tryz.prog 86 #[.pointer (some ⟨g, 0, none⟩)] w fun e w' => e = .returned (.bool true) ∧ Ext w w' := by
  go_enter Tryz.func86, Tryz.ntmps86
  go_wp2_with fail
  go_loopw [3] (fun i wr => i = .int .i64 0 ∧ Ext w wr) (fun _ _ => 0)
  case atStart => exact ⟨rfl, Ext.refl _⟩
  case round =>
    obtain ⟨rfl, hE⟩ := hrel
    have hc := hE.cell h
    go_wp2_with fail
    go_ret
    exact ⟨rfl, hE⟩
theorem fillInt_nil (w : World) (g : Nat) (h : w.cell? ⟨g, 4, none⟩ = some (.slice none 0 0)) : Calls Tryz.prog 61 #[.pointer (some ⟨g, 0, none⟩)] w (OkE w) := by
  go_enter Tryz.func61, Tryz.ntmps61
  go_wp2_with fail
  go_loopw [2] (fun i wr => i = .int .i64 0 ∧ Ext w wr) (fun _ _ => 0)
  case atStart => exact ⟨rfl, Ext.refl _⟩
  case round =>
    obtain ⟨rfl, hE⟩ := hrel
    have hc := hE.cell h
    go_wp2_with fail
    go_end0
    exact ⟨rfl, hE⟩
theorem growInt_nil (w : World) (g : Nat) (h : w.cell? ⟨g, 4, none⟩ = some (.slice none 0 0)) : Calls Tryz.prog 74 #[.pointer (some ⟨g, 0, none⟩)] w (OkE w) := by
  go_enter Tryz.func74, Tryz.ntmps74
  go_wp2_with fail
  go_loopw [2] (fun i wr => i = .int .i64 0 ∧ Ext w wr) (fun _ _ => 0)
  case atStart => exact ⟨rfl, Ext.refl _⟩
  case round =>
    obtain ⟨rfl, hE⟩ := hrel
    have hc := hE.cell h
    go_wp2_with fail
    go_end0
    exact ⟨rfl, hE⟩
theorem lookInt_nil (w : World) (g : Nat) (h : w.cell? ⟨g, 4, none⟩ = some (.slice none 0 0)) : Calls Tryz.prog 87 #[.pointer (some ⟨g, 0, none⟩)] w fun e w' => e = .returned (.bool true) ∧ Ext w w' := by
  go_enter Tryz.func87, Tryz.ntmps87
  go_wp2_with fail
  go_loopw [3] (fun i wr => i = .int .i64 0 ∧ Ext w wr) (fun _ _ => 0)
  case atStart => exact ⟨rfl, Ext.refl _⟩
  case round =>
    obtain ⟨rfl, hE⟩ := hrel
    have hc := hE.cell h
    go_wp2_with fail
    go_ret
    exact ⟨rfl, hE⟩
theorem fillText_nil (w : World) (g : Nat) (h : w.cell? ⟨g, 5, none⟩ = some (.slice none 0 0)) : Calls Tryz.prog 62 #[.pointer (some ⟨g, 0, none⟩)] w (OkE w) := by
  go_enter Tryz.func62, Tryz.ntmps62
  go_wp2_with fail
  go_loopw [2] (fun i wr => i = .int .i64 0 ∧ Ext w wr) (fun _ _ => 0)
  case atStart => exact ⟨rfl, Ext.refl _⟩
  case round =>
    obtain ⟨rfl, hE⟩ := hrel
    have hc := hE.cell h
    go_wp2_with fail
    go_end0
    exact ⟨rfl, hE⟩
theorem growText_nil (w : World) (g : Nat) (h : w.cell? ⟨g, 5, none⟩ = some (.slice none 0 0)) : Calls Tryz.prog 75 #[.pointer (some ⟨g, 0, none⟩)] w (OkE w) := by
  go_enter Tryz.func75, Tryz.ntmps75
  go_wp2_with fail
  go_loopw [2] (fun i wr => i = .int .i64 0 ∧ Ext w wr) (fun _ _ => 0)
  case atStart => exact ⟨rfl, Ext.refl _⟩
  case round =>
    obtain ⟨rfl, hE⟩ := hrel
    have hc := hE.cell h
    go_wp2_with fail
    go_end0
    exact ⟨rfl, hE⟩
theorem lookText_nil (w : World) (g : Nat) (h : w.cell? ⟨g, 5, none⟩ = some (.slice none 0 0)) : Calls Tryz.prog 88 #[.pointer (some ⟨g, 0, none⟩)] w fun e w' => e = .returned (.bool true) ∧ Ext w w' := by
  go_enter Tryz.func88, Tryz.ntmps88
  go_wp2_with fail
  go_loopw [3] (fun i wr => i = .int .i64 0 ∧ Ext w wr) (fun _ _ => 0)
  case atStart => exact ⟨rfl, Ext.refl _⟩
  case round =>
    obtain ⟨rfl, hE⟩ := hrel
    have hc := hE.cell h
    go_wp2_with fail
    go_ret
    exact ⟨rfl, hE⟩
theorem fillRow_nil (w : World) (g : Nat) (h : w.cell? ⟨g, 6, none⟩ = some (.slice none 0 0)) : Calls Tryz.prog 63 #[.pointer (some ⟨g, 0, none⟩)] w (OkE w) := by
  go_enter Tryz.func63, Tryz.ntmps63
  go_wp2_with fail
  go_loopw [2] (fun i wr => i = .int .i64 0 ∧ Ext w wr) (fun _ _ => 0)
  case atStart => exact ⟨rfl, Ext.refl _⟩
  case round =>
    obtain ⟨rfl, hE⟩ := hrel
    have hc := hE.cell h
    go_wp2_with fail
    go_end0
    exact ⟨rfl, hE⟩
theorem growRow_nil (w : World) (g : Nat) (h : w.cell? ⟨g, 6, none⟩ = some (.slice none 0 0)) : Calls Tryz.prog 76 #[.pointer (some ⟨g, 0, none⟩)] w (OkE w) := by
  go_enter Tryz.func76, Tryz.ntmps76
  go_wp2_with fail
  go_loopw [2] (fun i wr => i = .int .i64 0 ∧ Ext w wr) (fun _ _ => 0)
  case atStart => exact ⟨rfl, Ext.refl _⟩
  case round =>
    obtain ⟨rfl, hE⟩ := hrel
    have hc := hE.cell h
    go_wp2_with fail
    go_end0
    exact ⟨rfl, hE⟩
theorem lookRow_nil (w : World) (g : Nat) (h : w.cell? ⟨g, 6, none⟩ = some (.slice none 0 0)) : Calls Tryz.prog 89 #[.pointer (some ⟨g, 0, none⟩)] w fun e w' => e = .returned (.bool true) ∧ Ext w w' := by
  go_enter Tryz.func89, Tryz.ntmps89
  go_wp2_with fail
  go_loopw [3] (fun i wr => i = .int .i64 0 ∧ Ext w wr) (fun _ _ => 0)
  case atStart => exact ⟨rfl, Ext.refl _⟩
  case round =>
    obtain ⟨rfl, hE⟩ := hrel
    have hc := hE.cell h
    go_wp2_with fail
    go_ret
    exact ⟨rfl, hE⟩
theorem fillChange_nil (w : World) (g : Nat) (h : w.cell? ⟨g, 7, none⟩ = some (.slice none 0 0)) : Calls Tryz.prog 64 #[.pointer (some ⟨g, 0, none⟩)] w (OkE w) := by
  go_enter Tryz.func64, Tryz.ntmps64
  go_wp2_with fail
  go_loopw [2] (fun i wr => i = .int .i64 0 ∧ Ext w wr) (fun _ _ => 0)
  case atStart => exact ⟨rfl, Ext.refl _⟩
  case round =>
    obtain ⟨rfl, hE⟩ := hrel
    have hc := hE.cell h
    go_wp2_with fail
    go_end0
    exact ⟨rfl, hE⟩
theorem growChange_nil (w : World) (g : Nat) (h : w.cell? ⟨g, 7, none⟩ = some (.slice none 0 0)) : Calls Tryz.prog 77 #[.pointer (some ⟨g, 0, none⟩)] w (OkE w) := by
  go_enter Tryz.func77, Tryz.ntmps77
  go_wp2_with fail
  go_loopw [2] (fun i wr => i = .int .i64 0 ∧ Ext w wr) (fun _ _ => 0)
  case atStart => exact ⟨rfl, Ext.refl _⟩
  case round =>
    obtain ⟨rfl, hE⟩ := hrel
    have hc := hE.cell h
    go_wp2_with fail
    go_end0
    exact ⟨rfl, hE⟩
theorem lookChange_nil (w : World) (g : Nat) (h : w.cell? ⟨g, 7, none⟩ = some (.slice none 0 0)) : Calls Tryz.prog 90 #[.pointer (some ⟨g, 0, none⟩)] w fun e w' => e = .returned (.bool true) ∧ Ext w w' := by
  go_enter Tryz.func90, Tryz.ntmps90
  go_wp2_with fail
  go_loopw [3] (fun i wr => i = .int .i64 0 ∧ Ext w wr) (fun _ _ => 0)
  case atStart => exact ⟨rfl, Ext.refl _⟩
  case round =>
    obtain ⟨rfl, hE⟩ := hrel
    have hc := hE.cell h
    go_wp2_with fail
    go_ret
    exact ⟨rfl, hE⟩
theorem fillEntry_nil (w : World) (g : Nat) (h : w.cell? ⟨g, 8, none⟩ = some (.slice none 0 0)) : Calls Tryz.prog 65 #[.pointer (some ⟨g, 0, none⟩)] w (OkE w) := by
  go_enter Tryz.func65, Tryz.ntmps65
  go_wp2_with fail
  go_loopw [2] (fun i wr => i = .int .i64 0 ∧ Ext w wr) (fun _ _ => 0)
  case atStart => exact ⟨rfl, Ext.refl _⟩
  case round =>
    obtain ⟨rfl, hE⟩ := hrel
    have hc := hE.cell h
    go_wp2_with fail
    go_end0
    exact ⟨rfl, hE⟩
theorem growEntry_nil (w : World) (g : Nat) (h : w.cell? ⟨g, 8, none⟩ = some (.slice none 0 0)) : Calls Tryz.prog 78 #[.pointer (some ⟨g, 0, none⟩)] w (OkE w) := by
  go_enter Tryz.func78, Tryz.ntmps78
  go_wp2_with fail
  go_loopw [2] (fun i wr => i = .int .i64 0 ∧ Ext w wr) (fun _ _ => 0)
  case atStart => exact ⟨rfl, Ext.refl _⟩
  case round =>
    obtain ⟨rfl, hE⟩ := hrel
    have hc := hE.cell h
    go_wp2_with fail
    go_end0
    exact ⟨rfl, hE⟩
theorem lookEntry_nil (w : World) (g : Nat) (h : w.cell? ⟨g, 8, none⟩ = some (.slice none 0 0)) : Calls Tryz.prog 91 #[.pointer (some ⟨g, 0, none⟩)] w fun e w' => e = .returned (.bool true) ∧ Ext w w' := by
  go_enter Tryz.func91, Tryz.ntmps91
  go_wp2_with fail
  go_loopw [3] (fun i wr => i = .int .i64 0 ∧ Ext w wr) (fun _ _ => 0)
  case atStart => exact ⟨rfl, Ext.refl _⟩
  case round =>
    obtain ⟨rfl, hE⟩ := hrel
    have hc := hE.cell h
    go_wp2_with fail
    go_ret
    exact ⟨rfl, hE⟩
theorem fillFile_nil (w : World) (g : Nat) (h : w.cell? ⟨g, 9, none⟩ = some (.slice none 0 0)) : Calls Tryz.prog 66 #[.pointer (some ⟨g, 0, none⟩)] w (OkE w) := by
  go_enter Tryz.func66, Tryz.ntmps66
  go_wp2_with fail
  go_loopw [2] (fun i wr => i = .int .i64 0 ∧ Ext w wr) (fun _ _ => 0)
  case atStart => exact ⟨rfl, Ext.refl _⟩
  case round =>
    obtain ⟨rfl, hE⟩ := hrel
    have hc := hE.cell h
    go_wp2_with fail
    go_end0
    exact ⟨rfl, hE⟩
theorem growFile_nil (w : World) (g : Nat) (h : w.cell? ⟨g, 9, none⟩ = some (.slice none 0 0)) : Calls Tryz.prog 79 #[.pointer (some ⟨g, 0, none⟩)] w (OkE w) := by
  go_enter Tryz.func79, Tryz.ntmps79
  go_wp2_with fail
  go_loopw [2] (fun i wr => i = .int .i64 0 ∧ Ext w wr) (fun _ _ => 0)
  case atStart => exact ⟨rfl, Ext.refl _⟩
  case round =>
    obtain ⟨rfl, hE⟩ := hrel
    have hc := hE.cell h
    go_wp2_with fail
    go_end0
    exact ⟨rfl, hE⟩
theorem lookFile_nil (w : World) (g : Nat) (h : w.cell? ⟨g, 9, none⟩ = some (.slice none 0 0)) : Calls Tryz.prog 92 #[.pointer (some ⟨g, 0, none⟩)] w fun e w' => e = .returned (.bool true) ∧ Ext w w' := by
  go_enter Tryz.func92, Tryz.ntmps92
  go_wp2_with fail
  go_loopw [3] (fun i wr => i = .int .i64 0 ∧ Ext w wr) (fun _ _ => 0)
  case atStart => exact ⟨rfl, Ext.refl _⟩
  case round =>
    obtain ⟨rfl, hE⟩ := hrel
    have hc := hE.cell h
    go_wp2_with fail
    go_ret
    exact ⟨rfl, hE⟩
theorem fillItem_nil (w : World) (g : Nat) (h : w.cell? ⟨g, 10, none⟩ = some (.slice none 0 0)) : Calls Tryz.prog 67 #[.pointer (some ⟨g, 0, none⟩)] w (OkE w) := by
  go_enter Tryz.func67, Tryz.ntmps67
  go_wp2_with fail
  go_loopw [2] (fun i wr => i = .int .i64 0 ∧ Ext w wr) (fun _ _ => 0)
  case atStart => exact ⟨rfl, Ext.refl _⟩
  case round =>
    obtain ⟨rfl, hE⟩ := hrel
    have hc := hE.cell h
    go_wp2_with fail
    go_end0
    exact ⟨rfl, hE⟩
theorem growItem_nil (w : World) (g : Nat) (h : w.cell? ⟨g, 10, none⟩ = some (.slice none 0 0)) : Calls Tryz.prog 80 #[.pointer (some ⟨g, 0, none⟩)] w (OkE w) := by
  go_enter Tryz.func80, Tryz.ntmps80
  go_wp2_with fail
  go_loopw [2] (fun i wr => i = .int .i64 0 ∧ Ext w wr) (fun _ _ => 0)
  case atStart => exact ⟨rfl, Ext.refl _⟩
  case round =>
    obtain ⟨rfl, hE⟩ := hrel
    have hc := hE.cell h
    go_wp2_with fail
    go_end0
    exact ⟨rfl, hE⟩
theorem lookItem_nil (w : World) (g : Nat) (h : w.cell? ⟨g, 10, none⟩ = some (.slice none 0 0)) : Calls Tryz.prog 93 #[.pointer (some ⟨g, 0, none⟩)] w fun e w' => e = .returned (.bool true) ∧ Ext w w' := by
  go_enter Tryz.func93, Tryz.ntmps93
  go_wp2_with fail
  go_loopw [3] (fun i wr => i = .int .i64 0 ∧ Ext w wr) (fun _ _ => 0)
  case atStart => exact ⟨rfl, Ext.refl _⟩
  case round =>
    obtain ⟨rfl, hE⟩ := hrel
    have hc := hE.cell h
    go_wp2_with fail
    go_ret
    exact ⟨rfl, hE⟩
theorem fillSaid_nil (w : World) (g : Nat) (h : w.cell? ⟨g, 11, none⟩ = some (.slice none 0 0)) : Calls Tryz.prog 68 #[.pointer (some ⟨g, 0, none⟩)] w (OkE w) := by
  go_enter Tryz.func68, Tryz.ntmps68
  go_wp2_with fail
  go_loopw [2] (fun i wr => i = .int .i64 0 ∧ Ext w wr) (fun _ _ => 0)
  case atStart => exact ⟨rfl, Ext.refl _⟩
  case round =>
    obtain ⟨rfl, hE⟩ := hrel
    have hc := hE.cell h
    go_wp2_with fail
    go_end0
    exact ⟨rfl, hE⟩
theorem growSaid_nil (w : World) (g : Nat) (h : w.cell? ⟨g, 11, none⟩ = some (.slice none 0 0)) : Calls Tryz.prog 81 #[.pointer (some ⟨g, 0, none⟩)] w (OkE w) := by
  go_enter Tryz.func81, Tryz.ntmps81
  go_wp2_with fail
  go_loopw [2] (fun i wr => i = .int .i64 0 ∧ Ext w wr) (fun _ _ => 0)
  case atStart => exact ⟨rfl, Ext.refl _⟩
  case round =>
    obtain ⟨rfl, hE⟩ := hrel
    have hc := hE.cell h
    go_wp2_with fail
    go_end0
    exact ⟨rfl, hE⟩
theorem lookSaid_nil (w : World) (g : Nat) (h : w.cell? ⟨g, 11, none⟩ = some (.slice none 0 0)) : Calls Tryz.prog 94 #[.pointer (some ⟨g, 0, none⟩)] w fun e w' => e = .returned (.bool true) ∧ Ext w w' := by
  go_enter Tryz.func94, Tryz.ntmps94
  go_wp2_with fail
  go_loopw [3] (fun i wr => i = .int .i64 0 ∧ Ext w wr) (fun _ _ => 0)
  case atStart => exact ⟨rfl, Ext.refl _⟩
  case round =>
    obtain ⟨rfl, hE⟩ := hrel
    have hc := hE.cell h
    go_wp2_with fail
    go_ret
    exact ⟨rfl, hE⟩
theorem fillMsg_nil (w : World) (g : Nat) (h : w.cell? ⟨g, 12, none⟩ = some (.slice none 0 0)) : Calls Tryz.prog 69 #[.pointer (some ⟨g, 0, none⟩)] w (OkE w) := by
  go_enter Tryz.func69, Tryz.ntmps69
  go_wp2_with fail
  go_loopw [2] (fun i wr => i = .int .i64 0 ∧ Ext w wr) (fun _ _ => 0)
  case atStart => exact ⟨rfl, Ext.refl _⟩
  case round =>
    obtain ⟨rfl, hE⟩ := hrel
    have hc := hE.cell h
    go_wp2_with fail
    go_end0
    exact ⟨rfl, hE⟩
theorem growMsg_nil (w : World) (g : Nat) (h : w.cell? ⟨g, 12, none⟩ = some (.slice none 0 0)) : Calls Tryz.prog 82 #[.pointer (some ⟨g, 0, none⟩)] w (OkE w) := by
  go_enter Tryz.func82, Tryz.ntmps82
  go_wp2_with fail
  go_loopw [2] (fun i wr => i = .int .i64 0 ∧ Ext w wr) (fun _ _ => 0)
  case atStart => exact ⟨rfl, Ext.refl _⟩
  case round =>
    obtain ⟨rfl, hE⟩ := hrel
    have hc := hE.cell h
    go_wp2_with fail
    go_end0
    exact ⟨rfl, hE⟩
theorem lookMsg_nil (w : World) (g : Nat) (h : w.cell? ⟨g, 12, none⟩ = some (.slice none 0 0)) : Calls Tryz.prog 95 #[.pointer (some ⟨g, 0, none⟩)] w fun e w' => e = .returned (.bool true) ∧ Ext w w' := by
  go_enter Tryz.func95, Tryz.ntmps95
  go_wp2_with fail
  go_loopw [3] (fun i wr => i = .int .i64 0 ∧ Ext w wr) (fun _ _ => 0)
  case atStart => exact ⟨rfl, Ext.refl _⟩
  case round =>
    obtain ⟨rfl, hE⟩ := hrel
    have hc := hE.cell h
    go_wp2_with fail
    go_ret
    exact ⟨rfl, hE⟩
theorem fillEvent_nil (w : World) (g : Nat) (h : w.cell? ⟨g, 13, none⟩ = some (.slice none 0 0)) : Calls Tryz.prog 70 #[.pointer (some ⟨g, 0, none⟩)] w (OkE w) := by
  go_enter Tryz.func70, Tryz.ntmps70
  go_wp2_with fail
  go_loopw [2] (fun i wr => i = .int .i64 0 ∧ Ext w wr) (fun _ _ => 0)
  case atStart => exact ⟨rfl, Ext.refl _⟩
  case round =>
    obtain ⟨rfl, hE⟩ := hrel
    have hc := hE.cell h
    go_wp2_with fail
    go_end0
    exact ⟨rfl, hE⟩
theorem growEvent_nil (w : World) (g : Nat) (h : w.cell? ⟨g, 13, none⟩ = some (.slice none 0 0)) : Calls Tryz.prog 83 #[.pointer (some ⟨g, 0, none⟩)] w (OkE w) := by
  go_enter Tryz.func83, Tryz.ntmps83
  go_wp2_with fail
  go_loopw [2] (fun i wr => i = .int .i64 0 ∧ Ext w wr) (fun _ _ => 0)
  case atStart => exact ⟨rfl, Ext.refl _⟩
  case round =>
    obtain ⟨rfl, hE⟩ := hrel
    have hc := hE.cell h
    go_wp2_with fail
    go_end0
    exact ⟨rfl, hE⟩
theorem lookEvent_nil (w : World) (g : Nat) (h : w.cell? ⟨g, 13, none⟩ = some (.slice none 0 0)) : Calls Tryz.prog 96 #[.pointer (some ⟨g, 0, none⟩)] w fun e w' => e = .returned (.bool true) ∧ Ext w w' := by
  go_enter Tryz.func96, Tryz.ntmps96
  go_wp2_with fail
  go_loopw [3] (fun i wr => i = .int .i64 0 ∧ Ext w wr) (fun _ _ => 0)
  case atStart => exact ⟨rfl, Ext.refl _⟩
  case round =>
    obtain ⟨rfl, hE⟩ := hrel
    have hc := hE.cell h
    go_wp2_with fail
    go_ret
    exact ⟨rfl, hE⟩
end Go.Proofs.YthageoibkeebhaaGreatDoor

/- The kinds of lists of a book that come up here. No condition. -/
namespace Go.Proofs.YthageoibkeebhaaGreatDoor
open Go.RowKit
def bkT : BkT := { ht := fun j => match j with | 6 => 125 | 7 => 151 | 11 => 127 | _ => 0, et := fun j => match j with | 6 => 84 | 7 => 102 | 11 => 87 | _ => 0, z := fun j => match j with | 6 => 2 | 7 => 3 | 11 => 5 | _ => 0, mark := fun j n => match j with | 6 => mkRowL n | 7 => mkChangeL n | 11 => mkSaidL n | _ => [] }
end Go.Proofs.YthageoibkeebhaaGreatDoor
