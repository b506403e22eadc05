/- Several texts in one: BkM3 BkN BkT. No condition. -/
import Derived.Test.YtmopjmhapeinjaaGreatDoorGrB4
import Derived.Test.YtmopjmhapeinjaaGreatDoorProg
import Derived.Test.YtmopjmhapeinjaaGreatDoorGrA0
import Derived.WalkKit
/- The marks of a book: bytes, items, messages. No condition. -/
namespace Go.Proofs.YtmopjmhapeinjaaGreatDoor
open Go.RowKit
set_option maxRecDepth 100000
set_option maxHeartbeats 2000000
def mkByte (n : Nat) : List Value := [.int .u8 ((1 + n % 250 : Nat) : Int)]
theorem markByte_any (w : World) (n : Nat) (hn : n < 1000000) : Calls Tryz.prog 126 #[.int .i64 (n : Int)] w fun e w' => e = .returned (.int .u8 ((1 + n % 250 : Nat) : Int)) ∧ Ext w w' := by
  have h1 : IntKind.i64.wrap (1 + (n : Int) % 250) = 1 + (n : Int) % 250 := by rw [IntKind.wrap_i64]; omega
  have h2 : IntKind.u8.wrap (1 + (n : Int) % 250) = 1 + (n : Int) % 250 := by rw [IntKind.wrap_u8]; omega
  have h3 : ((1 + n % 250 : Nat) : Int) = 1 + (n : Int) % 250 := by omega
  rw [h3]
  clear h3
  go_enter Tryz.func126, Tryz.ntmps126
  go_wp2_with fail
  go_ret
  exact ⟨rfl, Ext.refl _⟩
theorem isByte_any (w : World) (n : Nat) (hn : n < 1000000) : Calls Tryz.prog 139 #[.int .u8 ((1 + n % 250 : Nat) : Int), .int .i64 (n : Int)] w fun e w' => e = .returned (.bool true) ∧ Ext w w' := by
  have h1 : IntKind.i64.wrap (1 + (n : Int) % 250) = 1 + (n : Int) % 250 := by rw [IntKind.wrap_i64]; omega
  have h2 : IntKind.u8.wrap (1 + (n : Int) % 250) = 1 + (n : Int) % 250 := by rw [IntKind.wrap_u8]; omega
  have h3 : ((1 + n % 250 : Nat) : Int) = 1 + (n : Int) % 250 := by omega
  rw [h3]
  clear h3
  go_enter Tryz.func139, Tryz.ntmps139
  go_wp2_with fail
  go_ret
  exact ⟨rfl, Ext.refl _⟩
def mkItemL (n : Nat) : List Value := [.int .u64 (n : Int), .int .u8 0, .int .u32 0, .int .u8 0, .string ⟨#[]⟩, .string ⟨#[]⟩, .string ⟨#[]⟩, .bool false, .string ⟨#[]⟩, .int .i64 0, .slice none 0 0]
theorem info_itemM : (Tryz.prog.info? 100).map (·.size) = some 11 := by kernel_rfl
def itemM (n : Nat) : Array Value := #[.int .u64 (n : Int), .int .u8 0, .int .u32 0, .int .u8 0, .string ⟨#[]⟩, .string ⟨#[]⟩, .string ⟨#[]⟩, .bool false, .string ⟨#[]⟩, .int .i64 0, .slice none 0 0]
theorem itemM_one (n : Nat) : (itemM n).all (·.oneCell') = true := by kernel_rfl
theorem markItem_any (w : World) (n : Nat) (hn : n < 1000000) : Calls Tryz.prog 135 #[.int .i64 (n : Int)] w fun e w' => e = .returned (.agg (mkItemL n).toArray) ∧ Ext w w' := by
  have h2 : IntKind.u64.wrap (n : Int) = (n : Int) := by rw [IntKind.wrap_u64]; omega
  unfold mkItemL
  go_enter Tryz.func135, Tryz.ntmps135
  go_wp2_with (first | (refine wpList_store_whole (by rfl) 100 (.tmp 2) (.tmp 5) (by rfl) w _ (itemM n) w.heap.size (by rfl) rfl (by rfl) (by exact info_itemM) (by rfl) (itemM_one n) ?_) | fail)
  have hset := heap_alloc_new w (.cells (itemM n) 100)
  have hE : Ext w (w.alloc (.cells (itemM n) 100)) := (Ext.refl _).alloc _
  generalize w.alloc _ = W at *
  have c0 : W.cell? ⟨w.heap.size, 0, none⟩ = some (.int .u64 (n : Int)) := by rw [cell_of_row _ _ _ _ _ _ hset]; rfl
  have c1 : W.cell? ⟨w.heap.size, 1, none⟩ = some (.int .u8 0) := by rw [cell_of_row _ _ _ _ _ _ hset]; rfl
  have c2 : W.cell? ⟨w.heap.size, 2, none⟩ = some (.int .u32 0) := by rw [cell_of_row _ _ _ _ _ _ hset]; rfl
  have c3 : W.cell? ⟨w.heap.size, 3, none⟩ = some (.int .u8 0) := by rw [cell_of_row _ _ _ _ _ _ hset]; rfl
  have c4 : W.cell? ⟨w.heap.size, 4, none⟩ = some (.string ⟨#[]⟩) := by rw [cell_of_row _ _ _ _ _ _ hset]; rfl
  have c5 : W.cell? ⟨w.heap.size, 5, none⟩ = some (.string ⟨#[]⟩) := by rw [cell_of_row _ _ _ _ _ _ hset]; rfl
  have c6 : W.cell? ⟨w.heap.size, 6, none⟩ = some (.string ⟨#[]⟩) := by rw [cell_of_row _ _ _ _ _ _ hset]; rfl
  have c7 : W.cell? ⟨w.heap.size, 7, none⟩ = some (.bool false) := by rw [cell_of_row _ _ _ _ _ _ hset]; rfl
  have c8 : W.cell? ⟨w.heap.size, 8, none⟩ = some (.string ⟨#[]⟩) := by rw [cell_of_row _ _ _ _ _ _ hset]; rfl
  have c9 : W.cell? ⟨w.heap.size, 9, none⟩ = some (.int .i64 0) := by rw [cell_of_row _ _ _ _ _ _ hset]; rfl
  have c10 : W.cell? ⟨w.heap.size, 10, none⟩ = some (.slice none 0 0) := by rw [cell_of_row _ _ _ _ _ _ hset]; rfl
  exact bodyPost_ret (v := .agg (itemM n)) (by simp [results, Act.put, Tryz.results135, go_sem, c0, c1, c2, c3, c4, c5, c6, c7, c8, c9, c10, itemM]) rfl ⟨rfl, hE⟩
theorem isItem_any (w : World) (n : Nat) (hn : n < 1000000) : Calls Tryz.prog 148 #[.agg (mkItemL n).toArray, .int .i64 (n : Int)] w fun e w' => e = .returned (.bool true) ∧ Ext w w' := by
  have h2 : IntKind.u64.wrap (n : Int) = (n : Int) := by rw [IntKind.wrap_u64]; omega
  unfold mkItemL
  go_enter Tryz.func148, Tryz.ntmps148
  go_wp2_with fail
  go_ret
  exact ⟨rfl, (Ext.refl _).alloc _⟩
def mkMsgL (n : Nat) : List Value := [.int .u8 200, .int .u8 0, .int .u8 0, .int .u32 0, .int .u8 0, .int .u32 (n : Int), .int .u64 0, .int .u64 0, .slice none 0 0, .slice none 0 0, .slice none 0 0, .slice none 0 0, .slice none 0 0, .int .i64 0, .bool false, .slice none 0 0]
theorem info_msgM : (Tryz.prog.info? 63).map (·.size) = some 16 := by kernel_rfl
def msgM (n : Nat) : Array Value := #[.int .u8 200, .int .u8 0, .int .u8 0, .int .u32 0, .int .u8 0, .int .u32 (n : Int), .int .u64 0, .int .u64 0, .slice none 0 0, .slice none 0 0, .slice none 0 0, .slice none 0 0, .slice none 0 0, .int .i64 0, .bool false, .slice none 0 0]
theorem msgM_one (n : Nat) : (msgM n).all (·.oneCell') = true := by kernel_rfl
theorem markMsg_any (w : World) (n : Nat) (hn : n < 1000000) : Calls Tryz.prog 137 #[.int .i64 (n : Int)] w fun e w' => e = .returned (.agg (mkMsgL n).toArray) ∧ Ext w w' := by
  have h2 : IntKind.u32.wrap (n : Int) = (n : Int) := by rw [IntKind.wrap_u32]; omega
  unfold mkMsgL
  go_enter Tryz.func137, Tryz.ntmps137
  go_wp2_with (first | (refine wpList_store_whole (by rfl) 63 (.tmp 2) (.tmp 5) (by rfl) w _ (msgM n) w.heap.size (by rfl) rfl (by rfl) (by exact info_msgM) (by rfl) (msgM_one n) ?_) | fail)
  have hset := heap_alloc_new w (.cells (msgM n) 63)
  have hE : Ext w (w.alloc (.cells (msgM n) 63)) := (Ext.refl _).alloc _
  generalize w.alloc _ = W at *
  have c0 : W.cell? ⟨w.heap.size, 0, none⟩ = some (.int .u8 200) := by rw [cell_of_row _ _ _ _ _ _ hset]; rfl
  have c1 : W.cell? ⟨w.heap.size, 1, none⟩ = some (.int .u8 0) := by rw [cell_of_row _ _ _ _ _ _ hset]; rfl
  have c2 : W.cell? ⟨w.heap.size, 2, none⟩ = some (.int .u8 0) := by rw [cell_of_row _ _ _ _ _ _ hset]; rfl
  have c3 : W.cell? ⟨w.heap.size, 3, none⟩ = some (.int .u32 0) := by rw [cell_of_row _ _ _ _ _ _ hset]; rfl
  have c4 : W.cell? ⟨w.heap.size, 4, none⟩ = some (.int .u8 0) := by rw [cell_of_row _ _ _ _ _ _ hset]; rfl
  have c5 : W.cell? ⟨w.heap.size, 5, none⟩ = some (.int .u32 (n : Int)) := by rw [cell_of_row _ _ _ _ _ _ hset]; rfl
  have c6 : W.cell? ⟨w.heap.size, 6, none⟩ = some (.int .u64 0) := by rw [cell_of_row _ _ _ _ _ _ hset]; rfl
  have c7 : W.cell? ⟨w.heap.size, 7, none⟩ = some (.int .u64 0) := by rw [cell_of_row _ _ _ _ _ _ hset]; rfl
  have c8 : W.cell? ⟨w.heap.size, 8, none⟩ = some (.slice none 0 0) := by rw [cell_of_row _ _ _ _ _ _ hset]; rfl
  have c9 : W.cell? ⟨w.heap.size, 9, none⟩ = some (.slice none 0 0) := by rw [cell_of_row _ _ _ _ _ _ hset]; rfl
  have c10 : W.cell? ⟨w.heap.size, 10, none⟩ = some (.slice none 0 0) := by rw [cell_of_row _ _ _ _ _ _ hset]; rfl
  have c11 : W.cell? ⟨w.heap.size, 11, none⟩ = some (.slice none 0 0) := by rw [cell_of_row _ _ _ _ _ _ hset]; rfl
  have c12 : W.cell? ⟨w.heap.size, 12, none⟩ = some (.slice none 0 0) := by rw [cell_of_row _ _ _ _ _ _ hset]; rfl
  have c13 : W.cell? ⟨w.heap.size, 13, none⟩ = some (.int .i64 0) := by rw [cell_of_row _ _ _ _ _ _ hset]; rfl
  have c14 : W.cell? ⟨w.heap.size, 14, none⟩ = some (.bool false) := by rw [cell_of_row _ _ _ _ _ _ hset]; rfl
  have c15 : W.cell? ⟨w.heap.size, 15, none⟩ = some (.slice none 0 0) := by rw [cell_of_row _ _ _ _ _ _ hset]; rfl
  exact bodyPost_ret (v := .agg (msgM n)) (by simp [results, Act.put, Tryz.results137, go_sem, c0, c1, c2, c3, c4, c5, c6, c7, c8, c9, c10, c11, c12, c13, c14, c15, msgM]) rfl ⟨rfl, hE⟩
theorem isMsg_any (w : World) (n : Nat) (hn : n < 1000000) : Calls Tryz.prog 150 #[.agg (mkMsgL n).toArray, .int .i64 (n : Int)] w fun e w' => e = .returned (.bool true) ∧ Ext w w' := by
  have h2 : IntKind.u32.wrap (n : Int) = (n : Int) := by rw [IntKind.wrap_u32]; omega
  unfold mkMsgL
  go_enter Tryz.func150, Tryz.ntmps150
  go_wp2_with fail
  go_ret
  exact ⟨rfl, (Ext.refl _).alloc _⟩
end Go.Proofs.YtmopjmhapeinjaaGreatDoor

/- A book's kinds of lists of which it holds none: they are gone over. No condition. -/
namespace Go.Proofs.YtmopjmhapeinjaaGreatDoor
open Go.RowKit
def OkE (w : World) (e : Ending) (w' : World) : Prop := e = .returned (.tuple #[]) ∧ Ext w w'
theorem fillByte_nil (w : World) (g : Nat) (h : w.cell? ⟨g, 1, none⟩ = some (.slice none 0 0)) : Calls Tryz.prog 56 #[.pointer (some ⟨g, 0, none⟩)] w (OkE w) := by
  go_enter Tryz.func56, Tryz.ntmps56
  go_wp2_with fail
  go_loopw [2] (fun i wr => i = .int .i64 0 ∧ Ext w wr) (fun _ _ => 0)
  case atStart => exact ⟨rfl, Ext.refl _⟩
  case round =>
    obtain ⟨rfl, hE⟩ := hrel
    have hc := hE.cell h
    go_wp2_with fail
    go_end0
    exact ⟨rfl, hE⟩
theorem growByte_nil (w : World) (g : Nat) (h : w.cell? ⟨g, 1, none⟩ = some (.slice none 0 0)) : Calls Tryz.prog 69 #[.pointer (some ⟨g, 0, none⟩)] w (OkE w) := by
  go_enter Tryz.func69, Tryz.ntmps69
  go_wp2_with fail
  go_loopw [2] (fun i wr => i = .int .i64 0 ∧ Ext w wr) (fun _ _ => 0)
  case atStart => exact ⟨rfl, Ext.refl _⟩
  case round =>
    obtain ⟨rfl, hE⟩ := hrel
    have hc := hE.cell h
    go_wp2_with fail
    go_end0
    exact ⟨rfl, hE⟩
theorem lookByte_nil (w : World) (g : Nat) (h : w.cell? ⟨g, 1, none⟩ = some (.slice none 0 0)) : Calls Tryz.prog 82 #[.pointer (some ⟨g, 0, none⟩)] w fun e w' => e = .returned (.bool true) ∧ Ext w w' := by
  go_enter Tryz.func82, Tryz.ntmps82
  go_wp2_with fail
  go_loopw [3] (fun i wr => i = .int .i64 0 ∧ Ext w wr) (fun _ _ => 0)
  case atStart => exact ⟨rfl, Ext.refl _⟩
  case round =>
    obtain ⟨rfl, hE⟩ := hrel
    have hc := hE.cell h
    go_wp2_with fail
    go_ret
    exact ⟨rfl, hE⟩
theorem fillId_nil (w : World) (g : Nat) (h : w.cell? ⟨g, 2, none⟩ = some (.slice none 0 0)) : Calls Tryz.prog 57 #[.pointer (some ⟨g, 0, none⟩)] w (OkE w) := by
  go_enter Tryz.func57, Tryz.ntmps57
  go_wp2_with fail
  go_loopw [2] (fun i wr => i = .int .i64 0 ∧ Ext w wr) (fun _ _ => 0)
  case atStart => exact ⟨rfl, Ext.refl _⟩
  case round =>
    obtain ⟨rfl, hE⟩ := hrel
    have hc := hE.cell h
    go_wp2_with fail
    go_end0
    exact ⟨rfl, hE⟩
theorem growId_nil (w : World) (g : Nat) (h : w.cell? ⟨g, 2, none⟩ = some (.slice none 0 0)) : Calls Tryz.prog 70 #[.pointer (some ⟨g, 0, none⟩)] w (OkE w) := by
  go_enter Tryz.func70, Tryz.ntmps70
  go_wp2_with fail
  go_loopw [2] (fun i wr => i = .int .i64 0 ∧ Ext w wr) (fun _ _ => 0)
  case atStart => exact ⟨rfl, Ext.refl _⟩
  case round =>
    obtain ⟨rfl, hE⟩ := hrel
    have hc := hE.cell h
    go_wp2_with fail
    go_end0
    exact ⟨rfl, hE⟩
theorem lookId_nil (w : World) (g : Nat) (h : w.cell? ⟨g, 2, none⟩ = some (.slice none 0 0)) : Calls Tryz.prog 83 #[.pointer (some ⟨g, 0, none⟩)] w fun e w' => e = .returned (.bool true) ∧ Ext w w' := by
  go_enter Tryz.func83, Tryz.ntmps83
  go_wp2_with fail
  go_loopw [3] (fun i wr => i = .int .i64 0 ∧ Ext w wr) (fun _ _ => 0)
  case atStart => exact ⟨rfl, Ext.refl _⟩
  case round =>
    obtain ⟨rfl, hE⟩ := hrel
    have hc := hE.cell h
    go_wp2_with fail
    go_ret
    exact ⟨rfl, hE⟩
theorem fillNum_nil (w : World) (g : Nat) (h : w.cell? ⟨g, 3, none⟩ = some (.slice none 0 0)) : Calls Tryz.prog 58 #[.pointer (some ⟨g, 0, none⟩)] w (OkE w) := by
  go_enter Tryz.func58, Tryz.ntmps58
  go_wp2_with fail
  go_loopw [2] (fun i wr => i = .int .i64 0 ∧ Ext w wr) (fun _ _ => 0)
  case atStart => exact ⟨rfl, Ext.refl _⟩
  case round =>
    obtain ⟨rfl, hE⟩ := hrel
    have hc := hE.cell h
    go_wp2_with fail
    go_end0
    exact ⟨rfl, hE⟩
theorem growNum_nil (w : World) (g : Nat) (h : w.cell? ⟨g, 3, none⟩ = some (.slice none 0 0)) : Calls Tryz.prog 71 #[.pointer (some ⟨g, 0, none⟩)] w (OkE w) := by
  go_enter Tryz.func71, Tryz.ntmps71
  go_wp2_with fail
  go_loopw [2] (fun i wr => i = .int .i64 0 ∧ Ext w wr) (fun _ _ => 0)
  case atStart => exact ⟨rfl, Ext.refl _⟩
  case round =>
    obtain ⟨rfl, hE⟩ := hrel
    have hc := hE.cell h
    go_wp2_with fail
    go_end0
    exact ⟨rfl, hE⟩
theorem lookNum_nil (w : World) (g : Nat) (h : w.cell? ⟨g, 3, none⟩ = some (.slice none 0 0)) : Calls Tryz.prog 84 #[.pointer (some ⟨g, 0, none⟩)] w fun e w' => e = .returned (.bool true) ∧ Ext w w' := by
  go_enter Tryz.func84, Tryz.ntmps84
  go_wp2_with fail
  go_loopw [3] (fun i wr => i = .int .i64 0 ∧ Ext w wr) (fun _ _ => 0)
  case atStart => exact ⟨rfl, Ext.refl _⟩
  case round =>
    obtain ⟨rfl, hE⟩ := hrel
    have hc := hE.cell h
    go_wp2_with fail
    go_ret
    exact ⟨rfl, hE⟩
theorem fillInt_nil (w : World) (g : Nat) (h : w.cell? ⟨g, 4, none⟩ = some (.slice none 0 0)) : Calls Tryz.prog 59 #[.pointer (some ⟨g, 0, none⟩)] w (OkE w) := by
  go_enter Tryz.func59, Tryz.ntmps59
  go_wp2_with fail
  go_loopw [2] (fun i wr => i = .int .i64 0 ∧ Ext w wr) (fun _ _ => 0)
  case atStart => exact ⟨rfl, Ext.refl _⟩
  case round =>
    obtain ⟨rfl, hE⟩ := hrel
    have hc := hE.cell h
    go_wp2_with fail
    go_end0
    exact ⟨rfl, hE⟩
theorem growInt_nil (w : World) (g : Nat) (h : w.cell? ⟨g, 4, none⟩ = some (.slice none 0 0)) : Calls Tryz.prog 72 #[.pointer (some ⟨g, 0, none⟩)] w (OkE w) := by
  go_enter Tryz.func72, Tryz.ntmps72
  go_wp2_with fail
  go_loopw [2] (fun i wr => i = .int .i64 0 ∧ Ext w wr) (fun _ _ => 0)
  case atStart => exact ⟨rfl, Ext.refl _⟩
  case round =>
    obtain ⟨rfl, hE⟩ := hrel
    have hc := hE.cell h
    go_wp2_with fail
    go_end0
    exact ⟨rfl, hE⟩
theorem lookInt_nil (w : World) (g : Nat) (h : w.cell? ⟨g, 4, none⟩ = some (.slice none 0 0)) : Calls Tryz.prog 85 #[.pointer (some ⟨g, 0, none⟩)] w fun e w' => e = .returned (.bool true) ∧ Ext w w' := by
  go_enter Tryz.func85, Tryz.ntmps85
  go_wp2_with fail
  go_loopw [3] (fun i wr => i = .int .i64 0 ∧ Ext w wr) (fun _ _ => 0)
  case atStart => exact ⟨rfl, Ext.refl _⟩
  case round =>
    obtain ⟨rfl, hE⟩ := hrel
    have hc := hE.cell h
    go_wp2_with fail
    go_ret
    exact ⟨rfl, hE⟩
theorem fillText_nil (w : World) (g : Nat) (h : w.cell? ⟨g, 5, none⟩ = some (.slice none 0 0)) : Calls Tryz.prog 60 #[.pointer (some ⟨g, 0, none⟩)] w (OkE w) := by
  go_enter Tryz.func60, Tryz.ntmps60
  go_wp2_with fail
  go_loopw [2] (fun i wr => i = .int .i64 0 ∧ Ext w wr) (fun _ _ => 0)
  case atStart => exact ⟨rfl, Ext.refl _⟩
  case round =>
    obtain ⟨rfl, hE⟩ := hrel
    have hc := hE.cell h
    go_wp2_with fail
    go_end0
    exact ⟨rfl, hE⟩
theorem growText_nil (w : World) (g : Nat) (h : w.cell? ⟨g, 5, none⟩ = some (.slice none 0 0)) : Calls Tryz.prog 73 #[.pointer (some ⟨g, 0, none⟩)] w (OkE w) := by
  go_enter Tryz.func73, Tryz.ntmps73
  go_wp2_with fail
  go_loopw [2] (fun i wr => i = .int .i64 0 ∧ Ext w wr) (fun _ _ => 0)
  case atStart => exact ⟨rfl, Ext.refl _⟩
  case round =>
    obtain ⟨rfl, hE⟩ := hrel
    have hc := hE.cell h
    go_wp2_with fail
    go_end0
    exact ⟨rfl, hE⟩
theorem lookText_nil (w : World) (g : Nat) (h : w.cell? ⟨g, 5, none⟩ = some (.slice none 0 0)) : Calls Tryz.prog 86 #[.pointer (some ⟨g, 0, none⟩)] w fun e w' => e = .returned (.bool true) ∧ Ext w w' := by
  go_enter Tryz.func86, Tryz.ntmps86
  go_wp2_with fail
  go_loopw [3] (fun i wr => i = .int .i64 0 ∧ Ext w wr) (fun _ _ => 0)
  case atStart => exact ⟨rfl, Ext.refl _⟩
  case round =>
    obtain ⟨rfl, hE⟩ := hrel
    have hc := hE.cell h
    go_wp2_with fail
    go_ret
    exact ⟨rfl, hE⟩
theorem fillRow_nil (w : World) (g : Nat) (h : w.cell? ⟨g, 6, none⟩ = some (.slice none 0 0)) : Calls Tryz.prog 61 #[.pointer (some ⟨g, 0, none⟩)] w (OkE w) := by
  go_enter Tryz.func61, Tryz.ntmps61
  go_wp2_with fail
  go_loopw [2] (fun i wr => i = .int .i64 0 ∧ Ext w wr) (fun _ _ => 0)
  case atStart => exact ⟨rfl, Ext.refl _⟩
  case round =>
    obtain ⟨rfl, hE⟩ := hrel
    have hc := hE.cell h
    go_wp2_with fail
    go_end0
    exact ⟨rfl, hE⟩
theorem growRow_nil (w : World) (g : Nat) (h : w.cell? ⟨g, 6, none⟩ = some (.slice none 0 0)) : Calls Tryz.prog 74 #[.pointer (some ⟨g, 0, none⟩)] w (OkE w) := by
  go_enter Tryz.func74, Tryz.ntmps74
  go_wp2_with fail
  go_loopw [2] (fun i wr => i = .int .i64 0 ∧ Ext w wr) (fun _ _ => 0)
  case atStart => exact ⟨rfl, Ext.refl _⟩
  case round =>
    obtain ⟨rfl, hE⟩ := hrel
    have hc := hE.cell h
    go_wp2_with fail
    go_end0
    exact ⟨rfl, hE⟩
theorem lookRow_nil (w : World) (g : Nat) (h : w.cell? ⟨g, 6, none⟩ = some (.slice none 0 0)) : Calls Tryz.prog 87 #[.pointer (some ⟨g, 0, none⟩)] w fun e w' => e = .returned (.bool true) ∧ Ext w w' := by
  go_enter Tryz.func87, Tryz.ntmps87
  go_wp2_with fail
  go_loopw [3] (fun i wr => i = .int .i64 0 ∧ Ext w wr) (fun _ _ => 0)
  case atStart => exact ⟨rfl, Ext.refl _⟩
  case round =>
    obtain ⟨rfl, hE⟩ := hrel
    have hc := hE.cell h
    go_wp2_with fail
    go_ret
    exact ⟨rfl, hE⟩
theorem fillChange_nil (w : World) (g : Nat) (h : w.cell? ⟨g, 7, none⟩ = some (.slice none 0 0)) : Calls Tryz.prog 62 #[.pointer (some ⟨g, 0, none⟩)] w (OkE w) := by
  go_enter Tryz.func62, Tryz.ntmps62
  go_wp2_with fail
  go_loopw [2] (fun i wr => i = .int .i64 0 ∧ Ext w wr) (fun _ _ => 0)
  case atStart => exact ⟨rfl, Ext.refl _⟩
  case round =>
    obtain ⟨rfl, hE⟩ := hrel
    have hc := hE.cell h
    go_wp2_with fail
    go_end0
    exact ⟨rfl, hE⟩
theorem growChange_nil (w : World) (g : Nat) (h : w.cell? ⟨g, 7, none⟩ = some (.slice none 0 0)) : Calls Tryz.prog 75 #[.pointer (some ⟨g, 0, none⟩)] w (OkE w) := by
  go_enter Tryz.func75, Tryz.ntmps75
  go_wp2_with fail
  go_loopw [2] (fun i wr => i = .int .i64 0 ∧ Ext w wr) (fun _ _ => 0)
  case atStart => exact ⟨rfl, Ext.refl _⟩
  case round =>
    obtain ⟨rfl, hE⟩ := hrel
    have hc := hE.cell h
    go_wp2_with fail
    go_end0
    exact ⟨rfl, hE⟩
theorem lookChange_nil (w : World) (g : Nat) (h : w.cell? ⟨g, 7, none⟩ = some (.slice none 0 0)) : Calls Tryz.prog 88 #[.pointer (some ⟨g, 0, none⟩)] w fun e w' => e = .returned (.bool true) ∧ Ext w w' := by
  go_enter Tryz.func88, Tryz.ntmps88
  go_wp2_with fail
  go_loopw [3] (fun i wr => i = .int .i64 0 ∧ Ext w wr) (fun _ _ => 0)
  case atStart => exact ⟨rfl, Ext.refl _⟩
  case round =>
    obtain ⟨rfl, hE⟩ := hrel
    have hc := hE.cell h
    go_wp2_with fail
    go_ret
    exact ⟨rfl, hE⟩
theorem fillEntry_nil (w : World) (g : Nat) (h : w.cell? ⟨g, 8, none⟩ = some (.slice none 0 0)) : Calls Tryz.prog 63 #[.pointer (some ⟨g, 0, none⟩)] w (OkE w) := by
  go_enter Tryz.func63, Tryz.ntmps63
  go_wp2_with fail
  go_loopw [2] (fun i wr => i = .int .i64 0 ∧ Ext w wr) (fun _ _ => 0)
  case atStart => exact ⟨rfl, Ext.refl _⟩
  case round =>
    obtain ⟨rfl, hE⟩ := hrel
    have hc := hE.cell h
    go_wp2_with fail
    go_end0
    exact ⟨rfl, hE⟩
theorem growEntry_nil (w : World) (g : Nat) (h : w.cell? ⟨g, 8, none⟩ = some (.slice none 0 0)) : Calls Tryz.prog 76 #[.pointer (some ⟨g, 0, none⟩)] w (OkE w) := by
  go_enter Tryz.func76, Tryz.ntmps76
  go_wp2_with fail
  go_loopw [2] (fun i wr => i = .int .i64 0 ∧ Ext w wr) (fun _ _ => 0)
  case atStart => exact ⟨rfl, Ext.refl _⟩
  case round =>
    obtain ⟨rfl, hE⟩ := hrel
    have hc := hE.cell h
    go_wp2_with fail
    go_end0
    exact ⟨rfl, hE⟩
theorem lookEntry_nil (w : World) (g : Nat) (h : w.cell? ⟨g, 8, none⟩ = some (.slice none 0 0)) : Calls Tryz.prog 89 #[.pointer (some ⟨g, 0, none⟩)] w fun e w' => e = .returned (.bool true) ∧ Ext w w' := by
  go_enter Tryz.func89, Tryz.ntmps89
  go_wp2_with fail
  go_loopw [3] (fun i wr => i = .int .i64 0 ∧ Ext w wr) (fun _ _ => 0)
  case atStart => exact ⟨rfl, Ext.refl _⟩
  case round =>
    obtain ⟨rfl, hE⟩ := hrel
    have hc := hE.cell h
    go_wp2_with fail
    go_ret
    exact ⟨rfl, hE⟩
theorem fillFile_nil (w : World) (g : Nat) (h : w.cell? ⟨g, 9, none⟩ = some (.slice none 0 0)) : Calls Tryz.prog 64 #[.pointer (some ⟨g, 0, none⟩)] w (OkE w) := by
  go_enter Tryz.func64, Tryz.ntmps64
  go_wp2_with fail
  go_loopw [2] (fun i wr => i = .int .i64 0 ∧ Ext w wr) (fun _ _ => 0)
  case atStart => exact ⟨rfl, Ext.refl _⟩
  case round =>
    obtain ⟨rfl, hE⟩ := hrel
    have hc := hE.cell h
    go_wp2_with fail
    go_end0
    exact ⟨rfl, hE⟩
theorem growFile_nil (w : World) (g : Nat) (h : w.cell? ⟨g, 9, none⟩ = some (.slice none 0 0)) : Calls Tryz.prog 77 #[.pointer (some ⟨g, 0, none⟩)] w (OkE w) := by
  go_enter Tryz.func77, Tryz.ntmps77
  go_wp2_with fail
  go_loopw [2] (fun i wr => i = .int .i64 0 ∧ Ext w wr) (fun _ _ => 0)
  case atStart => exact ⟨rfl, Ext.refl _⟩
  case round =>
    obtain ⟨rfl, hE⟩ := hrel
    have hc := hE.cell h
    go_wp2_with fail
    go_end0
    exact ⟨rfl, hE⟩
theorem lookFile_nil (w : World) (g : Nat) (h : w.cell? ⟨g, 9, none⟩ = some (.slice none 0 0)) : Calls Tryz.prog 90 #[.pointer (some ⟨g, 0, none⟩)] w fun e w' => e = .returned (.bool true) ∧ Ext w w' := by
  go_enter Tryz.func90, Tryz.ntmps90
  go_wp2_with fail
  go_loopw [3] (fun i wr => i = .int .i64 0 ∧ Ext w wr) (fun _ _ => 0)
  case atStart => exact ⟨rfl, Ext.refl _⟩
  case round =>
    obtain ⟨rfl, hE⟩ := hrel
    have hc := hE.cell h
    go_wp2_with fail
    go_ret
    exact ⟨rfl, hE⟩
theorem fillItem_nil (w : World) (g : Nat) (h : w.cell? ⟨g, 10, none⟩ = some (.slice none 0 0)) : Calls Tryz.prog 65 #[.pointer (some ⟨g, 0, none⟩)] w (OkE w) := by
  go_enter Tryz.func65, Tryz.ntmps65
  go_wp2_with fail
  go_loopw [2] (fun i wr => i = .int .i64 0 ∧ Ext w wr) (fun _ _ => 0)
  case atStart => exact ⟨rfl, Ext.refl _⟩
  case round =>
    obtain ⟨rfl, hE⟩ := hrel
    have hc := hE.cell h
    go_wp2_with fail
    go_end0
    exact ⟨rfl, hE⟩
theorem growItem_nil (w : World) (g : Nat) (h : w.cell? ⟨g, 10, none⟩ = some (.slice none 0 0)) : Calls Tryz.prog 78 #[.pointer (some ⟨g, 0, none⟩)] w (OkE w) := by
  go_enter Tryz.func78, Tryz.ntmps78
  go_wp2_with fail
  go_loopw [2] (fun i wr => i = .int .i64 0 ∧ Ext w wr) (fun _ _ => 0)
  case atStart => exact ⟨rfl, Ext.refl _⟩
  case round =>
    obtain ⟨rfl, hE⟩ := hrel
    have hc := hE.cell h
    go_wp2_with fail
    go_end0
    exact ⟨rfl, hE⟩
theorem lookItem_nil (w : World) (g : Nat) (h : w.cell? ⟨g, 10, none⟩ = some (.slice none 0 0)) : Calls Tryz.prog 91 #[.pointer (some ⟨g, 0, none⟩)] w fun e w' => e = .returned (.bool true) ∧ Ext w w' := by
  go_enter Tryz.func91, Tryz.ntmps91
  go_wp2_with fail
  go_loopw [3] (fun i wr => i = .int .i64 0 ∧ Ext w wr) (fun _ _ => 0)
  case atStart => exact ⟨rfl, Ext.refl _⟩
  case round =>
    obtain ⟨rfl, hE⟩ := hrel
    have hc := hE.cell h
    go_wp2_with fail
    go_ret
    exact ⟨rfl, hE⟩
theorem fillSaid_nil (w : World) (g : Nat) (h : w.cell? ⟨g, 11, none⟩ = some (.slice none 0 0)) : Calls Tryz.prog 66 #[.pointer (some ⟨g, 0, none⟩)] w (OkE w) := by
  go_enter Tryz.func66, Tryz.ntmps66
  go_wp2_with fail
  go_loopw [2] (fun i wr => i = .int .i64 0 ∧ Ext w wr) (fun _ _ => 0)
  case atStart => exact ⟨rfl, Ext.refl _⟩
  case round =>
    obtain ⟨rfl, hE⟩ := hrel
    have hc := hE.cell h
    go_wp2_with fail
    go_end0
    exact ⟨rfl, hE⟩
theorem growSaid_nil (w : World) (g : Nat) (h : w.cell? ⟨g, 11, none⟩ = some (.slice none 0 0)) : Calls Tryz.prog 79 #[.pointer (some ⟨g, 0, none⟩)] w (OkE w) := by
  go_enter Tryz.func79, Tryz.ntmps79
  go_wp2_with fail
  go_loopw [2] (fun i wr => i = .int .i64 0 ∧ Ext w wr) (fun _ _ => 0)
  case atStart => exact ⟨rfl, Ext.refl _⟩
  case round =>
    obtain ⟨rfl, hE⟩ := hrel
    have hc := hE.cell h
    go_wp2_with fail
    go_end0
    exact ⟨rfl, hE⟩
theorem lookSaid_nil (w : World) (g : Nat) (h : w.cell? ⟨g, 11, none⟩ = some (.slice none 0 0)) : Calls Tryz.prog 92 #[.pointer (some ⟨g, 0, none⟩)] w fun e w' => e = .returned (.bool true) ∧ Ext w w' := by
  go_enter Tryz.func92, Tryz.ntmps92
  go_wp2_with fail
  go_loopw [3] (fun i wr => i = .int .i64 0 ∧ Ext w wr) (fun _ _ => 0)
  case atStart => exact ⟨rfl, Ext.refl _⟩
  case round =>
    obtain ⟨rfl, hE⟩ := hrel
    have hc := hE.cell h
    go_wp2_with fail
    go_ret
    exact ⟨rfl, hE⟩
theorem fillMsg_nil (w : World) (g : Nat) (h : w.cell? ⟨g, 12, none⟩ = some (.slice none 0 0)) : Calls Tryz.prog 67 #[.pointer (some ⟨g, 0, none⟩)] w (OkE w) := by
  go_enter Tryz.func67, Tryz.ntmps67
  go_wp2_with fail
  go_loopw [2] (fun i wr => i = .int .i64 0 ∧ Ext w wr) (fun _ _ => 0)
  case atStart => exact ⟨rfl, Ext.refl _⟩
  case round =>
    obtain ⟨rfl, hE⟩ := hrel
    have hc := hE.cell h
    go_wp2_with fail
    go_end0
    exact ⟨rfl, hE⟩
theorem growMsg_nil (w : World) (g : Nat) (h : w.cell? ⟨g, 12, none⟩ = some (.slice none 0 0)) : Calls Tryz.prog 80 #[.pointer (some ⟨g, 0, none⟩)] w (OkE w) := by
  go_enter Tryz.func80, Tryz.ntmps80
  go_wp2_with fail
  go_loopw [2] (fun i wr => i = .int .i64 0 ∧ Ext w wr) (fun _ _ => 0)
  case atStart => exact ⟨rfl, Ext.refl _⟩
  case round =>
    obtain ⟨rfl, hE⟩ := hrel
    have hc := hE.cell h
    go_wp2_with fail
    go_end0
    exact ⟨rfl, hE⟩
theorem lookMsg_nil (w : World) (g : Nat) (h : w.cell? ⟨g, 12, none⟩ = some (.slice none 0 0)) : Calls Tryz.prog 93 #[.pointer (some ⟨g, 0, none⟩)] w fun e w' => e = .returned (.bool true) ∧ Ext w w' := by
  go_enter Tryz.func93, Tryz.ntmps93
  go_wp2_with fail
  go_loopw [3] (fun i wr => i = .int .i64 0 ∧ Ext w wr) (fun _ _ => 0)
  case atStart => exact ⟨rfl, Ext.refl _⟩
  case round =>
    obtain ⟨rfl, hE⟩ := hrel
    have hc := hE.cell h
    go_wp2_with fail
    go_ret
    exact ⟨rfl, hE⟩
theorem fillEvent_nil (w : World) (g : Nat) (h : w.cell? ⟨g, 13, none⟩ = some (.slice none 0 0)) : Calls Tryz.prog 68 #[.pointer (some ⟨g, 0, none⟩)] w (OkE w) := by
  go_enter Tryz.func68, Tryz.ntmps68
  go_wp2_with fail
  go_loopw [2] (fun i wr => i = .int .i64 0 ∧ Ext w wr) (fun _ _ => 0)
  case atStart => exact ⟨rfl, Ext.refl _⟩
  case round =>
    obtain ⟨rfl, hE⟩ := hrel
    have hc := hE.cell h
    go_wp2_with fail
    go_end0
    exact ⟨rfl, hE⟩
theorem growEvent_nil (w : World) (g : Nat) (h : w.cell? ⟨g, 13, none⟩ = some (.slice none 0 0)) : Calls Tryz.prog 81 #[.pointer (some ⟨g, 0, none⟩)] w (OkE w) := by
  go_enter Tryz.func81, Tryz.ntmps81
  go_wp2_with fail
  go_loopw [2] (fun i wr => i = .int .i64 0 ∧ Ext w wr) (fun _ _ => 0)
  case atStart => exact ⟨rfl, Ext.refl _⟩
  case round =>
    obtain ⟨rfl, hE⟩ := hrel
    have hc := hE.cell h
    go_wp2_with fail
    go_end0
    exact ⟨rfl, hE⟩
theorem lookEvent_nil (w : World) (g : Nat) (h : w.cell? ⟨g, 13, none⟩ = some (.slice none 0 0)) : Calls Tryz.prog 94 #[.pointer (some ⟨g, 0, none⟩)] w fun e w' => e = .returned (.bool true) ∧ Ext w w' := by
  go_enter Tryz.func94, Tryz.ntmps94
  go_wp2_with fail
  go_loopw [3] (fun i wr => i = .int .i64 0 ∧ Ext w wr) (fun _ _ => 0)
  case atStart => exact ⟨rfl, Ext.refl _⟩
  case round =>
    obtain ⟨rfl, hE⟩ := hrel
    have hc := hE.cell h
    go_wp2_with fail
    go_ret
    exact ⟨rfl, hE⟩
end Go.Proofs.YtmopjmhapeinjaaGreatDoor

/- The kinds of lists of a book that come up here. No condition. -/
namespace Go.Proofs.YtmopjmhapeinjaaGreatDoor
open Go.RowKit
def bkT : BkT := { ht := fun j => match j with | 1 => 143 | 3 => 150 | 6 => 161 | 7 => 164 | 10 => 181 | 11 => 184 | 12 => 131 | _ => 0, et := fun j => match j with | 1 => 5 | 3 => 54 | 6 => 134 | 7 => 93 | 10 => 100 | 11 => 136 | 12 => 63 | _ => 0, z := fun j => match j with | 1 => 1 | 3 => 1 | 6 => 2 | 7 => 3 | 10 => 11 | 11 => 5 | 12 => 16 | _ => 0, mark := fun j n => match j with | 1 => mkByte n | 3 => mkNum n | 6 => mkRowL n | 7 => mkChangeL n | 10 => mkItemL n | 11 => mkSaidL n | 12 => mkMsgL n | _ => [] }
end Go.Proofs.YtmopjmhapeinjaaGreatDoor
