/- A table that is not there: its methods, and the law TablesNone. No condition. -/
import Derived.Test.YthhmehkclgmppaaTab9
import Derived.Test.YthhmehkclgmppaaRead2
import Derived.StillTailTactics
namespace Go.Proofs.Ythhmehkclgmppaa
open Go.RowKit
/-- No table: nil, or one that no call made. -/
def NoTab (w : World) (v : Value) : Prop := v = .pointer none ∨ ∃ tb, v = .pointer (some ⟨tb, 0, none⟩) ∧ w.heap[tb]? = some (.cells #[.pointer none, .int .i64 0, .int .i64 0] 30 (0, 0))
theorem NoTab.ext {w w' : World} {v : Value} (h : NoTab w v) (he : Ext w w') : NoTab w' v := by
  rcases h with h | ⟨tb, h1, h2⟩
  · exact .inl h
  · exact .inr ⟨tb, h1, he.row h2⟩
theorem nothere_any {w : World} {v : Value} (h : NoTab w v) : Calls Try.prog 24 #[v] w fun e w' => e = .returned (.bool false) ∧ w = w' := by
  rcases h with rfl | ⟨tb, rfl, h2⟩
  · exact there_nil w
  · exact there_empty w tb (by rw [cell_of_row _ _ 0 _ 30 (0, 0) h2]; rfl)
theorem nolen_any {w : World} {v : Value} (h : NoTab w v) : Calls Try.prog 14 #[v] w fun e w' => e = .returned (.int .i64 0) ∧ w = w' := by
  rcases h with rfl | ⟨tb, rfl, h2⟩
  · go_enter Try.func14, Try.ntmps14
    go_wp2
    go_ret
    exact ⟨rfl, rfl⟩
  · have c1 := cell_of_row _ _ 1 _ 30 (0, 0) h2
    simp only [List.getElem?_toArray, List.getElem?_cons_zero, List.getElem?_cons_succ] at c1
    clear h2
    go_enter Try.func14, Try.ntmps14
    go_wp2
    go_ret
    exact ⟨rfl, rfl⟩
theorem nobytes_any {w : World} {v : Value} (h : NoTab w v) : Calls Try.prog 13 #[v] w fun e w' => e = .returned (.int .i64 0) ∧ w = w' := by
  rcases h with rfl | ⟨tb, rfl, h2⟩
  · go_enter Try.func13, Try.ntmps13
    go_wp2
    go_ret
    exact ⟨rfl, rfl⟩
  · have c1 := cell_of_row _ _ 2 _ 30 (0, 0) h2
    simp only [List.getElem?_toArray, List.getElem?_cons_zero, List.getElem?_cons_succ] at c1
    clear h2
    go_enter Try.func13, Try.ntmps13
    go_wp2
    go_ret
    exact ⟨rfl, rfl⟩
theorem nofromp_any {w : World} {v : Value} (h : NoTab w v) (m : Mk) : Calls Try.prog 23 #[v, .agg #[.string m.key, .int .u64 (m.seq : Int), .bool m.gone]] w fun e w' => e = .returned (.pointer none) ∧ Ext w w' := by
  have h' : ∀ o, NoTab (w.alloc o) v := fun o => h.ext ((Ext.refl _).alloc _)
  go_enter Try.func23, Try.ntmps23
  go_wp2_with fail
  refine (nothere_any (h' _)).mono ?_
  rintro e w' ⟨rfl, rfl⟩
  go_wp2
  go_ret
  exact ⟨rfl, (Ext.refl _).alloc _⟩
theorem noput_any {w : World} {v : Value} (h : NoTab w v) (x : En) (tall : Int) : Calls Try.prog 11 #[v, .agg (enRow x), .int .i64 tall] w fun e w' => e = .returned (.int .i64 2) ∧ Ext w w' := by
  have h' : ∀ o, NoTab (w.alloc o) v := fun o => h.ext ((Ext.refl _).alloc _)
  unfold enRow
  go_enter Try.func11, Try.ntmps11
  go_wp2_with fail
  refine (nothere_any (h' _)).mono ?_
  rintro e w' ⟨rfl, rfl⟩
  go_wp2
  go_ret
  exact ⟨rfl, (Ext.refl _).alloc _⟩
theorem nofrom_any {w : World} {v : Value} (h : NoTab w v) (m : Mk) (most : Int) : Calls Try.prog 12 #[v, .agg #[.string m.key, .int .u64 (m.seq : Int), .bool m.gone], .int .i64 most] w fun e w' => e = .returned (.slice none 0 0) ∧ Ext w w' := by
  obtain ⟨W, hW⟩ : ∃ W, W = w.alloc (.cells #[.string m.key, .int .u64 (m.seq : Int), .bool m.gone] 24) := ⟨_, rfl⟩
  have hE : Ext w W := by rw [hW]; exact (Ext.refl _).alloc _
  have hM : MkAt W w.heap.size m := by rw [hW]; exact heap_alloc_new w _
  have hrg' := hM.range
  rw [hW] at hrg'
  have hW' := Lib.hid hW
  clear hW
  go_enter Try.func12, Try.ntmps12
  go_wp2_with (first | (refine wpList_load_mid (by rfl) 24 (.tmp 4) (by rfl) w.heap.size 0 (by rfl) (mkRow m) _ hrg' Try.underlying24 rfl (by exact info_mark) ?_) | fail)
  rw [← hW'.out]
  clear hW' hrg'
  refine (nofromp_any (h.ext hE) m).mono ?_
  rintro e w1 ⟨rfl, hE1⟩
  go_wp2_with fail
  go_loopw [6, 7] (fun out n wr => out = .slice none 0 0 ∧ n = .pointer none ∧ w1 = wr) (fun _ _ _ => 0)
  case atStart => exact ⟨rfl, rfl, rfl⟩
  case round =>
    obtain ⟨rfl, rfl, rfl⟩ := hrel
    go_wp2_with fail
    go_ret
    exact ⟨rfl, hE.trans hE1⟩
theorem noget_any {w : World} {v : Value} (h : NoTab w v) (key : ByteArray) (seq : Nat) : Calls Try.prog 10 #[v, .string key, .int .u64 (seq : Int)] w (Got none w) := by
  obtain ⟨W, hW⟩ : ∃ W, W = w.alloc (.cells #[.string ⟨#[]⟩, .int .u64 0, .bool false, .string ⟨#[]⟩] 26) := ⟨_, rfl⟩
  have hE : Ext w W := by rw [hW]; exact (Ext.refl _).alloc _
  have hR : W.heap[w.heap.size]? = some (.cells (enRow zEn) 26 (0, 0)) := by rw [hW]; exact heap_alloc_new w _
  have hW' := Lib.hid hW
  clear hW
  go_enter Try.func10, Try.ntmps10
  go_wp2_with fail
  rw [← hW'.out]
  clear hW'
  refine (nofromp_any (h.ext hE) ⟨key, seq, true⟩).mono ?_
  rintro e w1 ⟨rfl, hE1⟩
  have hR1 := hE1.row hR
  have hE2 := hE.trans hE1
  clear hR
  go_wp2_with (first | (refine wpList_store_row (by rfl) 26 (.tmp 6) (.tmp 26) (by rfl) w.heap.size (enRow zEn) (by rfl) (by rfl) 26 (enRow zEn) hR1 (by exact info_entry) (by rfl) (by exact en_one zEn) ?_) | fail)
  have hset : (w1.setRow w.heap.size (enRow zEn)).heap[w.heap.size]? = some (.cells (enRow zEn) 26 (0, 0)) := by rw [setRow_heap _ _ _ _ _ _ hR1]
  have hEf : Ext w (w1.setRow w.heap.size (enRow zEn)) := hE2.setRow (Nat.le_refl _) _
  generalize w1.setRow w.heap.size (enRow zEn) = Wf at *
  obtain ⟨b0, b1, b2, b3⟩ := en_cells hset
  exact bodyPost_ret (v := .tuple #[.agg (enRow zEn), .bool false]) (by simp [results, Try.results10, go_sem, b0, b1, b2, b3, enRow]) rfl ⟨rfl, hEf⟩
end Go.Proofs.Ythhmehkclgmppaa
