/- slices.Clone, slices.Clip of changes, slices.Clip of items. No condition. -/
import Derived.Test.YtgbiifefpidebaaLgI
import Derived.Lib.SliceRun
namespace Go.Proofs.Ytgbiifefpidebaa
open Go.RowKit
set_option maxRecDepth 100000
theorem ch_eql_nil (w : World) (a : Option Addr) (n c n' c' : Nat) : (binOp .eql 30 (.slice a n c) (.slice none n' c')).run Try.prog w = .ok (.bool a.isNone) w := Lib.run_eql_slice_nil w _ _ a n c n' c' Try.underlying30
theorem made_row (w : World) (e : TypeId) (size : Nat) : (w.alloc (.cells #[] e)).ownsRow w.heap.size e size (.slice (some ⟨w.heap.size, 0, none⟩) 0 0) 0 [] := World.ownsRow_made w #[] 0 (Nat.le_refl _) (Nat.zero_le _) (by simp)
/-- What Clone of n changes tells: a slice of the call's own. -/
def Cloned (w : World) (n : Nat) (xs : List Value) (e : Ending) (w' : World) : Prop := ∃ a cap, e = .returned (.slice a n cap) ∧ n ≤ cap ∧ OwnC w' w.heap.size 57 3 (.slice a n cap) n xs ∧ Ext w w'
/-- slices.Clone of changes, its block the call's own. -/
theorem clone_ch (w : World) (l : List Ch) (a : Option Addr) (cap : Nat) (h : ChsAt w l a cap) :
    Calls Try.prog 20 #[.slice a l.length cap] w (Cloned w l.length (l.flatMap Ch.cells)) := by
  obtain ⟨hr, hn, _⟩ := h
  have h1 := ch_one l
  generalize l.flatMap Ch.cells = xs at *
  generalize l.length = n at *
  have q30 := ch_eql_nil
  cases a with
  | none =>
    obtain ⟨hl, _, ⟨rfl, a', cap', he, hc⟩ | ⟨b, off, cap', he, _⟩⟩ := hr
    · injection he with e1 _ e3
      subst e1 e3
      obtain rfl := hc rfl
      obtain rfl : xs = [] := List.eq_nil_of_length_eq_zero (by simpa using hl)
      go_enter Try.func20, Try.ntmps20
      go_wp2
      go_ret
      exact ⟨none, 0, rfl, Nat.le_refl _, OwnC.nil _ _ _ _, Ext.refl _⟩
    · injection he with e1; cases e1
  | some ad =>
    have hl := hr.2.1
    go_enter Try.func20, Try.ntmps20
    go_wp2_with (at_builtin; refine wpList_append_row rfl (.tmp 5) (.tmp 6) 30 57 rfl Try.underlying30 el_ch (w.alloc (.cells #[] 57)) w.heap.size 0 [] _ (by rfl) (made_row w 57 3) (.slice (some ad) n cap) n xs rfl (hr.ext ((Ext.refl w).alloc _)) h1 (by omega) (by omega) (by simp) ?_; intro v' w' hown hb)
    go_ret
    rw [Nat.zero_add, List.nil_append] at hown
    obtain ⟨a', cap', rfl, hc, _⟩ := (OwnC.of_own hown).form
    exact ⟨a', cap', rfl, hc, OwnC.of_own hown, Below.trans ((Ext.refl w).alloc _) hb⟩
theorem clip_ch (w : World) (a : Option Addr) (n cap : Nat) (hc : n ≤ cap) : Calls Try.prog 19 #[.slice a n cap] w fun e w' => e = .returned (.slice a n n) ∧ w = w' := by
  go_enter Try.func19, Try.ntmps19
  go_wp2
  go_ret
  exact ⟨rfl, rfl⟩
theorem clip_items (w : World) (a : Option Addr) (n cap : Nat) (hc : n ≤ cap) : Calls Try.prog 21 #[.slice a n cap] w fun e w' => e = .returned (.slice a n n) ∧ w = w' := by
  go_enter Try.func21, Try.ntmps21
  go_wp2
  go_ret
  exact ⟨rfl, rfl⟩
theorem el_item : ElemIs Try.prog 42 11 (Try.prog.bytesOf 42) := by
  refine ElemIs.mk (z := .agg #[.int .u64 0, .int .u8 0, .int .u32 0, .int .u8 0, .string ⟨#[]⟩, .string ⟨#[]⟩, .string ⟨#[]⟩, .bool false, .string ⟨#[]⟩, .int .i64 0, .slice none 0 0]) (by kernel_rfl) (by rfl) (by decide)
theorem item_bytes : Try.prog.bytesOf 42 ≤ 200 := by
  have : Nat.ble (Try.prog.bytesOf 42) 200 = true := by kernel_rfl
  exact Nat.le_of_ble_eq_true this
theorem run_build_item (x : Ev) (w : World) : (Instr.build 42 #[(0, .int .u64 x.idx), (1, .int .u8 x.cl), (2, .int .u32 x.num), (3, .agg (x.ask.row (.slice x.ad x.ask.chs.length x.cap)))]).run Try.prog w = .ok (.agg x.item) w := by kernel_rfl
theorem item_inf : (Try.prog.info? 42).map (·.size) = some 11 := by kernel_rfl
def zItem : Array Value := #[.int .u64 0, .int .u8 0, .int .u32 0, .int .u8 0, .string ⟨#[]⟩, .string ⟨#[]⟩, .string ⟨#[]⟩, .bool false, .string ⟨#[]⟩, .int .i64 0, .slice none 0 0]
theorem item_all (x : Ev) : x.item.all (·.oneCell') = true := by kernel_rfl
theorem itc_range {w : World} {l : List Ev} {b off : Nat} (hd : ∀ i, i < l.length * 11 → w.cell? ⟨b, off + i, none⟩ = (l.flatMap Ev.itc)[i]?) {k : Nat} {c : Ev} (h : l[k]? = some c) : w.rangeAt b (off + k * 11) c.itc := fun r v hv => by
  have hr : r < 11 := (List.getElem?_eq_some_iff.1 hv).1
  have hk : k < l.length := (List.getElem?_eq_some_iff.1 h).1
  rw [Nat.add_assoc, hd (k * 11 + r) (by omega), flatMap_at Ev.itc 11 (by decide) (fun _ => rfl) l k c h r hr _ rfl]; exact hv
theorem item_cells {w : World} {g : Nat} {x : Ev} (h : w.heap[g]? = some (.cells x.item 42 (0, 0))) : w.rangeAt g 0 x.itc := fun r v hv => by
  rw [Nat.zero_add, cell_of_row _ _ _ _ 42 (0, 0) h, ← hv]
  exact (Array.getElem?_toList ..).symm
theorem run_bs_item (x : Ev) (w : World) : (Instr.buildSlice 26 1 #[(0, .agg x.item)]).run Try.prog w = .ok (.slice (some ⟨w.heap.size, 0, none⟩) 1 1) (w.alloc (.cells x.item 42)) := by kernel_rfl
theorem wpList_bs_item {ops : Array Oper} {rest : List Oper} {o : Oper} {a : Act} {Q : Exit → Act → World → Prop} {w : World} (hgd : o.guard = none) (p : Operand) (ho : o.op = .buildSlice 26 1 #[(0, p)]) (r : Ev) (hp : a.eval p = .agg r.item)
    (h : wpList Try.prog ops Q rest (a.put o.dst (.slice (some ⟨w.heap.size, 0, none⟩) 1 1)) (w.alloc (.cells r.item 42))) : wpList Try.prog ops Q (o :: rest) a w := by
  refine wpList_plain hgd fun K hK => ?_
  unfold Oper.wp execOp
  simp only [ho, hp, List.map_toArray, List.map_cons, List.map_nil, Sem.run_bind, Result.andThen_ok, run_bs_item, Sem.run_pure]
  exact hK _ _ h
end Go.Proofs.Ytgbiifefpidebaa
