/- pasts.Ahead's closure: is it the ask of that name? No condition. -/
import Derived.Test.YtgbiifefpidebaaEvSz3
import Derived.BigQuiet
namespace Go.Proofs.Ytgbiifefpidebaa
open Go.RowKit
set_option maxRecDepth 100000
set_option maxHeartbeats 1000000
/-- Is it the ask of that name? -/
def Ev.asks (y x : Ev) : Bool := (x.kind == 1) && ((x.cl == y.cl) && (x.num == y.num))
theorem ext_draws {a w : World} (h : Ext a w) (n : Nat) : Ext a (w.drewN n) := h.trans ⟨rfl, rfl, rfl, Nat.le_refl _, fun _ _ => rfl⟩
theorem wpQuiet_eql_nm {ops : Array Oper} {C : World → Prop} {Q : Act → Prop} {o : Oper} {rest : List Oper} {a : Act} (hg : Region.wanted o (yielded ops a.tmps) = true) (p q : Operand) (ho : o.op = .binOp .eql 51 p q 51) (c1 n1 c2 n2 : Int) (hx : a.eval p = .agg #[.int .u8 c1, .int .u32 n1]) (hy : a.eval q = .agg #[.int .u8 c2, .int .u32 n2])
    (k : wpQuiet Try.prog ops C Q rest (a.put o.dst (.bool ((c1 == c2) && (n1 == n2))))) : wpQuiet Try.prog ops C Q (o :: rest) a := by
  refine wpQuiet_value _ hg (fun w _ => ?_) k
  unfold execOp
  simp only [ho, hx, hy]
  go_simp
  by_cases h1 : c1 = c2 <;> by_cases h4 : n1 = n2 <;> simp [h1, h4]
theorem ahead1_any (w : World) (x y : Ev) (g1 g2 b off k n cap : Nat) (hb1 : w.cell? ⟨g1, 0, none⟩ = some (.slice (some ⟨b, off, none⟩) n cap)) (hb2 : w.cell? ⟨g2, 0, none⟩ = some (.int .i64 (k : Int))) (hy : w.rangeAt b (off + k * 17) y.cells) (hk : k < n) : Calls Try.prog 18 #[.agg x.row, .pointer (some ⟨g1, 0, none⟩), .pointer (some ⟨g2, 0, none⟩)] w fun e w' => e = .returned (.bool (y.asks x)) ∧ Ext w w' := by
  obtain ⟨W, hW⟩ : ∃ W, W = w.alloc (.cells x.row 40) := ⟨_, rfl⟩
  have hE : Ext w W := by rw [hW]; exact (Ext.refl _).alloc _
  have hX : W.heap[w.heap.size]? = some (.cells x.row 40 (0, 0)) := by rw [hW]; exact heap_alloc_new w _
  obtain ⟨c0, c1, c2, c3, _⟩ := ev_cells hX
  have b1 := hE.cell hb1
  have b2 := hE.cell hb2
  have y2 := hE.cell (hy 2 _ rfl)
  have y3 := hE.cell (hy 3 _ rfl)
  have hki : (k : Int) < (n : Int) := by omega
  have hk0 : 0 ≤ (k : Int) := by omega
  have hkn : ((k : Int)).toNat = k := by omega
  have hW' := Lib.hid hW
  have hM : Hid (y.asks x = ((x.kind == 1) && ((x.cl == y.cl) && (x.num == y.num)))) := Lib.hid rfl
  generalize y.asks x = M at *
  clear hW hX hb1 hb2 hy c1
  unfold Ev.row at hW'
  unfold Ev.row
  go_enter Try.func18, Try.ntmps18
  go_upto_region 1 with fail
  rw [← hW'.out]
  clear hW'
  cases hq : (x.kind == 1)
  case true =>
    refine wp_region_class (Ext W) (by kernel_rfl) (by kernel_rfl) (Ext.refl _).drew ?_
    iterate 1 (refine wpQuiet_step (fun K hK => ?_); go_simp; first | (refine hK _ ?_; clear hK K) | (refine ⟨_, fun _ _ => rfl, hK _ ?_⟩; clear hK K))
    refine wpQuiet_load_cell (by rfl) 5 _ (by rfl) w.heap.size 0 (by rfl) _ (fun w' hw => hw.cell c0) _ Try.underlying5 rfl ?_
    iterate 3 (refine wpQuiet_step (fun K hK => ?_); go_simp; first | (refine hK _ ?_; clear hK K) | (refine ⟨_, fun _ _ => rfl, hK _ ?_⟩; clear hK K))
    refine wpQuiet_load_cell (by rfl) 5 _ (by rfl) w.heap.size 2 (by rfl) _ (fun w' hw => hw.cell c2) _ Try.underlying5 rfl ?_
    iterate 1 (refine wpQuiet_step (fun K hK => ?_); go_simp; first | (refine hK _ ?_; clear hK K) | (refine ⟨_, fun _ _ => rfl, hK _ ?_⟩; clear hK K))
    refine wpQuiet_load_cell (by rfl) 28 _ (by rfl) w.heap.size 3 (by rfl) _ (fun w' hw => hw.cell c3) _ Try.underlying28 rfl ?_
    iterate 1 (refine wpQuiet_step (fun K hK => ?_); go_simp; first | (refine hK _ ?_; clear hK K) | (refine ⟨_, fun _ _ => rfl, hK _ ?_⟩; clear hK K))
    refine wpQuiet_load_cell (by rfl) 22 _ (by rfl) g1 0 (by rfl) _ (fun w' hw => hw.cell b1) _ Try.underlying22 rfl ?_
    refine wpQuiet_load_cell (by rfl) 3 _ (by rfl) g2 0 (by rfl) _ (fun w' hw => hw.cell b2) _ Try.underlying3 rfl ?_
    iterate 2 (refine wpQuiet_step (fun K hK => ?_); go_simp; first | (refine hK _ ?_; clear hK K) | (refine ⟨_, fun _ _ => rfl, hK _ ?_⟩; clear hK K))
    refine wpQuiet_load_cell (by rfl) 5 _ (by rfl) b (off + k * 17 + 2) (by rfl) _ (fun w' hw => hw.cell y2) _ Try.underlying5 rfl ?_
    refine wpQuiet_load_cell (by rfl) 22 _ (by rfl) g1 0 (by rfl) _ (fun w' hw => hw.cell b1) _ Try.underlying22 rfl ?_
    refine wpQuiet_load_cell (by rfl) 3 _ (by rfl) g2 0 (by rfl) _ (fun w' hw => hw.cell b2) _ Try.underlying3 rfl ?_
    iterate 2 (refine wpQuiet_step (fun K hK => ?_); go_simp; first | (refine hK _ ?_; clear hK K) | (refine ⟨_, fun _ _ => rfl, hK _ ?_⟩; clear hK K))
    refine wpQuiet_load_cell (by rfl) 28 _ (by rfl) b (off + k * 17 + 3) (by rfl) _ (fun w' hw => hw.cell y3) _ Try.underlying28 rfl ?_
    iterate 1 (refine wpQuiet_step (fun K hK => ?_); go_simp; first | (refine hK _ ?_; clear hK K) | (refine ⟨_, fun _ _ => rfl, hK _ ?_⟩; clear hK K))
    refine wpQuiet_eql_nm (by rfl) (.tmp 13) (.tmp 24) (by rfl) x.cl x.num y.cl y.num (by rfl) (by rfl) ?_
    iterate 2 (refine wpQuiet_step (fun K hK => ?_); go_simp; first | (refine hK _ ?_; clear hK K) | (refine ⟨_, fun _ _ => rfl, hK _ ?_⟩; clear hK K))
    refine wpQuiet_nil (fun w5 hE5 => ?_)
    go_wp2_with fail
    go_ret
    exact ⟨by rw [hM.out, hq]; rfl, hE.trans hE5⟩
  case false =>
    clear b1 b2 y2 y3 c2 c3 hki hk0 hkn
    go_quiet (fail)
    go_wp2_with fail
    go_ret
    exact ⟨by rw [hM.out, hq]; rfl, ext_draws hE _⟩
end Go.Proofs.Ytgbiifefpidebaa
