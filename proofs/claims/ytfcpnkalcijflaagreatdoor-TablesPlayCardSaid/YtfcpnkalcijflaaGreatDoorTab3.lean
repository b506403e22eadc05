/- A table's ahead: at each height the last tower ahead of a mark. No condition. -/
import Derived.Test.YtfcpnkalcijflaaGreatDoorTab2
import Derived.Deep.Cut
namespace Go.Proofs.YtfcpnkalcijflaaGreatDoor
open Go.RowKit
def arrRow (f : Nat → Option Addr) : Array Value := #[.pointer (f 0), .pointer (f 1), .pointer (f 2), .pointer (f 3), .pointer (f 4), .pointer (f 5), .pointer (f 6), .pointer (f 7)]
def ArrAt (w : World) (b : Nat) (f : Nat → Option Addr) : Prop := w.heap[b]? = some (.cells (arrRow f) 62 (0, 0))
theorem ArrAt.cells {w : World} {b : Nat} {f : Nat → Option Addr} (h : ArrAt w b f) : (∀ k, k < 8 → w.cell? ⟨b, k, none⟩ = some (.pointer (f k))) ∧ ∀ o, w.frozen? ⟨b, o, none⟩ = false := by
  refine ⟨fun k hk => ?_, fun o => ?_⟩
  · rw [cell_of_row _ _ k _ 62 (0, 0) h]
    obtain rfl | rfl | rfl | rfl | rfl | rfl | rfl | rfl : k = 0 ∨ k = 1 ∨ k = 2 ∨ k = 3 ∨ k = 4 ∨ k = 5 ∨ k = 6 ∨ k = 7 := by omega
    all_goals rfl
  · unfold World.frozen?; rw [h]; simp
theorem ArrAt.put {w : World} {b : Nat} {f : Nat → Option Addr} (h : ArrAt w b f) (k : Nat) (hk : k < 8) (p : Option Addr) : ArrAt (w.setCell ⟨b, k, none⟩ (.pointer p)) b (fun i => if i = k then p else f i) := by
  unfold ArrAt at h ⊢
  rw [setCell_eq_setRow _ _ _ _ _ _ _ h, setRow_heap _ _ _ _ _ _ h]
  exact congrArg (fun c => some (Obj.cells c 62 (0, 0))) (arr_put f k hk p)
theorem ArrAt.range {w : World} {b : Nat} {f : Nat → Option Addr} (h : ArrAt w b f) : w.rangeAt b 0 (arrRow f).toList := fun r v hv => by
  rw [Nat.zero_add, cell_of_row _ _ r _ 62 (0, 0) h, ← hv]; simp
theorem ArrAt.ext {w w' : World} {b : Nat} {f : Nat → Option Addr} (h : ArrAt w b f) (he : Ext w w') : ArrAt w' b f := he.row h
theorem arr_one (f : Nat → Option Addr) : (arrRow f).all (·.oneCell') = true := by kernel_rfl
theorem info_arr : (Tryz.prog.info? 62).map (·.size) = some 8 := by kernel_rfl
theorem info_mark : (Tryz.prog.info? 47).map (·.size) = some 3 := by kernel_rfl
def mkRow (m : Mk) : List Value := [.string m.key, .int .u64 (m.seq : Int), .bool m.gone]
theorem MkAt.range {w : World} {b : Nat} {m : Mk} (h : MkAt w b m) : w.rangeAt b 0 (mkRow m) := fun r v hv => by
  have hr : r < 3 := (List.getElem?_eq_some_iff.1 hv).1
  rw [Nat.zero_add, cell_of_row _ _ r _ 47 (0, 0) h, ← hv]
  obtain rfl | rfl | rfl : r = 0 ∨ r = 1 ∨ r = 2 := by omega
  all_goals rfl
theorem TwAt.mark {w : World} {b : Nat} {e : En} {f : Nat → Option Addr} (h : TwAt w b e f) : w.rangeAt b 0 (mkRow e.mark) := fun r v hv => by
  have hr : r < 3 := (List.getElem?_eq_some_iff.1 hv).1
  rw [Nat.zero_add, cell_of_row _ _ r _ 64 (0, 0) h, ← hv]
  obtain rfl | rfl | rfl : r = 0 ∨ r = 1 ∨ r = 2 := by omega
  all_goals rfl
theorem ext_draws {a w : World} (h : Ext a w) (n : Nat) : Ext a (w.drewN n) := h.trans ⟨rfl, rfl, rfl, Nat.le_refl _, fun _ _ => rfl⟩
def Lasts (w : World) (hd : Nat) (ns : List Nd) (m : Mk) (e : Ending) (w' : World) : Prop := e = .returned (.agg (lastRow (headN hd :: aheadN ns m))) ∧ Ext w w'
set_option maxRecDepth 100000 in
set_option maxHeartbeats 2000000 in
theorem ahead_any (w : World) (tb hd : Nat) (ns : List Nd) (m : Mk) (hS : SkAt w tb hd ns) : Calls Tryz.prog 21 #[.pointer (some ⟨tb, 0, none⟩), .agg #[.string m.key, .int .u64 (m.seq : Int), .bool m.gone]] w (Lasts w hd ns m) := by
  obtain ⟨W, hW⟩ : ∃ W, W = (w.alloc (.cells #[.string m.key, .int .u64 (m.seq : Int), .bool m.gone] 47)).alloc (.cells #[.pointer none, .pointer none, .pointer none, .pointer none, .pointer none, .pointer none, .pointer none, .pointer none] 62) := ⟨_, rfl⟩
  have hE : Ext w W := by rw [hW]; exact ((Ext.refl _).alloc _).alloc _
  have hM : MkAt W w.heap.size m := by rw [hW]; exact ((Ext.refl _).alloc _).row (heap_alloc_new w _)
  have hA : ArrAt W (w.heap.size + 1) (fun _ => none) := by
    rw [hW]
    have h := heap_alloc_new (w.alloc (.cells #[.string m.key, .int .u64 (m.seq : Int), .bool m.gone] 47)) (.cells (arrRow (fun _ => none)) 62)
    rw [show (w.alloc (.cells #[.string m.key, .int .u64 (m.seq : Int), .bool m.gone] 47)).heap.size = w.heap.size + 1 by simp] at h
    exact h
  have hSW := hS.ext hE
  obtain ⟨c0, _, _, _⟩ := hSW.cells
  have c0' := c0
  rw [hW] at c0'
  have hW' := Lib.hid hW
  have hrb : ∀ k, skB tb hd ns k → ¬ k = w.heap.size + 1 := fun k hk h => by have := hS.lt hk; omega
  have hrb' := Lib.hid hrb
  clear hW hrb
  go_enter Tryz.func21, Tryz.ntmps21
  go_wp2_with fail
  rw [← hW'.out]
  clear hW' c0'
  go_step3
  go_wp2_with fail
  go_step3
  go_wp2_with fail
  go_loopg [5, 6] (8 + ns.length) (fun g pa hi wr => ∃ x q f, pa = .pointer (some ⟨x.blk, 0, none⟩) ∧ ((∃ h : Nat, hi = .int .i64 (h : Int) ∧ Down hd ns m (h + 1) x q f ∧ g = h + 1 + q.length) ∨ (hi = .int .i64 (-1) ∧ Down hd ns m 0 x q f)) ∧ ArrAt wr (w.heap.size + 1) f ∧ OffB (fun k => k = w.heap.size + 1) W wr)
  case atStart => exact ⟨headN hd, ns, fun _ => none, rfl, .inl ⟨7, rfl, Down.start hd ns m _, by omega⟩, hA, OffB.refl _⟩
  case round =>
    obtain ⟨x, q, f, rfl, hst, hAr, hO⟩ := hrel
    have hSr := hSW.off hO hrb'.out
    have hMr : MkAt wr w.heap.size m := by unfold MkAt at hM ⊢; rw [hO.block w.heap.size (Array.getElem?_eq_some_iff.1 hM).1 (by omega)]; exact hM
    rcases hst with ⟨h, rfl, hD, rfl⟩ | ⟨rfl, hD⟩
    · have h8 : h < 8 := hD.j8
      obtain ⟨p, hp⟩ := hD.split
      have hcx : Chain wr (p ++ x :: q) := by rw [← hp]; exact hSr.chain
      have hTx := hcx.at
      have hcell : wr.cell? ⟨x.blk, 4 + h, none⟩ = some (.pointer (nextAt q h)) := by
        rw [hTx.cells.2.2.2.2.1 h h8]; unfold links; rw [if_pos (by have := hD.tall; omega)]
      rcases nextAt_cases q h with ⟨hn, hno⟩ | ⟨q0, n, r, rfl, hno, hhit, hn⟩
      · -- nothing further at this height
        rw [hn] at hcell
        have hD2 := hD.down (fun y hy hy2 => by rw [hno y hy] at hy2; cases hy2)
        obtain ⟨ac, af⟩ := hAr.cells
        have ac1 := ac h h8
        have af1 := af h
        clear ac af
        go_wp2_with fail
        go_quiet (fail)
        go_wp2_with fail
        have hEd := ext_draws (Ext.refl wr) nq
        have hAp := (hAr.ext hEd).put h h8 (some x.addr)
        have hOp := OffB.setCell (B := fun k => k = w.heap.size + 1) (p := ⟨w.heap.size + 1, h, none⟩) (hO.trans (.of_ext hEd)) rfl (.pointer (some x.addr))
        go_roundg (h + q.length)
        case measure => omega
        case rel =>
          refine ⟨x, q, _, rfl, ?_, hAp, hOp⟩
          rcases h with _ | h
          · exact .inr ⟨rfl, hD2⟩
          · exact .inl ⟨h, by go_num, hD2, by omega⟩
      · rw [hn] at hcell
        unfold Nd.addr at hcell
        have hcn : Chain wr ((p ++ x :: q0) ++ n :: r) := by simpa using hcx
        have hTn := hcn.at
        have hnm := hTn.mark
        have hmm := hMr.range
        obtain ⟨c, hc⟩ : ∃ c, c = cmpM n.e.mark m := ⟨_, rfl⟩
        have hcall : ∀ w', Calls Tryz.prog 65 #[.agg #[.string n.e.mark.key, .int .u64 (n.e.mark.seq : Int), .bool n.e.mark.gone], .agg #[.string m.key, .int .u64 (m.seq : Int), .bool m.gone]] w' fun e w'' => e = .returned (.int .i64 c) ∧ Ext w' w'' := fun w' => by rw [hc]; exact cmp_any w' n.e.mark m
        have hcall' := Lib.hid hcall
        clear hcall
        cases hlt : n.e.mark.ltB m
        · have hc0 : ¬ c < 0 := by rw [hc, cmpM_neg, hlt]; simp
          have hD2 := hD.down (hD.stop hSr.rises hno hlt)
          clear hc hTn hcn hTx hcx hp
          have hcall := hcall'.out
          clear hcall'
          go_wp2_with fail
          refine wp_region_class (Ext wr) (by kernel_rfl) (by kernel_rfl) (Ext.refl _).drew ?_
          iterate 7 (refine wpQuiet_step (fun K hK => ?_); go_simp; first | (refine hK _ ?_; clear hK K) | (refine ⟨_, fun _ _ => rfl, hK _ ?_⟩; clear hK K))
          refine wpQuiet_load_mid (by rfl) 47 _ (by rfl) n.blk 0 (by rfl) _ _ (fun w' h r v hv => h.cell (hnm r v hv)) Tryz.underlying47 rfl (by exact info_mark) ?_
          refine wpQuiet_load_mid (by rfl) 47 _ (by rfl) w.heap.size 0 (by rfl) _ _ (fun w' h r v hv => h.cell (hmm r v hv)) Tryz.underlying47 rfl (by exact info_mark) ?_
          refine wpQuiet_step (fun K hK => ?_)
          go_simp
          refine ⟨_, fun w' hw => calls_ext hw (hcall w'), hK _ ?_⟩; clear hK K
          iterate 2 (refine wpQuiet_step (fun K hK => ?_); go_simp; first | (refine hK _ ?_; clear hK K) | (refine ⟨_, fun _ _ => rfl, hK _ ?_⟩; clear hK K))
          refine wpQuiet_nil (fun w4 hE4 => ?_)
          have hAr4 := hAr.ext hE4
          obtain ⟨ac, af⟩ := hAr4.cells
          have ac1 := ac h h8
          have af1 := af h
          have hAp := hAr4.put h h8 (some x.addr)
          have hOp := OffB.setCell (B := fun k => k = w.heap.size + 1) (p := ⟨w.heap.size + 1, h, none⟩) (hO.trans (.of_ext hE4)) rfl (.pointer (some x.addr))
          clear ac af hcall
          go_wp2_with fail
          go_roundg (h + (q0 ++ n :: r).length)
          case measure => omega
          case rel =>
            refine ⟨x, q0 ++ n :: r, _, rfl, ?_, hAp, hOp⟩
            rcases h with _ | h
            · exact .inr ⟨rfl, hD2⟩
            · exact .inl ⟨h, by go_num, hD2, by omega⟩
        · have hc0 : c < 0 := by rw [hc, cmpM_neg, hlt]
          have hD2 := hD.move hSr.rises hhit hlt
          clear hc hTn hcn hTx hcx hp
          have hcall := hcall'.out
          clear hcall'
          go_wp2_with fail
          refine wp_region_class (Ext wr) (by kernel_rfl) (by kernel_rfl) (Ext.refl _).drew ?_
          iterate 7 (refine wpQuiet_step (fun K hK => ?_); go_simp; first | (refine hK _ ?_; clear hK K) | (refine ⟨_, fun _ _ => rfl, hK _ ?_⟩; clear hK K))
          refine wpQuiet_load_mid (by rfl) 47 _ (by rfl) n.blk 0 (by rfl) _ _ (fun w' h r v hv => h.cell (hnm r v hv)) Tryz.underlying47 rfl (by exact info_mark) ?_
          refine wpQuiet_load_mid (by rfl) 47 _ (by rfl) w.heap.size 0 (by rfl) _ _ (fun w' h r v hv => h.cell (hmm r v hv)) Tryz.underlying47 rfl (by exact info_mark) ?_
          refine wpQuiet_step (fun K hK => ?_)
          go_simp
          refine ⟨_, fun w' hw => calls_ext hw (hcall w'), hK _ ?_⟩; clear hK K
          iterate 2 (refine wpQuiet_step (fun K hK => ?_); go_simp; first | (refine hK _ ?_; clear hK K) | (refine ⟨_, fun _ _ => rfl, hK _ ?_⟩; clear hK K))
          refine wpQuiet_nil (fun w4 hE4 => ?_)
          clear hcall
          go_wp2_with fail
          go_roundg (h + 1 + r.length)
          case measure => simp; omega
          case rel => exact ⟨n, r, f, rfl, .inl ⟨h, rfl, hD2, rfl⟩, hAr.ext hE4, hO.trans (.of_ext hE4)⟩
    · obtain ⟨ac, af⟩ := hAr.cells
      have hrg := hAr.range
      have hAr2 := hAr
      unfold ArrAt at hAr2
      clear ac af
      go_wp2_with (first | (refine wpList_load_mid (by rfl) 62 (.tmp 4) (by rfl) (w.heap.size + 1) 0 (by rfl) (arrRow f).toList _ hrg Tryz.underlying62 rfl (by exact info_arr) ?_) | (refine wpList_store_row (by rfl) 62 (.tmp 4) (.tmp 38) (by rfl) (w.heap.size + 1) (arrRow f) (by rfl) (by rfl) 62 (arrRow f) hAr2 (by exact info_arr) (by rfl) (by exact arr_one f) ?_) | fail)
      have hset : (wr.setRow (w.heap.size + 1) (arrRow f)).heap[w.heap.size + 1]? = some (.cells (arrRow f) 62 (0, 0)) := by rw [setRow_heap _ _ _ _ _ _ hAr2]
      obtain ⟨Wf, hWf⟩ : ∃ Wf, Wf = wr.setRow (w.heap.size + 1) (arrRow f) := ⟨_, rfl⟩
      rw [← hWf] at hset ⊢
      have hAf : ArrAt Wf (w.heap.size + 1) f := hset
      obtain ⟨bc, _⟩ := hAf.cells
      have b0 := bc 0 (by omega)
      have b1 := bc 1 (by omega)
      have b2 := bc 2 (by omega)
      have b3 := bc 3 (by omega)
      have b4 := bc 4 (by omega)
      have b5 := bc 5 (by omega)
      have b6 := bc 6 (by omega)
      have b7 := bc 7 (by omega)
      have hEf : Ext w Wf := by
        have h1 : Ext w wr := ((OffB.of_ext hE).trans hO).ext (fun k hk h => by omega)
        rw [hWf]
        exact h1.setRow (by omega) _
      have hff : arrRow f = lastRow (headN hd :: aheadN ns m) := by
        unfold arrRow lastRow
        rw [hD.told 0 (by omega) (by omega), hD.told 1 (by omega) (by omega), hD.told 2 (by omega) (by omega), hD.told 3 (by omega) (by omega), hD.told 4 (by omega) (by omega), hD.told 5 (by omega) (by omega), hD.told 6 (by omega) (by omega), hD.told 7 (by omega) (by omega)]
      rw [Exit.noGoto_ret]
      refine bodyPost_ret (v := .agg (arrRow f)) (by simp [results, Tryz.results21, go_sem, b0, b1, b2, b3, b4, b5, b6, b7, arrRow]) rfl ⟨?_, hEf⟩
      rw [hff]
end Go.Proofs.YtfcpnkalcijflaaGreatDoor
