/- The law ModelsScan. (Printed by wip/tools/glaw.py.) No condition. -/
import Derived.Test.YtmjoaiepfipmaaaLMA
import Derived.Laws.Cover1
import Derived.StillTailTactics
namespace Go.Proofs.Ytmjoaiepfipmaaa
open Go.RowKit
set_option maxRecDepth 100000
set_option maxHeartbeats 4000000
theorem okc_span {w : World} {cs : List Value} (h : ∃ n, OKC Try.prog w n 60 cs) : ∃ s0 s1 : ByteArray, cs = [.string s0, .string s1] ∧ s0.size ≤ 140737488351232 ∧ s1.size ≤ 140737488351232 := by
  obtain ⟨n, h⟩ := h
  have c2 : Try.prog.cellsOf 60 = 2 := by kernel_rfl
  have c1 : Try.prog.cellsOf 9 = 1 := by kernel_rfl
  cases n with
  | zero => exact h.elim
  | succ n =>
    unfold OKC at h
    rw [Try.underlying60] at h
    simp only [c2, c1] at h
    obtain ⟨hl, hi⟩ := h
    match cs, hl with
    | [v0, v1], _ =>
      obtain ⟨s0, e0, h0⟩ := okc_str Try.underlying9 (hi 0 (by decide))
      obtain ⟨s1, e1, h1⟩ := okc_str Try.underlying9 (hi 1 (by decide))
      simp at e0 e1
      exact ⟨s0, s1, by rw [e0, e1], h0, h1⟩
theorem rg_ext {w w' : World} {b o : Nat} {cs : List Value} (he : Ext w w') (h : w.rangeAt b o cs) : w'.rangeAt b o cs := fun j v hv => he.cell (h j v hv)
def askScan (k t : ByteArray) (n : Int) : Ak := ⟨6, k, ⟨#[]⟩, ⟨#[]⟩, false, t, n, []⟩
theorem askScan_small {k t : ByteArray} {n : Int} (h1 : k.size ≤ 140737488351232) (h2 : t.size ≤ 140737488351232) (h0 : 0 ≤ n) (hn : n ≤ 100) : (askScan k t n).small := ⟨⟨(by decide : (0 : Int) ≤ 6), (by decide : (6 : Int) < 256)⟩, h1, e_sz, e_sz, h2, by show -9223372036854775808 ≤ n ∧ n ≤ 9223372036854775807; omega⟩
theorem ok_scan (k t : ByteArray) (n : Int) (h0 : 0 ≤ n) : (askScan k t n).okB = (keyB k && (keyB t && decide (n ≤ 64))) := by
  unfold Ak.okB askScan Ak.scanB
  simp [h0]
theorem modelsScan_walk (w : World) (v : Value) (o0 : ∃ n, OKC Try.prog w n 46 [v]) (cs : Array Value) (o1 : ∃ n, OKC Try.prog w n 60 cs.toList) (nn : Int) (o2 : ∃ n, OKC Try.prog w n 5 [.int .u8 nn]) :
    Calls Try.prog 5 #[v, .agg cs, .int .u8 nn] w fun e w' => e = .returned (.bool true) ∧ Ext w w' := by
  obtain ⟨l, a, cap, rfl, hg, h1, hll⟩ := okc_acts o0
  obtain ⟨s0, s1, hcs, hs0, hs1⟩ := okc_span o1
  obtain rfl : cs = #[.string s0, .string s1] := by rw [← Array.toList_inj]; exact hcs
  obtain ⟨nn, rfl, hnn⟩ := okc_nat Try.underlying5 (fun _ h => wf_u8 h) o2
  have hg' := Lib.hid hg
  have h1' := Lib.hid h1
  clear o0 o1 o2 hg h1 hcs
  have hG := heap_alloc_new w (.cells #[.string s0, .string s1] 60)
  have hE := (Ext.refl w).alloc (.cells #[.string s0, .string s1] 60)
  have hq0 : 0 ≤ (nn : Int) % 70 := by omega
  have hq70 : (nn : Int) % 70 < 70 := by omega
  go_enter Try.func5, Try.ntmps5
  go_upto_region 1 with fail
  generalize w.alloc _ = W at *
  generalize w.heap.size = g at *
  obtain ⟨p0, p1⟩ : W.cell? ⟨g, 0, none⟩ = some (.string s0) ∧ W.cell? ⟨g, 1, none⟩ = some (.string s1) := by
    refine ⟨?_, ?_⟩ <;> (rw [cell_of_row _ _ _ _ 60 (0, 0) hG]; rfl)
  go_upto_region 2 with fail
  have hX := heap_alloc_new W (.cells (askScan s0 s1 ((nn : Int) % 70)).nil 26)
  have hEb := (Ext.refl W).alloc (.cells (askScan s0 s1 ((nn : Int) % 70)).nil 26)
  replace hE := hE.trans hEb
  replace hG := hEb.row hG
  clear hEb p0 p1
  unfold askScan Ak.nil Ak.row at hX hE hG
  simp only at hX hE hG
  have hgW : g < W.heap.size := by
    have := (Array.getElem?_eq_some_iff.1 hG).1
    simp at this
    have h2 : W.heap.size ≠ g ∨ W.heap.size = g := by omega
    rcases Nat.lt_or_ge g W.heap.size with h | h
    · exact h
    · exfalso
      have e : g = W.heap.size := by omega
      rw [e] at hG
      rw [hX] at hG
      cases hG
  generalize W.alloc _ = W2 at *
  generalize W.heap.size = g1 at *
  replace hX : W2.heap[g1]? = some (.cells (askScan s0 s1 ((nn : Int) % 70)).nil 26 (0, 0)) := hX
  go_wp2_with fail
  refine (alive_any W2).mono ?_
  rintro e wa ⟨rfl, hEa⟩
  replace hE := hE.trans hEa
  replace hX := hEa.row hX
  replace hG := hEa.row hG
  clear hEa
  go_wp2_with fail
  refine (great_any wa l a cap (fun x hx => (hg'.out x hx).ext hE) hll (h1'.out.ext hE)).mono ?_
  rintro e wg ⟨rfl, hEg⟩
  replace hE := hE.trans hEg
  replace hX := hEg.row hX
  replace hG := hEg.row hG
  clear hEg
  cases hm : greatB l
  case true =>
    go_wp2_with fail
    refine (alive_end w wg hE).mono ?_
    rintro e wz ⟨rfl, hEz⟩
    go_wp2_with fail
    go_ret
    exact ⟨rfl, hEz⟩
  have hl150 := great_len hm
  have hm' := Lib.hid hm
  clear hm
  have hspan : ∀ w', Ext wg w' → w'.cell? ⟨g, 0, none⟩ = some (.string s0) ∧ w'.cell? ⟨g, 1, none⟩ = some (.string s1) := fun w' he => by
    refine ⟨?_, ?_⟩ <;> (rw [cell_of_row _ _ _ _ 60 (0, 0) (he.row hG)]; rfl)
  have hspan' := Lib.hid hspan
  clear hspan hG
  obtain ⟨p0, p1⟩ := hspan'.out _ (Ext.refl wg)
  by_cases h8 : 1000 < s0.size + s1.size
  · have h8i : (1000 : Int) < (s0.size : Int) + (s1.size : Int) := by omega
    go_wp2_with fail
    refine (alive_end w wg hE).mono ?_
    rintro e wz ⟨rfl, hEz⟩
    go_wp2_with fail
    go_ret
    exact ⟨rfl, hEz⟩
  have h8i : ¬ (1000 : Int) < (s0.size : Int) + (s1.size : Int) := by omega
  have h8d : decide ((1000 : Int) < (s0.size : Int) + (s1.size : Int)) = false := decide_eq_false h8i
  go_wp2_with fail
  refine (done_any wg l a cap (fun x hx => (hg'.out x hx).ext hE) (by omega) (h1'.out.ext hE)).mono ?_
  rintro e w5 ⟨st, mb, rfl, hS⟩
  obtain ⟨M, hM⟩ : ∃ M, M = doneM l := ⟨_, rfl⟩
  have hRk : smallR M.rows := by rw [hM]; exact done_small l
  have hRl : M.rows.length ≤ 2400 := by rw [hM]; have := done_length l; omega
  rw [← hM] at hS
  have hE5 := hS.ground
  have hgs : ¬ (g1 = st ∨ g1 = mb) := by
    have := (Array.getElem?_eq_some_iff.1 hX).1
    have := hS.at
    omega
  replace hX := hE5.row hX
  have hX' := Lib.hid hX
  have hRk' := Lib.hid hRk
  clear hRk hM hX p0 p1
  obtain ⟨z0, z1, z2, z3, z4, z5, z6, z7⟩ := askc (x := askScan s0 s1 ((nn : Int) % 70)) (u := .slice none 0 0) hX'.out
  simp only [askScan] at z0 z1 z2 z3 z4 z5 z6 z7
  have hsm := askScan_small (n := (nn : Int) % 70) hs0 hs1 hq0 (by omega)
  have hos := ok_scan s0 s1 ((nn : Int) % 70) hq0
  have hos' := Lib.hid hos
  clear hos
  by_cases hmay : (askScan s0 s1 ((nn : Int) % 70)).okB = true
  case neg =>
    have hdo := do_b (c := 8) (n := 4294967295) hS hRk'.out (show M.rows.length ≤ 50000 by omega) (chs_nil w5) hsm (ans_bad (m := M) (.inr (.inr (.inr (by simpa using hmay))))) (ci := 8) (ni := 4294967295) (v := (askScan s0 s1 ((nn : Int) % 70)).nil) rfl rfl rfl
    unfold askScan Ak.nil Ak.row at hdo
    simp only at hdo
    have hdo' := Lib.hid hdo
    have hmay' := Lib.hid hmay
    clear hdo hmay hS hX'
    go_wp2_with fail
    refine hdo'.out.mono ?_
    rintro e w11 ⟨ea, ec, rfl, _, _, hSn, hO⟩
    have hEb := (Ext.refl w11).alloc (.cells #[.int .i64 0, .bool false, .slice ea 0 ec] 32)
    obtain ⟨p0, p1⟩ := hspan'.out _ (hSn.ground.trans hEb)
    have hE12 := hE.trans (hSn.ground.trans hEb)
    have b2 := heap_alloc_new w11 (.cells #[.int .i64 0, .bool false, .slice ea 0 ec] 32)
    obtain ⟨y0, y1, y2⟩ := re_cells b2
    clear hSn hO hdo' hEb z0 z1 z2 z3 z4 z5 z6 z7 b2
    by_cases a1 : 1 ≤ s0.size
    case neg =>
      have i1 : ¬ (1 : Int) ≤ (s0.size : Int) := by omega
      go_wp2_with fail
      go_ret
      exact ⟨rfl, hE12⟩
    have i1 : (1 : Int) ≤ (s0.size : Int) := by omega
    by_cases a2 : s0.size ≤ 24
    case neg =>
      have i2 : ¬ (s0.size : Int) ≤ 24 := by omega
      go_wp2_with fail
      go_ret
      exact ⟨rfl, hE12⟩
    have i2 : (s0.size : Int) ≤ 24 := by omega
    by_cases a3 : 1 ≤ s1.size
    case neg =>
      have i3 : ¬ (1 : Int) ≤ (s1.size : Int) := by omega
      go_wp2_with fail
      go_ret
      exact ⟨rfl, hE12⟩
    have i3 : (1 : Int) ≤ (s1.size : Int) := by omega
    by_cases a4 : s1.size ≤ 24
    case neg =>
      have i4 : ¬ (s1.size : Int) ≤ 24 := by omega
      go_wp2_with fail
      go_ret
      exact ⟨rfl, hE12⟩
    have i4 : (s1.size : Int) ≤ 24 := by omega
    have i5 : ¬ (nn : Int) % 70 ≤ 64 := by
      intro h
      apply hmay'.out
      rw [hos'.out]
      unfold keyB
      simp [a1, a2, a3, a4, h]
    have d5 : decide ((nn : Int) % 70 ≤ 64) = false := decide_eq_false i5
    go_wp2_with fail
    go_ret
    exact ⟨rfl, hE12⟩
  case pos =>
    have hkk := hmay
    rw [hos'.out] at hkk
    simp only [Bool.and_eq_true, decide_eq_true_eq] at hkk
    obtain ⟨hk0, hk1, hk2⟩ := hkk
    have a0 := keyB_size hk0
    have a1 := keyB_size hk1
    have i1 : (1 : Int) ≤ (s0.size : Int) := by omega
    have i2 : (s0.size : Int) ≤ 24 := by omega
    have i3 : (1 : Int) ≤ (s1.size : Int) := by omega
    have i4 : (s1.size : Int) ≤ 24 := by omega
    have d5 : decide ((nn : Int) % 70 ≤ 64) = true := decide_eq_true hk2
    by_cases hold : 4294967295 ≤ M.num 8
    · have hdo := do_b (c := 8) (n := 4294967295) hS hRk'.out (show M.rows.length ≤ 50000 by omega) (chs_nil w5) hsm (ans_old (m := M) (c := 8) (n := 4294967295) (by decide) (by decide) (by decide) hmay hold (fun h => h.2.2 rfl)) (ci := 8) (ni := 4294967295) (v := (askScan s0 s1 ((nn : Int) % 70)).nil) rfl rfl rfl
      unfold askScan Ak.nil Ak.row at hdo
      simp only at hdo
      have hdo' := Lib.hid hdo
      clear hdo hmay hS hX' hold
      go_wp2_with fail
      refine hdo'.out.mono ?_
      rintro e w11 ⟨ea, ec, rfl, _, _, hSn, hO⟩
      have hEb := (Ext.refl w11).alloc (.cells #[.int .i64 0, .bool false, .slice ea 0 ec] 32)
      obtain ⟨p0, p1⟩ := hspan'.out _ (hSn.ground.trans hEb)
      have hE12 := hE.trans (hSn.ground.trans hEb)
      have b2 := heap_alloc_new w11 (.cells #[.int .i64 0, .bool false, .slice ea 0 ec] 32)
      obtain ⟨y0, y1, y2⟩ := re_cells b2
      clear hSn hO hdo' hEb z0 z1 z2 z3 z4 z5 z6 z7 b2
      go_wp2_with fail
      go_ret
      exact ⟨rfl, hE12⟩
    have hdo := do_b (c := 8) (n := 4294967295) hS hRk'.out (show M.rows.length ≤ 50000 by omega) (chs_nil w5) hsm (ans_ok (m := M) (c := 8) (n := 4294967295) (by decide) (by decide) hmay (by omega)) (ci := 8) (ni := 4294967295) (v := (askScan s0 s1 ((nn : Int) % 70)).nil) rfl rfl rfl
    rw [act_look (fun h => h.2 rfl) (.inr rfl), show yesW M.rows (askScan s0 s1 ((nn : Int) % 70)) = false from rfl, show rowsW M.rows (askScan s0 s1 ((nn : Int) % 70)) = scanL (askScan s0 s1 ((nn : Int) % 70)) M.rows from rfl] at hdo
    obtain ⟨L, hL⟩ : ∃ L, L = scanL (askScan s0 s1 ((nn : Int) % 70)) M.rows := ⟨_, rfl⟩
    rw [← hL] at hdo
    obtain ⟨ln, hln⟩ : ∃ ln, ln = L.length := ⟨_, rfl⟩
    have hL' := Lib.hid hL
    have hln' := Lib.hid hln
    unfold askScan Ak.nil Ak.row at hdo
    simp only at hdo
    have hdo' := Lib.hid hdo
    have hlt5 := hS.lt
    clear hdo hmay hS hL hln hold
    go_wp2_with fail
    refine hdo'.out.mono ?_
    rintro e w11 ⟨ea, ec, rfl, hLr, _, hS, hO⟩
    have hX11 := hO.row hX'.out hgs
    rw [← hln'.out] at hLr ⊢
    have b2 := heap_alloc_new w11 (.cells #[.int .i64 0, .bool false, .slice ea ln ec] 32)
    have hEb := (Ext.refl w11).alloc (.cells #[.int .i64 0, .bool false, .slice ea ln ec] 32)
    have hX12 := hEb.row hX11
    have hLr12 := hLr.ext hEb
    have hS12 := hS.ext hEb
    have hb1 : g1 < w11.heap.size := (Array.getElem?_eq_some_iff.1 hX11).1
    clear hS hO hdo' hEb z0 z1 z2 z3 z4 z5 z6 z7 hX11 hX' hLr
    go_upto_region 6 with fail
    generalize w11.alloc _ = w12 at *
    generalize w11.heap.size = g2 at *
    obtain ⟨p0, p1⟩ := hspan'.out _ hS12.ground
    have b3 := Lib.hid b2
    have hX13 := Lib.hid hX12
    have hL13 := Lib.hid hLr12
    clear hX12 hLr12 b2
    go_wp2_with fail
    refine (rowsM_any hS12 hRk'.out (by omega)).mono ?_
    rintro e w13 ⟨ra, rc, rfl, _, hown, hE13⟩
    obtain ⟨rn, hrn⟩ : ∃ rn, rn = M.rows.length := ⟨_, rfl⟩
    rw [← hrn] at hown hRl ⊢
    have hrn' := Lib.hid hrn
    have hE14 := hE.trans (hS12.ground.trans hE13)
    have hsp2 : ∀ w', Ext w13 w' → w'.cell? ⟨g, 0, none⟩ = some (.string s0) ∧ w'.cell? ⟨g, 1, none⟩ = some (.string s1) ∧ w'.cell? ⟨g1, 6, none⟩ = some (.int .i64 ((nn : Int) % 70)) := fun w' he => by
      obtain ⟨q0, q1⟩ := hspan'.out _ (hS12.ground.trans (hE13.trans he))
      obtain ⟨_, _, _, _, _, _, q6, _⟩ := askc (x := askScan s0 s1 ((nn : Int) % 70)) (u := .slice none 0 0) ((hE13.trans he).row hX13.out)
      exact ⟨q0, q1, q6⟩
    have hsp2' := Lib.hid hsp2
    have hown' := Lib.hid hown
    have b4 := Lib.hid (hE13.row b3.out)
    have hL14 := Lib.hid (hL13.out.ext hE13)
    clear hrn hsp2 hown b3 hL13 hX13 hS12 hE13 p0 p1
    go_wp2_with fail
    go_loopw [12, 14] (fun out i wr => ∃ (k m : Nat) (oa : Option Addr) (oc : Nat), k ≤ rn ∧ i = .int .i64 k ∧ out = .slice oa m oc ∧ Hid (m = (scanL (askScan s0 s1 ((nn : Int) % 70)) (M.rows.take k)).length) ∧ wr.ownsRow w13.heap.size 62 2 (.slice oa m oc) m ((scanL (askScan s0 s1 ((nn : Int) % 70)) (M.rows.take k)).flatMap rwL) ∧ Ext w13 wr) (fun _ i _ => rn - (intOf i).toNat)
    case atStart => exact ⟨0, 0, none, 0, by omega, rfl, rfl, Lib.hid (by simp [scanL]), by simpa [scanL] using World.ownsRow_nil _ _ _ _, Ext.refl _⟩
    case round =>
      obtain ⟨k, m, oa, oc, hk, rfl, rfl, hm2, hown, hEr⟩ := hrel
      by_cases hlt : k < rn
      · have hli : (k : Int) < (rn : Int) := by omega
        obtain ⟨r, hr⟩ : ∃ r, M.rows[k]? = some r := ⟨_, List.getElem?_eq_getElem (by rw [← hrn'.out]; exact hlt)⟩
        obtain ⟨gr, rfl, hgr⟩ := own_some hown'.out (by omega)
        have hrg := fun (w' : World) (he : Ext w13 w') => rg_ext he (own_rw hown'.out hr (by omega))
        have hrg' := Lib.hid hrg
        have htk : M.rows.take (k + 1) = M.rows.take k ++ [r] := by rw [List.take_add_one, hr]; rfl
        have hadd := scanL_add (askScan s0 s1 ((nn : Int) % 70)) (M.rows.take k) r
        rw [← htk, ← hm2.out] at hadd
        have hmk : m ≤ k := by rw [hm2.out]; have := scanL_len (askScan s0 s1 ((nn : Int) % 70)) (M.rows.take k); rw [List.length_take] at this; omega
        have hadd' := Lib.hid hadd
        obtain ⟨p0, p1, p6⟩ := hsp2'.out _ hEr
        have y0 := hrg'.out _ hEr 0 _ rfl
        rw [Nat.add_zero] at y0
        have hown2 := Lib.hid hown
        have hm3 := hm2
        have hsz := hEr.size
        have hk0 : 0 ≤ (k : Int) := by omega
        have hkn : ((k : Int)).toNat = k := by omega
        have hsz2 := hsz
        clear hrg htk hadd hr hown hm2
        have hskip : ∀ (w' : World) (hX : Ext wr w') (hq : ¬ (inR (askScan s0 s1 ((nn : Int) % 70)) r = true ∧ (m : Int) < (nn : Int) % 70)), ∃ (k' m' : Nat) (oa' : Option Addr) (oc' : Nat), k' ≤ rn ∧ Value.int .i64 ((k : Int) + 1) = .int .i64 k' ∧ Value.slice oa m oc = .slice oa' m' oc' ∧ Hid (m' = (scanL (askScan s0 s1 ((nn : Int) % 70)) (M.rows.take k')).length) ∧ w'.ownsRow w13.heap.size 62 2 (.slice oa' m' oc') m' ((scanL (askScan s0 s1 ((nn : Int) % 70)) (M.rows.take k')).flatMap rwL) ∧ Ext w13 w' := by
          intro w' hX hq
          have ha := hadd'.out
          rw [if_neg (show ¬ (inR (askScan s0 s1 ((nn : Int) % 70)) r = true ∧ (m : Int) < (askScan s0 s1 ((nn : Int) % 70)).many) from hq)] at ha
          exact ⟨k + 1, m, oa, oc, by omega, by simp, rfl, Lib.hid (by rw [ha]; exact hm3.out), by rw [ha]; exact hown2.out.kept (grown_of_ext hX) (Classical.em _), hEr.trans hX⟩
        have hskip' := Lib.hid hskip
        clear hskip
        cases h1 : Op.bytesLess r.key.toList s0.toList with
        | true =>
          go_upto_region 16 with fail
          refine bxTail 24 (by kernel_rfl) (by kernel_rfl) ?_
          simp only [List.take_succ_cons, List.take_zero, List.drop_succ_cons, List.drop_zero]
          iterate 24 (first | (refine bxSkip (by rfl) ?_; simp only [Act.put, List.setIfInBounds_toArray, List.set_cons_zero, List.set_cons_succ]) | (refine bxStep (fun K hK => ?_); go_simp; refine hK _ ?_; clear hK K))
          refine bxNil ?_
          change wpList _ _ _ _ _ wr.drew
          clear p0 p1 p6 y0 hkn hk0
          go_wp2_with fail
          go_roundw
          case rel => exact hskip'.out _ (Ext.refl wr).drew (by unfold inR; rw [show (askScan s0 s1 ((nn : Int) % 70)).key = s0 from rfl, h1]; simp)
          case measure => simp [intOf]; omega
        | false =>
          cases h2 : (Op.bytesLess r.key.toList s1.toList || r.key.toList == s1.toList) with
          | false =>
            go_upto_region 16 with fail
            refine bxTail 24 (by kernel_rfl) (by kernel_rfl) ?_
            simp only [List.take_succ_cons, List.take_zero, List.drop_succ_cons, List.drop_zero]
            iterate 24 (first | (refine bxSkip (by rfl) ?_; simp only [Act.put, List.setIfInBounds_toArray, List.set_cons_zero, List.set_cons_succ]) | (refine bxStep (fun K hK => ?_); go_simp; refine hK _ ?_; clear hK K))
            refine bxNil ?_
            change wpList _ _ _ _ _ wr.drew
            clear p0 p1 p6 y0 hkn hk0
            go_wp2_with fail
            go_roundw
            case rel => exact hskip'.out _ (Ext.refl wr).drew (by unfold inR; rw [show (askScan s0 s1 ((nn : Int) % 70)).key = s0 from rfl, show (askScan s0 s1 ((nn : Int) % 70)).to = s1 from rfl, h1, h2]; simp)
            case measure => simp [intOf]; omega
          | true =>
            by_cases h3 : (m : Int) < (nn : Int) % 70
            · have h3d : decide ((m : Int) < (nn : Int) % 70) = true := decide_eq_true h3
              go_upto_region 16 with fail
              refine bxTail 24 (by kernel_rfl) (by kernel_rfl) ?_
              simp only [List.take_succ_cons, List.take_zero, List.drop_succ_cons, List.drop_zero]
              iterate 24 (first | (refine bxSkip (by rfl) ?_; simp only [Act.put, List.setIfInBounds_toArray, List.set_cons_zero, List.set_cons_succ]) | (refine bxStep (fun K hK => ?_); go_simp; refine hK _ ?_; clear hK K))
              refine bxNil ?_
              change wpList _ _ _ _ _ wr.drew
              have hEd := hEr.trans (Ext.refl wr).drew
              have hrgd := hrg'.out _ hEd
              have hownd := hown2.out.kept (grown_of_ext (Ext.refl wr).drew) (Classical.em _)
              have hszd := hEd.size
              clear p0 p1 p6 y0
              generalize wr.drew = wd at *
              clear hkn hk0
              go_wp2_with (first | (refine wpList_load_mid (by rfl) 62 (.tmp 127) (by rfl) gr (k * 2) (by rfl) (rowR r).toList _ hrgd Try.underlying62 rfl (by exact info_row) ?_) | (refine wpList_bs_row (by rfl) (.tmp 128) (by rfl) r (by rfl) ?_) | (at_builtin; refine wpList_append_lit (by rfl) (.tmp 124) (.tmp 129) 30 62 (by rfl) Try.underlying30 el_row wd w13.heap.size m _ (.slice oa m oc) (by rfl) hownd (rowR r) (by rfl) (by rfl) (fun u hu => Array.all_eq_true_iff_forall_mem.1 (rowR_one r) u (by simpa using hu)) (by omega) (by omega) hszd ?_; go_loud (intro v' w3 hown5 hbel; obtain ⟨oa', oc', rfl, _⟩ := own_slice hown5; have hX3 : Ext w13 w3 := Below.trans hEd hbel)) | fail)
              go_roundw
              case rel =>
                have ha := hadd'.out
                rw [if_pos (show inR (askScan s0 s1 ((nn : Int) % 70)) r = true ∧ (m : Int) < (askScan s0 s1 ((nn : Int) % 70)).many from ⟨by unfold inR; rw [show (askScan s0 s1 ((nn : Int) % 70)).key = s0 from rfl, show (askScan s0 s1 ((nn : Int) % 70)).to = s1 from rfl, h1, h2]; rfl, h3⟩)] at ha
                refine ⟨k + 1, m + 1, oa', oc', by omega, by go_num, rfl, Lib.hid (by rw [ha, List.length_append, ← hm3.out]; rfl), ?_, hX3⟩
                rw [ha, List.flatMap_append]
                simpa [rwL, rowR] using hown5
              case measure => simp [intOf]; omega
            · have h3d : decide ((m : Int) < (nn : Int) % 70) = false := decide_eq_false h3
              go_upto_region 16 with fail
              refine bxTail 24 (by kernel_rfl) (by kernel_rfl) ?_
              simp only [List.take_succ_cons, List.take_zero, List.drop_succ_cons, List.drop_zero]
              iterate 24 (first | (refine bxSkip (by rfl) ?_; simp only [Act.put, List.setIfInBounds_toArray, List.set_cons_zero, List.set_cons_succ]) | (refine bxStep (fun K hK => ?_); go_simp; refine hK _ ?_; clear hK K))
              refine bxNil ?_
              change wpList _ _ _ _ _ wr.drew
              clear p0 p1 p6 y0 hkn hk0
              go_wp2_with fail
              go_roundw
              case rel => exact hskip'.out _ (Ext.refl wr).drew (fun hc => h3 hc.2)
              case measure => simp [intOf]; omega
      · have hli : ¬ (k : Int) < (rn : Int) := by omega
        have hkl : M.rows.take k = M.rows := List.take_of_length_le (by rw [← hrn'.out]; omega)
        rw [hkl] at hm2 hown
        have hLL : L = scanL (askScan s0 s1 ((nn : Int) % 70)) M.rows := hL'.out
        rw [← hLL] at hm2 hown
        have hml : m = ln := by rw [hm2.out, hln'.out]
        subst hml
        have hrow := (hL14.out.ext hEr)
        have e1 := hln'.out
        have hq := srows_any wr L L ea oa ec oc (by rw [← e1]; exact hrow) (by rw [← e1]; exact RowIs.of_own hown)
        rw [decide_eq_true rfl, ← e1] at hq
        have hq' := Lib.hid hq
        obtain ⟨y0, y1, y2⟩ := re_cells (hEr.row b4.out)
        have hEf := hE14.trans hEr
        clear hq hkl hLL hown hrow e1 hm2
        go_wp2_with fail
        refine hq'.out.mono ?_
        rintro e w20 ⟨rfl, hE20⟩
        go_wp2_with fail
        go_ret
        exact ⟨rfl, hEf.trans hE20⟩
end Go.Proofs.Ytmjoaiepfipmaaa
