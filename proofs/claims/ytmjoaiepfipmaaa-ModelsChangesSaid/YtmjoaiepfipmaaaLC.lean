/- The law ModelsChanges. (Printed by wip/tools/glaw.py.) No condition. -/
import Derived.Test.YtmjoaiepfipmaaaLMA
namespace Go.Proofs.Ytmjoaiepfipmaaa
open Go.RowKit
set_option maxRecDepth 100000
set_option maxHeartbeats 4000000
theorem modelsChanges_walk (w : World) (v : Value) (o0 : ∃ n, OKC Try.prog w n 46 [v]) (ac : Array Value) (o1 : ∃ n, OKC Try.prog w n 26 ac.toList) :
    Calls Try.prog 7 #[v, .agg ac] w fun e w' => e = .returned (.bool true) ∧ Ext w w' := by
  obtain ⟨l, a, cap, rfl, hg, h1, hll⟩ := okc_acts o0
  obtain ⟨n1, o1⟩ := o1
  obtain ⟨x, ca, cc, hac, hC, hs⟩ := okc_ask o1
  obtain rfl : ac = x.row (.slice ca x.chs.length cc) := by rw [← Array.toList_inj]; exact hac
  have hg' := Lib.hid hg
  have h1' := Lib.hid h1
  have hC' := Lib.hid hC
  clear o0 o1 hg h1 hC hac
  have hX := heap_alloc_new w (.cells (x.row (.slice ca x.chs.length cc)) 26)
  have hE := (Ext.refl w).alloc (.cells (x.row (.slice ca x.chs.length cc)) 26)
  unfold Ak.row at hX hE
  unfold Ak.row
  go_enter Try.func7, Try.ntmps7
  go_upto_region 1 with fail
  generalize w.alloc _ = W at *
  have hgW : w.heap.size < W.heap.size := (Array.getElem?_eq_some_iff.1 hX).1
  generalize w.heap.size = g at *
  replace hX : W.heap[g]? = some (.cells (x.row (.slice ca x.chs.length cc)) 26 (0, 0)) := hX
  have hEW := Ext.refl W
  go_wp2_with fail
  refine (alive_any W).mono ?_
  rintro e wa ⟨rfl, hEa⟩
  replace hE := hE.trans hEa
  replace hX := hEa.row hX
  clear hEa hEW hgW
  go_wp2_with fail
  refine (great_any wa l a cap (fun x hx => (hg'.out x hx).ext hE) hll (h1'.out.ext hE)).mono ?_
  rintro e wg ⟨rfl, hEg⟩
  replace hE := hE.trans hEg
  replace hX := hEg.row hX
  clear hEg
  cases hm : greatB l
  case true =>
    go_wp2_with fail
    refine (alive_end w wg hE).mono ?_
    rintro e wz ⟨rfl, hEz⟩
    go_wp2_with fail
    go_ret
    exact ⟨rfl, hEz⟩
  have hl150 := great_len hm
  have hm' := Lib.hid hm
  clear hm
  obtain ⟨z0, z1, z2, z3, z4, z5, z6, z7⟩ := askc hX
  have hX' := Lib.hid hX
  have hsz := asize_any wg x ca cc (hC'.out.ext hE) hs
  generalize x.sz = S at *
  unfold Ak.row at hsz
  have hsz' := Lib.hid hsz
  clear hX hsz
  go_wp2_with fail
  refine hsz'.out.mono ?_
  rintro e w3 ⟨rfl, hE3⟩
  replace hE := hE.trans hE3
  have hX := Lib.hid (hE3.row hX'.out)
  clear hE3 hX' hsz' z0 z1 z2 z3 z4 z5 z6 z7
  by_cases h8 : 10000 < S
  · have h8i : (10000 : Int) < (S : Int) := by omega
    go_wp2_with fail
    refine (alive_end w w3 hE).mono ?_
    rintro e wz ⟨rfl, hEz⟩
    go_wp2_with fail
    go_ret
    exact ⟨rfl, hEz⟩
  have h8i : ¬ (10000 : Int) < (S : Int) := by omega
  have h8d : decide ((10000 : Int) < (S : Int)) = false := decide_eq_false h8i
  go_wp2_with fail
  refine (done_any w3 l a cap (fun x hx => (hg'.out x hx).ext hE) (by omega) (h1'.out.ext hE)).mono ?_
  rintro e w5 ⟨st0, mb0, rfl, hS0⟩
  obtain ⟨R, hR⟩ : ∃ R, R = (doneM l).rows := ⟨_, rfl⟩
  have hRs := sortS hS0 hR
  have hRk : smallR R := by rw [hR]; exact done_small l
  have hRl : R.length ≤ 2400 := by rw [hR]; have := done_length l; omega
  have hR' := Lib.hid hR.symm
  have hE5 := hS0.ground
  replace hX := Lib.hid (hE5.row hX.out)
  replace hE := hE.trans hE5
  have hRs' := Lib.hid hRs
  have hRk' := Lib.hid hRk
  have hS0' := Lib.hid hS0
  clear hRs hRk hR hE5 hS0
  obtain ⟨z0, z1, z2, z3, z4, z5, z6, z7⟩ := askc hX.out
  obtain ⟨B, hB⟩ : ∃ B, B = x.okB := ⟨_, rfl⟩
  have hB' := Lib.hid hB
  clear hB
  obtain ⟨cs, hcs⟩ : ∃ cs, cs = if B then chgW R x else [] := ⟨_, rfl⟩
  have hch : Calls Try.prog 15 #[.pointer (some ⟨st0, 0, none⟩), .agg (x.row (.slice ca x.chs.length cc))] w5 (ChgE cs w5) := by
    cases B
    · rw [hcs]; exact chgN_any hS0'.out x ca cc (hC'.out.ext hE) hs hB'.out.symm rfl
    · have := chgM_any hS0'.out x ca cc (hC'.out.ext hE) hs hB'.out.symm (v := x.row (.slice ca x.chs.length cc)) rfl
      rw [hR'.out] at this
      rw [hcs]; exact this
  unfold Ak.row at hch
  have hch' := Lib.hid hch
  have hcs' := Lib.hid hcs
  clear hch hcs
  go_wp2_with fail
  refine hch'.out.mono ?_
  rintro e w6 ⟨da, dc, rfl, hD, hE6⟩
  replace hX := Lib.hid (hE6.row hX.out)
  replace hE := hE.trans hE6
  have hS0 := hS0'.out.ext hE6
  have hD' := Lib.hid hD
  obtain ⟨dn, hdn⟩ : ∃ dn, dn = cs.length := ⟨_, rfl⟩
  rw [← hdn] at hD' ⊢
  have hdn' := Lib.hid hdn
  clear hdn hD hch' hS0' z0 z1 z2 z3 z4 z5 z6 z7 hE6
  have hgl : g < w6.heap.size := (Array.getElem?_eq_some_iff.1 hX.out).1
  have hrows := rowsM_any hS0 (by rw [hR'.out]; exact hRk'.out) (by rw [hR'.out]; omega)
  rw [hR'.out] at hrows
  have hrows' := Lib.hid hrows
  clear hrows
  go_wp2_with fail
  refine hrows'.out.mono ?_
  clear hrows'
  rintro e w7 ⟨ra, rc, rfl, _, hown, hEr⟩
  have hmk := mk_rows w7 R ra rc (RowIs.of_own hown) (by omega) hRs'.out hRk'.out
  have hmk' := Lib.hid hmk
  clear hown hmk
  go_wp2_with fail
  refine hmk'.out.mono ?_
  clear hmk'
  rintro e w8 ⟨st, mb, rfl, hS⟩
  have hE8 := hEr.trans hS.ground
  replace hS := hS.past hEr
  replace hS0 := hS0.ext hE8
  clear hEr
  have hrows := rowsM_any hS0 (by rw [hR'.out]; exact hRk'.out) (by rw [hR'.out]; omega)
  rw [hR'.out] at hrows
  have hrows' := Lib.hid hrows
  clear hrows
  go_wp2_with fail
  refine hrows'.out.mono ?_
  clear hrows'
  rintro e w9 ⟨ra, rc, rfl, _, hown, hEr⟩
  have hmk := mk_rows w9 R ra rc (RowIs.of_own hown) (by omega) hRs'.out hRk'.out
  have hmk' := Lib.hid hmk
  clear hown hmk
  go_wp2_with fail
  refine hmk'.out.mono ?_
  clear hmk'
  rintro e w10 ⟨st2, mb2, rfl, hS2⟩
  obtain ⟨n1, n2⟩ := hS.apart hS2 hEr.size
  have hE10 := hEr.trans hS2.ground
  replace hS2 := hS2.past (hE8.trans hEr)
  replace hS := hS.ext hE10
  clear hS0 hEr hE8 hE10
  have hgs : ¬ (g = st ∨ g = mb) := by have := hS.at; omega
  have hX10 := hS.ground.row hX.out
  obtain ⟨z0, z1, z2, z3, z4, z5, z6, z7⟩ := askc hX10
  cases B
  case false =>
    have hdo := do_b (c := 8) (n := 1) hS hRk'.out (show R.length ≤ 50000 by omega) (hC'.out.ext (hE.trans hS.ground)) hs (ans_bad (m := ⟨R, zSd⟩) (.inr (.inr (.inr hB'.out.symm)))) (ci := 8) (ni := 1) (v := x.row (.slice ca x.chs.length cc)) rfl rfl rfl
    have hcs0 : dn = 0 := by rw [hdn'.out, hcs'.out]; rfl
    subst hcs0
    unfold Ak.row at hdo
    have hdo' := Lib.hid hdo
    clear hdo hS2
    go_wp2_with fail
    refine hdo'.out.mono ?_
    rintro e w11 ⟨ea, ec, rfl, _, _, hSn, hO⟩
    have hX11 := hO.row hX10 hgs
    have hEb := (Ext.refl w11).alloc (.cells #[.int .i64 0, .bool false, .slice ea 0 ec] 32)
    obtain ⟨y0, y1, y2, y3, y4, y5, y6, y7⟩ := askc (hEb.row hX11)
    have hE12 := hE.trans (hSn.ground.trans hEb)
    have hchk := check_any (w11.alloc (.cells #[.int .i64 0, .bool false, .slice ea 0 ec] 32)) x ca cc (hC'.out.ext hE12) hs
    rw [← hB'.out] at hchk
    unfold Ak.row at hchk
    have hchk' := Lib.hid hchk
    clear hchk hS hO hSn hX11 hX10 hX hdo' z0 z1 z2 z3 z4 z5 z6 z7 hEb
    go_wp2_with fail
    refine hchk'.out.mono ?_
    rintro e w12 ⟨rfl, hE13⟩
    go_wp2_with fail
    go_ret
    exact ⟨rfl, hE12.trans hE13⟩
  case true =>
    have hcsx : cs = chgW R x := hcs'.out
    obtain ⟨hcok, hc16⟩ := chg_ok (l := R) hB'.out.symm
    rw [← hcsx] at hcok hc16
    have hdo := do_b (c := 8) (n := 1) hS hRk'.out (show R.length ≤ 50000 by omega) (hC'.out.ext (hE.trans hS.ground)) hs (ans_ok (m := ⟨R, zSd⟩) (c := 8) (n := 1) (by decide) (by decide) hB'.out.symm (by rw [num_zSd]; decide)) (ci := 8) (ni := 1) (v := x.row (.slice ca x.chs.length cc)) rfl rfl rfl
    obtain ⟨m1, hm1⟩ : ∃ m1, m1 = (⟨R, zSd⟩ : Md).act 8 1 x := ⟨_, rfl⟩
    rw [← hm1] at hdo
    have hm1r : m1.rows = chsW R cs := by rw [hm1, hcsx]; rfl
    generalize yesW (⟨R, zSd⟩ : Md).rows x = Y at *
    generalize rowsW (⟨R, zSd⟩ : Md).rows x = L at *
    obtain ⟨ln, hln⟩ : ∃ ln, ln = L.length := ⟨_, rfl⟩
    have hm2 := Lib.hid hm1r
    have hcok' := Lib.hid hcok
    have hln' := Lib.hid hln
    unfold Ak.row at hdo
    have hdo' := Lib.hid hdo
    clear hdo hm1 hm1r hcsx hcok hln hcs'
    go_wp2_with fail
    refine hdo'.out.mono ?_
    rintro e w11 ⟨ea, ec, rfl, _, _, hSn, hO⟩
    rw [← hln'.out]
    have hX11 := hO.row hX10 hgs
    have hS2n := hS2.off hS n1.symm n2.symm hO
    have hEb := (Ext.refl w11).alloc (.cells #[.int .i64 0, .bool Y, .slice ea ln ec] 32)
    obtain ⟨y0, y1, y2, y3, y4, y5, y6, y7⟩ := askc (hEb.row hX11)
    replace hSn := hSn.ext hEb
    replace hS2n := hS2n.ext hEb
    have hE12 := hE.trans hSn.ground
    have hchk := check_any (w11.alloc (.cells #[.int .i64 0, .bool Y, .slice ea ln ec] 32)) x ca cc (hC'.out.ext hE12) hs
    rw [← hB'.out] at hchk
    unfold Ak.row at hchk
    have hchk' := Lib.hid hchk
    have hS' := Lib.hid hSn
    have hS2' := Lib.hid hS2n
    clear hchk hS hS2 hO hSn hS2n hX11 hX10 hX hdo' z0 z1 z2 z3 z4 z5 z6 z7 hEb hE12
    go_wp2_with fail
    refine hchk'.out.mono ?_
    rintro e w12 ⟨rfl, hE13⟩
    have hS := hS'.out.ext hE13
    have hS2 := hS2'.out.ext hE13
    clear hchk' hS' hS2' hE13 y0 y1 y2 y3 y4 y5 y6 y7
    have hQs : smallR (chsW R cs) := chsW_small hRk'.out hcok'.out
    have hQl : (chsW R cs).length ≤ 50000 := by have := chsW_length cs R; omega
    have hcsl := hdn'.out
    by_cases h0 : 0 < dn
    · have h0i : (0 : Int) < (dn : Int) := by omega
      have hD12 := hD'.out.ext hS.ground
      rw [hcsl] at hD12
      have hCh : ChsAt w12 cs da dc := ⟨hD12, by omega, fun d hd => ch_small_ok (hcok'.out d hd)⟩
      have hyes := yes_b (c := 8) (n := 1) hS2 hRk'.out (show R.length ≤ 50000 by omega) hCh (askBatch_small cs) (ans_ok (m := ⟨R, zSd⟩) (c := 8) (n := 1) (by decide) (by decide) (by rw [ok_batch]; simp only [Bool.and_eq_true, decide_eq_true_eq]; exact ⟨by omega, hc16, List.all_eq_true.2 hcok'.out⟩) (by rw [num_zSd]; decide)) (b := true) rfl (ci := 8) (ni := 1) (v := (askBatch cs).row (.slice da cs.length dc)) rfl rfl rfl
      obtain ⟨m3, hm3⟩ : ∃ m3, m3 = (⟨R, zSd⟩ : Md).act 8 1 (askBatch cs) := ⟨_, rfl⟩
      rw [← hm3] at hyes
      have hm3r : m3.rows = chsW R cs := by rw [hm3]; rfl
      have hm4 := Lib.hid hm3r
      unfold askBatch Ak.row at hyes
      simp only at hyes
      rw [← hcsl] at hyes
      have hyes' := Lib.hid hyes
      have hS' := Lib.hid hS
      clear hyes hm3 hm3r hD12 hCh hcsl
      go_wp2_with fail
      refine hyes'.out.mono ?_
      rintro e w13 ⟨rfl, hS3, hO⟩
      have hS4 := Lib.hid (hS'.out.off hS2 n1 n2 hO)
      have hS5 := Lib.hid hS3
      clear hS' hS2 hS3 hO hyes'
      obtain ⟨Q, hQ⟩ : ∃ Q, Q = chsW R cs := ⟨_, rfl⟩
      have e1 := hm2.out
      have e2 := hm4.out
      rw [← hQ] at e1 e2 hQs hQl
      have hr1 := rowsM_any hS4.out (by rw [e1]; exact hQs) (by rw [e1]; exact hQl)
      rw [e1] at hr1
      have hr1' := Lib.hid hr1
      have e2' := Lib.hid e2
      have hEE := hS4.out.ground
      clear hr1 hQ e1 e2
      go_wp2_with fail
      refine hr1'.out.mono ?_
      rintro e w14 ⟨pa, pc, rfl, _, hown, hE14⟩
      have hr2 := rowsM_any (hS5.out.ext hE14) (by rw [e2'.out]; exact hQs) (by rw [e2'.out]; exact hQl)
      rw [e2'.out] at hr2
      have hr2' := Lib.hid hr2
      have hR1 := Lib.hid (RowIs.of_own hown)
      clear hr1' hr2 hown
      go_wp2_with fail
      refine hr2'.out.mono ?_
      rintro e w15 ⟨qa, qc, rfl, _, hown, hE15⟩
      have hq := srows_any w15 Q Q pa qa pc qc (hR1.out.ext hE15) (RowIs.of_own hown)
      rw [decide_eq_true rfl] at hq
      have hq' := Lib.hid hq
      clear hq hown hR1 hr2'
      go_wp2_with fail
      refine hq'.out.mono ?_
      rintro e w16 ⟨rfl, hE16⟩
      go_wp2_with fail
      go_ret
      exact ⟨rfl, hE.trans (hEE.trans (hE14.trans (hE15.trans hE16)))⟩
    · have h0i : ¬ (0 : Int) < (dn : Int) := by omega
      have hcs0 : cs = [] := List.eq_nil_of_length_eq_zero (by omega)
      have hm4 : Hid ((⟨R, zSd⟩ : Md).rows = chsW R cs) := Lib.hid (by rw [hcs0]; rfl)
      have hS4 := Lib.hid hS
      have hS5 := Lib.hid hS2
      clear hS hS2 hcsl hcs0
      obtain ⟨Q, hQ⟩ : ∃ Q, Q = chsW R cs := ⟨_, rfl⟩
      have e1 := hm2.out
      have e2 := hm4.out
      rw [← hQ] at e1 e2 hQs hQl
      have hr1 := rowsM_any hS4.out (by rw [e1]; exact hQs) (by rw [e1]; exact hQl)
      rw [e1] at hr1
      have hr1' := Lib.hid hr1
      have e2' := Lib.hid e2
      have hEE := hS4.out.ground
      clear hr1 hQ e1 e2
      go_wp2_with fail
      refine hr1'.out.mono ?_
      rintro e w14 ⟨pa, pc, rfl, _, hown, hE14⟩
      have hr2 := rowsM_any (hS5.out.ext hE14) (by rw [e2'.out]; exact hQs) (by rw [e2'.out]; exact hQl)
      rw [e2'.out] at hr2
      have hr2' := Lib.hid hr2
      have hR1 := Lib.hid (RowIs.of_own hown)
      clear hr1' hr2 hown
      go_wp2_with fail
      refine hr2'.out.mono ?_
      rintro e w15 ⟨qa, qc, rfl, _, hown, hE15⟩
      have hq := srows_any w15 Q Q pa qa pc qc (hR1.out.ext hE15) (RowIs.of_own hown)
      rw [decide_eq_true rfl] at hq
      have hq' := Lib.hid hq
      clear hq hown hR1 hr2'
      go_wp2_with fail
      refine hq'.out.mono ?_
      rintro e w16 ⟨rfl, hE16⟩
      go_wp2_with fail
      go_ret
      exact ⟨rfl, hE.trans (hEE.trans (hE14.trans (hE15.trans hE16)))⟩
end Go.Proofs.Ytmjoaiepfipmaaa
