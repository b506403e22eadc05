/- The law ModelsBatch. No condition. -/
import Derived.Test.YtmjoaiepfipmaaaLMA
import Derived.Deep.RegionHeld3
import Derived.Deep.CutRange
namespace Go.Proofs.Ytmjoaiepfipmaaa
open Go.RowKit
set_option maxRecDepth 100000
set_option maxHeartbeats 4000000
theorem alive_end (w w2 : World) (hE : Ext w w2) : Calls Try.prog 16 #[] w2 fun e w' => e = .returned (.bool true) ∧ Ext w w' := (alive_any w2).mono fun _ _ h => ⟨h.1, hE.trans h.2⟩
theorem modelsBatch_walk (w : World) (v : Value) (o0 : ∃ n, OKC Try.prog w n 46 [v]) (v1 : Value) (o1 : ∃ n, OKC Try.prog w n 24 [v1]) :
    Calls Try.prog 11 #[v, v1] w fun e w' => e = .returned (.bool true) ∧ Ext w w' := by
  obtain ⟨l, a, cap, rfl, hg, h1, hll⟩ := okc_acts o0
  obtain ⟨n1, o1⟩ := o1
  obtain ⟨c, b, cap2, hv, hC⟩ := okc_chs o1
  obtain rfl : v1 = .slice b c.length cap2 := by simpa using hv
  have hg' := Lib.hid hg
  have h1' := Lib.hid h1
  have hC' := Lib.hid hC
  have hcl : c.length ≤ 140737488351232 := by have := hC.2.1; omega
  clear o0 o1 hg h1 hC hv
  go_enter Try.func11, Try.ntmps11
  go_wp2_with fail
  refine (alive_any w).mono ?_
  rintro e w1 ⟨rfl, hE1⟩
  go_wp2_with fail
  refine (great_any w1 l a cap (fun x hx => (hg'.out x hx).ext hE1) hll (h1'.out.ext hE1)).mono ?_
  rintro e w2 ⟨rfl, hE2⟩
  replace hE2 := hE1.trans hE2
  clear hE1
  cases hm : greatB l
  case true =>
    go_wp2_with fail
    refine (alive_end w w2 hE2).mono ?_
    rintro e w3 ⟨rfl, hE3⟩
    go_wp2_with fail
    go_ret
    exact ⟨rfl, hE3⟩
  have hl150 := great_len hm
  have hm' := Lib.hid hm
  clear hm
  by_cases h16 : 16 < c.length
  · have h16i : (16 : Int) < (c.length : Int) := by omega
    go_wp2_with fail
    refine (alive_end w w2 hE2).mono ?_
    rintro e w3 ⟨rfl, hE3⟩
    go_wp2_with fail
    go_ret
    exact ⟨rfl, hE3⟩
  have h16i : ¬ (16 : Int) < (c.length : Int) := by omega
  go_wp2_with fail
  refine (csize_any w2 c b cap2 hC'.out.2.2 hcl (hC'.out.1.ext hE2)).mono ?_
  generalize cszAux c.length c = S
  rintro e w3 ⟨rfl, hE3⟩
  replace hE3 := hE2.trans hE3
  clear hE2
  by_cases h8 : 8000 < S
  · have h8i : (8000 : Int) < (S : Int) := by omega
    go_wp2_with fail
    refine (alive_end w w3 hE3).mono ?_
    rintro e w4 ⟨rfl, hE4⟩
    go_wp2_with fail
    go_ret
    exact ⟨rfl, hE4⟩
  have h8i : ¬ (8000 : Int) < (S : Int) := by omega
  have h8d : decide ((8000 : Int) < (S : Int)) = false := decide_eq_false h8i
  go_wp2_with fail
  have hX := heap_alloc_new w3 (.cells ((askBatch c).row (.slice b c.length cap2)) 26)
  have hX3 := (Ext.refl w3).alloc (.cells ((askBatch c).row (.slice b c.length cap2)) 26)
  replace hE3 := hE3.trans hX3
  unfold askBatch Ak.row at hX hX3 hE3
  simp only at hX hX3 hE3
  clear hX3
  generalize w3.alloc _ = w4 at *
  generalize w3.heap.size = g at *
  replace hX : w4.heap[g]? = some (.cells ((askBatch c).row (.slice b c.length cap2)) 26 (0, 0)) := hX
  refine (done_any w4 l a cap (fun x hx => (hg'.out x hx).ext hE3) (by omega) (h1'.out.ext hE3)).mono ?_
  rintro e w5 ⟨st0, mb0, rfl, hS0⟩
  obtain ⟨R, hR⟩ : ∃ R, R = (doneM l).rows := ⟨_, rfl⟩
  have hRs := sortS hS0 hR
  have hRk : smallR R := by rw [hR]; exact done_small l
  have hRl : R.length ≤ 2400 := by rw [hR]; have := done_length l; omega
  have hrows := rowsM_any hS0 (by rw [← hR]; exact hRk) (by rw [← hR]; omega)
  rw [← hR] at hrows
  have hR' := Lib.hid hR
  have hE5 := hE3.trans hS0.ground
  replace hX := hS0.ground.row hX
  have hrows' := Lib.hid hrows
  have hRs' := Lib.hid hRs
  have hRk' := Lib.hid hRk
  clear hS0 hrows hE3 hR hRs hRk
  go_wp2_with fail
  refine hrows'.out.mono ?_
  clear hrows'
  rintro e w6 ⟨ra, rc, rfl, _, hown, hE6⟩
  have hmk := mk_rows w6 R ra rc (RowIs.of_own hown) (by omega) hRs'.out hRk'.out
  replace hE5 := hE5.trans hE6
  replace hX := hE6.row hX
  have hmk' := Lib.hid hmk
  clear hown hmk hE6
  go_wp2_with fail
  refine hmk'.out.mono ?_
  clear hmk'
  rintro e w7 ⟨st, mb, rfl, hS⟩
  have hgs : g < st ∧ g < mb := by
    have := (Array.getElem?_eq_some_iff.1 hX).1
    have := hS.at
    omega
  replace hX := hS.ground.row hX
  have hE7 := hE5.trans hS.ground
  replace hS := hS.past hE5
  clear hE5
  have hS' := Lib.hid hS
  clear hS
  go_wp2_with fail
  refine (done_any w7 l a cap (fun x hx => (hg'.out x hx).ext hE7) (by omega) (h1'.out.ext hE7)).mono ?_
  rintro e w8 ⟨st0', mb0', rfl, hS0⟩
  have hrows := rowsM_any hS0 (by rw [← hR'.out]; exact hRk'.out) (by rw [← hR'.out]; omega)
  rw [← hR'.out] at hrows
  have hE8 := hS0.ground
  have hrows' := Lib.hid hrows
  clear hS0 hrows
  go_wp2_with fail
  refine hrows'.out.mono ?_
  clear hrows'
  rintro e w9 ⟨rb, rd, rfl, _, hown, hE9⟩
  have hmk := mk_rows w9 R rb rd (RowIs.of_own hown) (by omega) hRs'.out hRk'.out
  replace hE9 := hE8.trans hE9
  have hmk' := Lib.hid hmk
  clear hown hmk hE8
  go_wp2_with fail
  refine hmk'.out.mono ?_
  clear hmk'
  rintro e w10 ⟨st2, mb2, rfl, hS2⟩
  have hgs2 : g < st2 ∧ g < mb2 := by
    have := (Array.getElem?_eq_some_iff.1 hX).1
    have := hE9.size
    have := hS2.at
    omega
  obtain ⟨n1, n2⟩ := hS'.out.apart hS2 hE9.size
  have hE10 := hE9.trans hS2.ground
  have hS := hS'.out.ext hE10
  replace hX := hE10.row hX
  replace hS2 := hS2.past (hE7.trans hE9)
  clear hS' hE9 hE10 hE7
  have hE10 := hS.ground
  have hxc := askc hX
  have hS' := Lib.hid hS
  have hS2' := Lib.hid hS2
  have hX' := Lib.hid hX
  clear hS hS2 hX
  obtain ⟨x0, x1, x2, x3, x4, x5, x6, x7⟩ := hxc
  simp only [askBatch] at x0 x1 x2 x3 x4 x5 x6 x7
  obtain ⟨B, hB⟩ : ∃ B, B = (askBatch c).okB := ⟨_, rfl⟩
  have hB' := Lib.hid hB
  clear hB
  have hng : ¬ (g = st ∨ g = mb) := by omega
  cases B
  case false =>
    have hdo := do_b (n := 1) hS'.out hRk'.out (show R.length ≤ 50000 by omega) (hC'.out.ext hE10) (askBatch_small c) (ans_bad (m := ⟨R, zSd⟩) (.inr (.inr (.inr hB'.out.symm)))) (ci := 1) (ni := 1) (c := 1) (v := (askBatch c).row (.slice b c.length cap2)) rfl rfl rfl
    have hdo' := Lib.hid hdo
    clear hdo
    go_wp2_with fail
    refine hdo'.out.mono ?_
    rintro e w11 ⟨da, dc, rfl, _, _, hS, hO⟩
    have hX11 := hO.row hX'.out hng
    have hE11 := hS.ground
    have hxc := askc (((Ext.refl w11).alloc (.cells #[.int .i64 0, .bool false, .slice da 0 dc] 32)).row hX11)
    have hE12 := hE11.trans ((Ext.refl w11).alloc (.cells #[.int .i64 0, .bool false, .slice da 0 dc] 32))
    simp only [askBatch] at hxc
    obtain ⟨y0, y1, y2, y3, y4, y5, y6, y7⟩ := hxc
    clear hS hO hX11 hX' hS' hS2' hdo' x0 x1 x2 x3 x4 x5 x6 x7 hE10 hE11
    have hchk := check_any (w11.alloc (.cells #[.int .i64 0, .bool false, .slice da 0 dc] 32)) (askBatch c) b cap2 (hC'.out.ext hE12) (askBatch_small c)
    rw [← hB'.out] at hchk
    have hchk' := Lib.hid hchk
    clear hchk
    go_wp2_with fail
    refine hchk'.out.mono ?_
    rintro e w12 ⟨rfl, hE13⟩
    go_wp2_with fail
    go_ret
    exact ⟨rfl, hE12.trans hE13⟩
  case true =>
    have hall : ∀ d ∈ c, d.okB = true := by
      have := hB'.out.symm
      rw [ok_batch] at this
      simp only [Bool.and_eq_true] at this
      exact List.all_eq_true.1 this.2.2
    have hdo := do_b (n := 1) hS'.out hRk'.out (show R.length ≤ 50000 by omega) (hC'.out.ext hE10) (askBatch_small c) (ans_ok (m := ⟨R, zSd⟩) (c := 1) (n := 1) (by decide) (by decide) hB'.out.symm (by rw [num_zSd]; decide)) (ci := 1) (ni := 1) (v := (askBatch c).row (.slice b c.length cap2)) rfl rfl rfl
    rw [show yesW (⟨R, zSd⟩ : Md).rows (askBatch c) = true from rfl, show rowsW (⟨R, zSd⟩ : Md).rows (askBatch c) = [] from rfl] at hdo
    obtain ⟨m1, hm1⟩ : ∃ m1, m1 = (⟨R, zSd⟩ : Md).act 1 1 (askBatch c) := ⟨_, rfl⟩
    rw [← hm1] at hdo
    have hm1r : m1.rows = chsW R c := by rw [hm1]; rfl
    have hm2 := Lib.hid hm1r
    have hall' := Lib.hid hall
    have hdo' := Lib.hid hdo
    clear hdo hm1 hm1r hall
    go_wp2_with fail
    refine hdo'.out.mono ?_
    rintro e w11 ⟨da, dc, rfl, _, _, hS, hO⟩
    have hX11 := hO.row hX'.out hng
    have hS2 := hS2'.out.off hS'.out n1.symm n2.symm hO
    have hEb := (Ext.refl w11).alloc (.cells #[.int .i64 0, .bool true, .slice da 0 dc] 32)
    have hxc := askc (hEb.row hX11)
    have hE12 := hS.ground.trans hEb
    simp only [askBatch] at hxc
    obtain ⟨y0, y1, y2, y3, y4, y5, y6, y7⟩ := hxc
    replace hS := hS.ext hEb
    replace hS2 := hS2.ext hEb
    clear hO hX11 hX' hS' hS2' hdo' x0 x1 x2 x3 x4 x5 x6 x7 hE10 hEb
    have hchk := check_any (w11.alloc (.cells #[.int .i64 0, .bool true, .slice da 0 dc] 32)) (askBatch c) b cap2 (hC'.out.ext hE12) (askBatch_small c)
    rw [← hB'.out] at hchk
    have hchk' := Lib.hid hchk
    have hS3 := Lib.hid hS
    have hS4 := Lib.hid hS2
    clear hchk hS hS2
    go_wp2_with fail
    refine hchk'.out.mono ?_
    rintro e w12 ⟨rfl, hE13⟩
    have hS := hS3.out.ext hE13
    have hS2 := hS4.out.ext hE13
    clear hchk' hS3 hS4 y0 y1 y2 y3 y4 y5 y6 y7 hE12 hE13
    go_wp2_with fail
    go_loopw [12] (fun i wr => ∃ (k : Nat) (m2 : Md), k ≤ c.length ∧ i = .int .i64 k ∧ StM w wr st mb m1 ∧ StM w wr st2 mb2 m2 ∧ Hid (m2.rows = chsW R (c.take k)) ∧ Hid (m2.num 2 = k)) (fun i _ => c.length - (intOf i).toNat)
    case atStart => exact ⟨0, _, by omega, rfl, hS, hS2, Lib.hid rfl, Lib.hid (num_zSd _ _)⟩
    case round =>
      clear hS hS2
      obtain ⟨k, m2, hk, rfl, hS, hS2, hmr, hmn⟩ := hrel
      by_cases hlt : k < c.length
      · have hli : (k : Int) < (c.length : Int) := by omega
        obtain ⟨d, hd⟩ : ∃ d, c[k]? = some d := ⟨_, List.getElem?_eq_getElem hlt⟩
        have hdm := List.mem_of_getElem? hd
        have hdok := hall'.out d hdm
        obtain ⟨hdk, hdv⟩ := ch_ok hdok
        have hds := ch_small_ok hdok
        have hEr := hS.ground
        obtain ⟨b1, off, hat⟩ := (hC'.out.1).at
        obtain ⟨rfl, _, hdd⟩ := hat (by omega)
        have hrg := ch_range hdd hd
        have hcr : ∀ w', Ext w w' → w'.cell? ⟨b1, off + k * 3, none⟩ = some (.string d.key) ∧ w'.cell? ⟨b1, off + k * 3 + 1, none⟩ = some (.string d.val) ∧ w'.cell? ⟨b1, off + k * 3 + 2, none⟩ = some (.bool d.gone) := fun w' he => ⟨he.cell (hrg 0 _ rfl), he.cell (hrg 1 _ rfl), he.cell (hrg 2 _ rfl)⟩
        have htk := Lib.hid (chsW_take (l := R) hd)
        have hcr' := Lib.hid hcr
        obtain ⟨q0, q1, q2⟩ := hcr _ hEr
        have hSS : ∀ w', Ext wr w' → Ext wr w' ∧ w'.cell? ⟨b1, off + k * 3, none⟩ = some (.string d.key) ∧ w'.cell? ⟨b1, off + k * 3 + 1, none⟩ = some (.string d.val) := fun w' he => ⟨he, he.cell q0, he.cell q1⟩
        have hSS' := Lib.hid hSS
        have hS' := Lib.hid hS
        have hS2' := Lib.hid hS2
        clear hat hdd hrg hcr hd hdm hSS q0 q1 q2 hS hS2
        go_upto_region 14 with fail
        go_cut [13] from 66 to 104 (fun p wx => ∃ g2 : Nat, p = .pointer (some ⟨g2, 0, none⟩) ∧ wr.heap.size ≤ g2 ∧ wx.heap[g2]? = some (.cells (askPut d.key d.val).nil 26 (0, 0)) ∧ Ext wr wx)
        case first =>
          go_region_held3 (fun w' => Ext wr w' ∧ w'.cell? ⟨b1, off + k * 3, none⟩ = some (.string d.key) ∧ w'.cell? ⟨b1, off + k * 3 + 1, none⟩ = some (.string d.val)) ((refine hSS'.out _ ?_; first | exact (Ext.refl _).drew | exact ((Ext.refl _).alloc _).drew | assumption | (go_split_ands; assumption) | (refine Ext.alloc ?_ _; go_split_ands; assumption) | (refine Ext.trans ?_ (by assumption); go_split_ands; assumption) | (refine Ext.trans (Ext.alloc ?_ _) (by assumption); go_split_ands; assumption))) (first | (go_at_call 26; refine (put_mk _ d.key d.val).mono ?_; rintro e w3 ⟨rfl, hE3⟩; have hw3 := le_thru (by go_split_ands; assumption) hE3; first | have hb := hE3.row ((Ext.refl _).drew.row (heap_alloc_new wr (.cells zAk 26))) | skip) | (obtain ⟨W', e1, hE', hb'⟩ := st_ask (wr := wr) (heap_alloc_new w3 (.cells zAk 26)) (by go_split_ands; assumption) hw3 (askPut d.key d.val) none 0 0; rw [show (#[.int .u8 0, .string ⟨#[]⟩, .string ⟨#[]⟩, .string ⟨#[]⟩, .bool false, .string ⟨#[]⟩, .int .i64 0, .slice none 0 0] : Array Value) = zAk from rfl]; first | rw [e1] | rw [show (askPut d.key d.val).nil = (askPut d.key d.val).row (.slice none 0 0) from rfl, e1]; go_simp) | (obtain ⟨W', e1, hE', hb'⟩ := st_ask (wr := wr) hb (by go_split_ands; assumption) (Nat.le_refl _) (askPut d.key d.val) none 0 0; first | rw [e1] | rw [show (askPut d.key d.val).nil = (askPut d.key d.val).row (.slice none 0 0) from rfl, e1]; go_simp) | fail)
          all_goals go_wp2_with fail
          all_goals go_meet
          all_goals first | exact ⟨_, rfl, hw3, hb', hE'⟩ | exact ⟨_, rfl, Nat.le_refl _, hb', hE'⟩
        case rest =>
        obtain ⟨g2, rfl, hg2, hb2, hEc⟩ := hcut
        have hbd : m2.rows.length ≤ 50000 := by
          rw [hmr.out]
          have := chsW_length (c.take k) R
          rw [List.length_take] at this
          omega
        have hsm2 : smallR m2.rows := by
          rw [hmr.out]
          exact chsW_small hRk'.out (fun x hx => hall'.out x (List.mem_of_mem_take hx))
        have hsm3 := Lib.hid hsm2
        clear hsm2
        cases hgd : d.gone
        · have hSc := hS'.out.ext hEc
          have hS2c := hS2'.out.ext hEc
          obtain ⟨_, _, q2⟩ := hcr'.out _ (hEr.trans hEc)
          rw [hgd] at q2
          obtain ⟨x0, x1, x2, x3, x4, x5, x6, x7⟩ := askc (x := askPut d.key d.val) (u := .slice none 0 0) hb2
          simp only [askPut] at x0 x1 x2 x3 x4 x5 x6 x7
          have hdo := do_b (n := k + 1) hS2c hsm3.out hbd (chs_nil wc) (askPut_small hds.1 hds.2) (ans_ok (m := m2) (c := 2) (n := k + 1) (x := askPut d.key d.val) (by decide) (by decide) (by rw [ok_put, hdk, hdv]; rfl) (by rw [hmn.out]; omega)) (ci := 2) (ni := (k : Int) + 1) (v := (askPut d.key d.val).nil) rfl (by omega) rfl
          obtain ⟨m3, hm3⟩ : ∃ m3, m3 = m2.act 2 (k + 1) (askPut d.key d.val) := ⟨_, rfl⟩
          rw [← hm3, show rowsW m2.rows (askPut d.key d.val) = [] from rfl, show yesW m2.rows (askPut d.key d.val) = true from rfl] at hdo
          have hm3r : m3.rows = chsW R (c.take (k + 1)) := by
            rw [hm3, htk.out, ← hmr.out]
            show chW m2.rows ⟨d.key, d.val, false⟩ = chW m2.rows d
            unfold chW
            rw [hgd]
          have hm3n : m3.num 2 = k + 1 := by rw [hm3, act_kept (kept_of (.inl rfl)), num_set (by rw [hS2c.len]; decide)]
          have hm4 := Lib.hid hm3r
          have hm5 := Lib.hid hm3n
          have hdo' := Lib.hid hdo
          have hSd := Lib.hid hSc
          have hS2d := Lib.hid hS2c
          have hgd' := Lib.hid hgd
          clear hdo hm3 hm3r hm3n hSc hS2c hS' hS2' hSS' hcr' hb2 hgd htk hmr hmn
          unfold Ak.nil Ak.row askPut at hdo'
          simp only at hdo'
          go_wp2_with fail
          refine hdo'.out.mono ?_
          rintro e w13 ⟨ea, ec, rfl, _, _, hS2n, hO⟩
          have hSn := hSd.out.off hS2d.out n1 n2 hO
          have hEb := (Ext.refl w13).alloc (.cells #[.int .i64 0, .bool true, .slice ea 0 ec] 32)
          replace hSn := hSn.ext hEb
          replace hS2n := hS2n.ext hEb
          clear hO x0 x1 x2 x3 x4 x5 x6 x7 q2 hdo' hSd hS2d hEb
          have hfin := Lib.hid (And.intro hSn hS2n)
          clear hSn hS2n
          go_wp2_with fail
          go_roundw
          case rel => exact ⟨k + 1, m3, by omega, by go_num, hfin.out.1, hfin.out.2, hm4.out, hm5.out⟩
          case measure => simp [intOf]; omega
        · obtain ⟨_, _, q2⟩ := hcr'.out _ (hEr.trans hEc)
          obtain ⟨q0, _, _⟩ := hcr'.out _ (hEr.trans hEc)
          rw [hgd] at q2
          have hgd' := Lib.hid hgd
          have hb3 := Lib.hid hb2
          clear hgd hb2
          go_upto_region 16 with fail
          go_wp2_with fail
          refine (del_mk wc d.key).mono ?_
          rintro e w14 ⟨rfl, hE14⟩
          have hb4 := hE14.row hb3.out
          have hX15 : Ext wr (w14.setRow g2 (askDel d.key).nil) := (hEc.trans hE14).setRow hg2 _
          have hb5 : (w14.setRow g2 (askDel d.key).nil).heap[g2]? = some (.cells (askDel d.key).nil 26 (0, 0)) := by rw [setRow_heap _ _ _ _ _ _ hb4]
          clear hb3 q0 q2
          go_upto_region 17 with (first | (refine wpList_store_row (by rfl) 26 (.tmp 13) (.tmp 93) (by rfl) g2 (askDel d.key).nil (by rfl) (by rfl) 26 (askPut d.key d.val).nil hb4 (by exact info_ask) (by rfl) (ask_one _ _ _ _) ?_) | fail)
          clear hb4
          generalize w14.setRow g2 (askDel d.key).nil = w15 at *
          have hSc := hS'.out.ext hX15
          have hS2c := hS2'.out.ext hX15
          obtain ⟨x0, x1, x2, x3, x4, x5, x6, x7⟩ := askc (x := askDel d.key) (u := .slice none 0 0) hb5
          simp only [askDel] at x0 x1 x2 x3 x4 x5 x6 x7
          have hdo := do_b (n := k + 1) hS2c hsm3.out hbd (chs_nil w15) (askDel_small hds.1) (ans_ok (m := m2) (c := 2) (n := k + 1) (x := askDel d.key) (by decide) (by decide) (by rw [ok_del, hdk]) (by rw [hmn.out]; omega)) (ci := 2) (ni := (k : Int) + 1) (v := (askDel d.key).nil) rfl (by omega) rfl
          obtain ⟨m3, hm3⟩ : ∃ m3, m3 = m2.act 2 (k + 1) (askDel d.key) := ⟨_, rfl⟩
          obtain ⟨yd, hyd⟩ : ∃ yd, yd = yesW m2.rows (askDel d.key) := ⟨_, rfl⟩
          rw [← hm3, ← hyd, show rowsW m2.rows (askDel d.key) = [] from rfl] at hdo
          have hm3r : m3.rows = chsW R (c.take (k + 1)) := by
            rw [hm3, htk.out, ← hmr.out]
            show chW m2.rows ⟨d.key, ⟨#[]⟩, true⟩ = chW m2.rows d
            unfold chW
            rw [hgd'.out]; rfl
          have hm3n : m3.num 2 = k + 1 := by rw [hm3, act_kept (kept_of (.inr (.inl rfl))), num_set (by rw [hS2c.len]; decide)]
          have hm4 := Lib.hid hm3r
          have hm5 := Lib.hid hm3n
          have hdo' := Lib.hid hdo
          have hSd := Lib.hid hSc
          have hS2d := Lib.hid hS2c
          clear hdo hm3 hm3r hm3n hSc hS2c hS' hS2' hSS' hcr' hb5 htk hmr hmn hyd hgd'
          unfold Ak.nil Ak.row askDel at hdo'
          simp only at hdo'
          go_wp2_with fail
          refine hdo'.out.mono ?_
          rintro e w16 ⟨ea, ec, rfl, _, _, hS2n, hO⟩
          have hSn := hSd.out.off hS2d.out n1 n2 hO
          have hEb := (Ext.refl w16).alloc (.cells #[.int .i64 0, .bool yd, .slice ea 0 ec] 32)
          replace hSn := hSn.ext hEb
          replace hS2n := hS2n.ext hEb
          clear hO x0 x1 x2 x3 x4 x5 x6 x7 hdo' hSd hS2d hEb
          have hfin := Lib.hid (And.intro hSn hS2n)
          clear hSn hS2n
          go_wp2_with fail
          go_roundw
          case rel => exact ⟨k + 1, m3, by omega, by go_num, hfin.out.1, hfin.out.2, hm4.out, hm5.out⟩
          case measure => simp [intOf]; omega
      · have hli : ¬ (k : Int) < (c.length : Int) := by omega
        have hkl : c.take k = c := List.take_of_length_le (by omega)
        have hQs : smallR (chsW R c) := chsW_small hRk'.out hall'.out
        have hQl : (chsW R c).length ≤ 50000 := by have := chsW_length c R; omega
        have e1 := hm2.out
        have e2 := hmr.out
        rw [hkl] at e2
        obtain ⟨Q, hQ⟩ : ∃ Q, Q = chsW R c := ⟨_, rfl⟩
        rw [← hQ] at e1 e2 hQs hQl
        have hr1 := rowsM_any hS (by rw [e1]; exact hQs) (by rw [e1]; exact hQl)
        rw [e1] at hr1
        have hr1' := Lib.hid hr1
        have hS2' := Lib.hid hS2
        have hE := hS.ground
        have e2' := Lib.hid e2
        clear hr1 hS hS2 hkl hmr hmn hm2 hQ e1 e2
        go_wp2_with fail
        refine hr1'.out.mono ?_
        rintro e w13 ⟨pa, pc, rfl, _, hown, hE13⟩
        have hr2 := rowsM_any (hS2'.out.ext hE13) (by rw [e2'.out]; exact hQs) (by rw [e2'.out]; exact hQl)
        rw [e2'.out] at hr2
        have hr2' := Lib.hid hr2
        have hR1 := Lib.hid (RowIs.of_own hown)
        clear hr1' hr2 hown
        go_wp2_with fail
        refine hr2'.out.mono ?_
        rintro e w14 ⟨qa, qc, rfl, _, hown, hE14⟩
        have hq := srows_any w14 Q Q pa qa pc qc (hR1.out.ext hE14) (RowIs.of_own hown)
        rw [decide_eq_true rfl] at hq
        have hq' := Lib.hid hq
        clear hq hown hR1 hr2'
        go_wp2_with fail
        refine hq'.out.mono ?_
        rintro e w15 ⟨rfl, hE15⟩
        go_wp2_with fail
        go_ret
        exact ⟨rfl, hE.trans (hE13.trans (hE14.trans hE15))⟩
end Go.Proofs.Ytmjoaiepfipmaaa
