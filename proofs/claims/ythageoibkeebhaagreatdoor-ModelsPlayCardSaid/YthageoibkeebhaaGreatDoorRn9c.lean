/- The document's Do: an ask that looks; Do whole. (Printed by mkrn9.py.) No condition. -/
import Derived.Test.YthageoibkeebhaaGreatDoorRn9b
import Derived.Test.YthageoibkeebhaaGreatDoorRn9a
namespace Go.Proofs.YthageoibkeebhaaGreatDoor
open Go.RowKit
set_option maxRecDepth 100000
set_option maxHeartbeats 4000000
theorem doR_look {m : Md} {base st : Nat} {w : World} (hx0 : RefX base w st m.rows ((saidL m.sd).map toSa)) (c n : Nat) (x : Ak) (a : Option Addr) (cap : Nat) (hch : ChsAt w x.chs a cap) (hs : x.small) (h1 : 1 ≤ c) (h8 : c ≤ 8) (hn : n ≠ 0) (hok : x.okB = true) (hlen : m.sd.length = 9) (hlt : m.num c < n) (hg : smallR m.rows) (hso : sortR m.rows) (hrn : m.rows.length ≤ 50000) (hkp : ¬ keptP x) : Calls Tryz.prog 31 #[.pointer (some ⟨st, 0, none⟩), .int .u8 (c : Int), .int .u32 (n : Int), .agg (x.row (.slice a x.chs.length cap))] w (RDoE base w st ⟨0, yesW m.rows x, rowsW m.rows x, 0, m.act c n x⟩) := by
  have hX' := Lib.hid hx0
  obtain ⟨sd, h, hsd0⟩ := hx0
  have hsd := Lib.hid hsd0
  clear hsd0
  obtain ⟨V, hV⟩ : ∃ W, W = (w.alloc (.cells (x.row (.slice a x.chs.length cap)) 66)).alloc (.cells zRe 74) := ⟨_, rfl⟩
  have hE0 : Ext w V := by rw [hV]; exact ((Ext.refl _).alloc _).alloc _
  have hVs : w.heap.size + 2 ≤ V.heap.size := by rw [hV]; simp
  have hVx : Hid (V.heap[w.heap.size]? = some (.cells (x.row (.slice a x.chs.length cap)) 66 (0, 0))) := Lib.hid (by rw [hV]; exact ((Ext.refl _).alloc _).row (heap_alloc_new w _))
  have hVr : Hid (V.heap[w.heap.size + 1]? = some (.cells zRe 74 (0, 0))) := Lib.hid (by
    have h1 := heap_alloc_new (w.alloc (.cells (x.row (.slice a x.chs.length cap)) 66)) (.cells zRe 74)
    rw [show (w.alloc (.cells (x.row (.slice a x.chs.length cap)) 66)).heap.size = w.heap.size + 1 by simp] at h1
    rw [hV]; exact h1)
  have hck := Lib.hid (checkR_any V x a cap (hch.ext hE0) hs)
  have hch' := Lib.hid hch
  obtain ⟨N, hN⟩ : ∃ N, N = x.chs.length := ⟨_, rfl⟩
  rw [← hN] at hck hVx hV ⊢
  have hN' := Lib.hid hN
  have hrg := ask_rng hVx.out
  have h' := Lib.hid h
  have hV' := Lib.hid hV
  clear h hV hN hch
  have hlt' := Lib.hid hlt
  have hgs : Hid (∀ (k : Nat), (∀ r ∈ chsW m.rows ((chgX m.rows x).take k), r.key.size ≤ 140737488351232) ∧ (chsW m.rows ((chgX m.rows x).take k)).length ≤ 1000000) := Lib.hid (fun k => by
    have h0 := chg_ok (l := m.rows) hok
    have h1 : chgX m.rows x = chgW m.rows x := by unfold chgX; rw [if_pos hok]
    rw [h1]
    have h2 := chsW_small hg (fun c hc => h0.1 c (List.mem_of_mem_take (i := k) hc))
    have h3 := chsW_length ((chgW m.rows x).take k) m.rows
    rw [List.length_take] at h3
    exact ⟨fun r hr => by have := keyB_size (h2 r hr).1; omega, by omega⟩)
  have hcs : Hid (∀ c ∈ chgX m.rows x, c.key.size ≤ 140737488351232) := Lib.hid (fun c hc => by
    have h1 : chgX m.rows x = chgW m.rows x := by unfold chgX; rw [if_pos hok]
    rw [h1] at hc
    have h3 := (chg_ok (l := m.rows) hok).1 c hc
    unfold Ch.okB at h3
    rw [Bool.and_eq_true] at h3
    have := keyB_size h3.1
    omega)
  have hc16 : Hid ((chgX m.rows x).length ≤ 16) := Lib.hid (by unfold chgX; rw [if_pos hok]; exact (chg_ok (l := m.rows) hok).2)
  have hgw : Hid (chgX m.rows x = chgW m.rows x) := Lib.hid (by unfold chgX; rw [if_pos hok])
  have hkp' := Lib.hid hkp
  have hso' := Lib.hid hso
  have hrp : Hid (∀ W, Ext w W → Calls Tryz.prog 105 #[.pointer (some ⟨st, 0, none⟩), .agg (x.row (.slice a x.chs.length cap))] W (TwinE 0 (yesW m.rows x) (rowsW m.rows x) W)) := Lib.hid (fun W hE => replyR_look (h'.out.ext hE) x a x.chs.length cap hok hkp (by omega) (fun r hr => by have := keyB_size (hg r hr).1; omega) hs)
  have hrl : Hid ((rowsW m.rows x).length ≤ 1000000) := Lib.hid (by
    unfold rowsW
    split
    · cases findW m.rows x.key <;> simp
    · split
      · have := scanL_len x m.rows; omega
      · simp)
  have hcg : Hid (∀ W, Ext w W → Calls Tryz.prog 28 #[.pointer (some ⟨st, 0, none⟩), .agg (x.row (.slice a x.chs.length cap))] W (ChgO (chgX m.rows x) W)) := Lib.hid (fun W hE => changesR_any (h'.out.ext hE) x a cap (hch'.out.ext hE) hs)
  rw [hN'.out.symm] at hrp hcg
  unfold Ak.row at hrp hcg
  clear hlt hg hso hkp hs
  have i1 : ¬ (c : Int) < 1 := by omega
  have i2 : ¬ (8 : Int) < (c : Int) := by omega
  have i3 : ¬ (n : Int) = 0 := by omega
  have hok' := Lib.hid hok
  clear hok
  unfold Ak.row zRe at hV'
  unfold Ak.row at hrg
  unfold Ak.row
  go_enter Tryz.func31, Tryz.ntmps31
  go_upto_region 1 with fail
  rw [← hV'.out]
  clear hV'
  go_wp2_with (first | (refine wpList_load_mid_on (by rfl) 66 (.tmp 7) (by rfl) w.heap.size 0 (by rfl) (x.row (.slice a N cap)).toList _ hrg Tryz.underlying66 rfl (by rw [ask_ln]; exact ask_inf) ?_) | fail)
  refine hck.out.mono ?_
  rw [hok'.out]
  rintro e w1 ⟨rfl, hE1⟩
  clear hrg hck
  obtain ⟨S, hS0⟩ : ∃ S, S = saidL m.sd := ⟨_, rfl⟩
  have hS := Lib.hid hS0
  obtain ⟨M, hM0⟩ : ∃ M, M = S.length := ⟨_, rfl⟩
  have hM := Lib.hid hM0
  have hSm : Hid (sd.length = M) := Lib.hid (by have := congrArg List.length hsd.out; rw [List.length_map, List.length_map] at this; rw [this, hM0, hS0])
  have hM9 : M ≤ 9 := by
    rw [hM0, hS0]
    unfold saidL
    refine Nat.le_trans (List.length_filter_le _ _) ?_
    rw [List.length_zipIdx, hlen]
    omega
  have hsee := h'.out.sees
  rw [hSm.out] at hsee
  obtain ⟨_, _, sa, sc, hcel, _, hRs, _, hmc, hcx⟩ := hsee
  have hc' : Hid (∀ W, Ext w W → W.cell? ⟨st, 1, none⟩ = some (.slice sa M sc)) := Lib.hid (fun W hE => (hcel W hE).2.1)
  have hR' : Hid (∀ W, Ext w W → RowIs W 5 (.slice sa M sc) M (sd.flatMap Sa.cells)) := Lib.hid hRs
  clear hcel hRs hS0 hM0
  obtain ⟨kb, hkb⟩ : ∃ kb, kb = decide (keptP x) := ⟨_, rfl⟩
  have hkb' := Lib.hid hkb
  obtain ⟨x0, _⟩ := askc (hE1.row hVx.out)
  clear hkb
  go_upto_region 3 with fail
  obtain ⟨Y1, hY1⟩ : ∃ Y, Hid (w1 = Y) := ⟨w1, Lib.hid rfl⟩
  go_cut [10] from 32 to 39 (fun v wx => v = .bool kb ∧ Hid (wx = w1))
  case first =>
    by_cases k5 : x.kind = 5
    · have e1 : Hid (kb = false) := Lib.hid (by rw [hkb'.out]; exact decide_eq_false (fun h => h.1 k5))
      go_wp2_with fail
      go_meet
      exact ⟨by rw [e1.out], Lib.hid rfl⟩
    · by_cases k6 : x.kind = 6
      · have e1 : Hid (kb = false) := Lib.hid (by rw [hkb'.out]; exact decide_eq_false (fun h => h.2 k6))
        go_wp2_with fail
        go_meet
        exact ⟨by rw [e1.out], Lib.hid rfl⟩
      · have e1 : Hid (kb = true) := Lib.hid (by rw [hkb'.out]; exact decide_eq_true ⟨k5, k6⟩)
        go_wp2_with fail
        go_meet
        exact ⟨by rw [e1.out]; simp [k6], Lib.hid rfl⟩
  obtain ⟨rfl, hwc⟩ := hcut
  rw [hwc.out]
  clear hwc x0 hY1
  go_wp2_with fail
  go_loopw [11] (fun i wr => ∃ k : Nat, k ≤ M ∧ i = .int .i64 k ∧ Ext w1 wr) (fun i _ => M - (intOf i).toNat)
  case atStart => exact ⟨0, by omega, rfl, Ext.refl _⟩
  case round =>
    obtain ⟨k, hk, rfl, hE⟩ := hrel
    have hEw := (hE0.trans hE1).trans hE
    have c1 := hc'.out wr hEw
    by_cases hlt : k < M
    · have hli : (k : Int) < (M : Int) := by omega
      obtain ⟨y, hy⟩ : ∃ y, S[k]? = some y := ⟨_, List.getElem?_eq_getElem (by rw [← hM.out]; exact hlt)⟩
      obtain ⟨ob, oo, hat⟩ := (hR'.out wr hEw).at
      obtain ⟨rfl, _, hdy⟩ := hat (by omega)
      obtain ⟨z, hz, z1, z2, z3, z4, z5⟩ := sdb_at (by rw [hS.out]; exact hsd.out) hy
      have hrg := sas_range (x := z) (k := k) (by rw [hSm.out]; exact hdy) hz
      have hzo := h'.out.vals z (List.mem_of_getElem? hz)
      obtain ⟨va, vc, hzv, _⟩ := hzo.form
      rw [z5] at hzv hzo
      have hzr : Hid (∀ W, Ext w W → RowIs W 2 (.slice va 0 vc) 0 []) := Lib.hid (fun W hE => by have h3 := (hzo.ext hE).row; rw [hzv] at h3; exact h3)
      rw [sa_cells hzv] at hrg
      have z3' := Lib.hid z3
      have z4' := Lib.hid z4
      have hyn := said_num (m := m) (by rw [← hS.out]; exact List.mem_of_getElem? hy)
      have htk : S.take (k + 1) = S.take k ++ [y] := by rw [List.take_add_one, hy]; rfl
      obtain ⟨g, hg⟩ : ∃ g, g = wr.heap.size := ⟨_, rfl⟩
      obtain ⟨W5, hW5⟩ : ∃ W, W = wr.alloc (.cells (saRow z va 0 vc) 87) := ⟨_, rfl⟩
      have hr5 : W5.heap[g]? = some (.cells (saRow z va 0 vc) 87 (0, 0)) := by rw [hW5, hg]; exact heap_alloc_new wr _
      have hE5 : Ext wr W5 := by rw [hW5]; exact (Ext.refl _).alloc _
      have hW5' := Lib.hid hW5
      have hg' := Lib.hid hg
      have hyn' := Lib.hid hyn
      have htk' := Lib.hid htk
      obtain ⟨y0, y1, y2, y3, y4⟩ := sa_cs hr5
      have hrr := Lib.hid (sa_reply_range hr5)
      replace y0 : W5.cell? ⟨g, 0, none⟩ = some (.int .u8 (y.2 : Int)) := by rw [← z1]; exact y0
      replace y1 : W5.cell? ⟨g, 1, none⟩ = some (.int .u32 (y.1.num : Int)) := by rw [← z2]; exact y1
      clear hat hdy hy hW5 hg hyn htk hr5 z1 z2 z3 z4 z5 hz hzo hzv
      go_upto_region 8 with (first | (refine wpList_load_mid (by rfl) 87 (.tmp 54) (by rfl) ob (oo + k * 5) (by rfl) (saRow z va 0 vc).toList _ hrg Tryz.underlying87 rfl (by exact info_said) ?_) | (refine wpList_store_whole (by rfl) 87 (.tmp 12) (.tmp 55) (by rfl) wr _ (saRow z va 0 vc) wr.heap.size (by rfl) rfl (by rfl) (by exact info_said) (by rfl) (saRow_one _ _ _ _) ?_; rw [← hW5'.out, ← hg'.out]) | fail)
      clear c1 hrg
      have hEz := hE.trans hE5
      clear hrr
      by_cases hcl : y.2 = c
      · have hcli : (y.2 : Int) = (c : Int) := by omega
        have hnn : y.1.num < n := by have h3 := hyn'.out.2.2.1; rw [hcl] at h3; have := hlt'.out; omega
        have hl2 : (y.1.num : Int) < (n : Int) := by omega
        have hbc : ((y.2 : Int) != (c : Int)) = false := by rw [hcli]; simp
        clear hcl hcli hnn
        go_wp2_with fail
        go_roundw
        case rel => exact ⟨k + 1, by omega, by go_num, hEz⟩
        case measure => simp [intOf]; omega
      · have hcli : ¬ (y.2 : Int) = (c : Int) := by omega
        clear hcl
        go_wp2_with fail
        go_roundw
        case rel => exact ⟨k + 1, by omega, by go_num, hEz⟩
        case measure => simp [intOf]; omega
    · have hli : ¬ (k : Int) < (M : Int) := by omega
      have hX2 := (hE1.trans hE).row hVx.out
      have hrg := ask_rng hX2
      unfold Ak.row at hrg
      have hkbv : kb = false := by rw [hkb'.out]; exact decide_eq_false hkp'.out
      subst hkbv
      go_wp2_with (first | (refine wpList_load_mid (by rfl) 66 (.tmp 7) (by rfl) w.heap.size 0 (by rfl) (x.row (.slice a N cap)).toList _ hrg Tryz.underlying66 rfl (by rw [ask_ln]; exact ask_inf) ?_) | fail)
      refine (hrp.out wr hEw).mono ?_
      rintro e w3 ⟨ra, rc, rfl, hro, hE3⟩
      obtain ⟨rn, hrn0⟩ : ∃ rn, rn = (rowsW m.rows x).length := ⟨_, rfl⟩
      rw [← hrn0] at hro ⊢
      have hrn' := Lib.hid hrn0
      have hro' := Lib.hid hro
      clear hro hrn0
      obtain ⟨Y, hY⟩ : ∃ Y, Y = yesW m.rows x := ⟨_, rfl⟩
      rw [← hY]
      have hY' := Lib.hid hY
      have hE13 := (hE1.trans hE).trans hE3
      obtain ⟨g, hg0⟩ : ∃ g, g = w3.heap.size := ⟨_, rfl⟩
      obtain ⟨W4, hW4⟩ : ∃ W, W = w3.alloc (.cells #[.int .i64 0, .bool Y, .slice ra rn rc] 74) := ⟨_, rfl⟩
      have hg4 : W4.heap[g]? = some (.cells (reH 0 Y (.slice ra rn rc)) 74 (0, 0)) := by rw [hW4, hg0]; exact heap_alloc_new w3 _
      have hE4 : Ext w3 W4 := by rw [hW4]; exact (Ext.refl _).alloc _
      have hg' := Lib.hid hg0
      have hW4' := Lib.hid hW4
      have hg4' := Lib.hid hg4
      unfold reH
      clear hrg hrp c1 hY hg0 hW4 hg4
      go_upto_region 13 with fail
      rw [← hW4'.out, ← hg'.out]
      have hE14 := hE13.trans hE4
      have hEw4 := hE0.trans hE14
      have hrg := ask_rng (hE14.row hVx.out)
      unfold Ak.row at hrg
      go_wp2_with (first | (refine wpList_load_mid (by rfl) 66 (.tmp 7) (by rfl) w.heap.size 0 (by rfl) (x.row (.slice a N cap)).toList _ hrg Tryz.underlying66 rfl (by rw [ask_ln]; exact ask_inf) ?_) | fail)
      refine (hcg.out W4 hEw4).mono ?_
      rintro e w5 ⟨la, lc, rfl, hlo, hE5⟩
      obtain ⟨L, hL⟩ : ∃ L, L = chgX m.rows x := ⟨_, rfl⟩
      rw [← hL] at hlo hgs hcs hgw hc16 ⊢
      obtain ⟨K, hK⟩ : ∃ K, K = L.length := ⟨_, rfl⟩
      rw [← hK] at hlo ⊢
      have hKb : K ≤ 16 := by rw [hK]; exact hc16.out
      have hL' := Lib.hid hL
      have hK' := Lib.hid hK
      have hlo' := Lib.hid hlo
      have hEw5 := hEw4.trans hE5
      have hR5 := Lib.hid (h'.out.ext hEw5)
      have hV5 := Lib.hid ((hE14.trans hE5).row hVr.out)
      have hg5 := Lib.hid (hE5.row hg4'.out)
      have hz5 := hEw4.size
      clear hrg hcg hL hK hlo
      go_wp2_with fail
      go_loopw [15] (fun i wx => ∃ k : Nat, k ≤ K ∧ i = .int .i64 k ∧ OffB (fun i => i = st) w5 wx ∧ Hid (RefM base wx st (chsW m.rows (L.take k)) sd)) (fun i _ => K - (intOf i).toNat)
      case atStart => exact ⟨0, by omega, rfl, OffB.refl _, Lib.hid (by simpa [chsW] using hR5.out)⟩
      case round =>
        obtain ⟨k2, hk2, rfl, hO, hR⟩ := hrel
        by_cases hlt2 : k2 < K
        · have hli2 : (k2 : Int) < (K : Int) := by omega
          obtain ⟨q, hq⟩ : ∃ q, L[k2]? = some q := ⟨_, List.getElem?_eq_getElem (by rw [← hK'.out]; exact hlt2)⟩
          have hlx : OwnC wr W4.heap.size 102 3 (.slice la K lc) K (L.flatMap Ch.cells) := hlo'.out.offB hO (fun i hi hB => by
            have h5 := (hlo'.out.lt i hi).1
            have h6 := h'.out.at.2
            have hB : i = st := hB
            omega)
          obtain ⟨lb, lo, hat⟩ := hlx.row.at
          obtain ⟨e7, _, hd⟩ := hat (by omega)
          have hrg := ch_row_rng (by rw [← hK'.out]; exact hd) hq
          have hnext : Hid (∀ {e : Ending} {w' : World}, ChE base wr st (chR (chsW m.rows (L.take k2)) q) sd e w' → e = .returned (.tuple #[]) ∧ OffB (fun i => i = st) w5 w' ∧ RefM base w' st (chsW m.rows (L.take (k2 + 1))) sd) := Lib.hid (fun h => chR_next hq hso'.out h hO)
          have hcall := Lib.hid (chgR_any hR.out (hgs.out k2).1 (hgs.out k2).2 q (hcs.out q (List.mem_of_getElem? hq)))
          subst e7
          clear hlx hat hd hq
          go_wp2_with (first | (refine wpList_load_mid (by rfl) 102 (.tmp 92) (by rfl) lb (lo + k2 * 3) (by rfl) (chRow q).toList _ hrg Tryz.underlying102 rfl (by exact info_ch) ?_) | fail)
          refine hcall.out.mono ?_
          rintro e w6 hC
          obtain ⟨rfl, hO6, hR6⟩ := hnext.out hC
          have hR6' := Lib.hid hR6
          clear hC hR6 hrg hcall hnext
          go_wp2_with fail
          go_roundw
          case rel => exact ⟨k2 + 1, by omega, by go_num, hO6, hR6'⟩
          case measure => simp [intOf]; omega
        · have hli2 : ¬ (k2 : Int) < (K : Int) := by omega
          have hRf : Hid (RefM base wr st (m.act c n x).rows sd) := Lib.hid (by
            have h3 := hR.out
            rw [List.take_of_length_le (by rw [← hK'.out]; omega), hgw.out] at h3
            exact h3)
          have hgz := Lib.hid (off_re hR5.out hg5.out (by decide) hO)
          have hVz := Lib.hid (off_re hR5.out hV5.out (by decide) hO)
          obtain ⟨Z, hZ⟩ : ∃ Z, Hid (wr = Z) := ⟨wr, Lib.hid rfl⟩
          have hks : (m.act c n x).sd = m.sd := by unfold Md.act; simp only; rw [if_neg hkp'.out]
          have hS7 : Hid (RefX base wr st (m.act c n x).rows ((saidL (m.act c n x).sd).map toSa)) := Lib.hid ⟨sd, hRf.out, by rw [hks]; exact hsd.out⟩
          have hrow := ((hro'.out.ext (hE4.trans hE5)).offB hO (fun i hi hB => by
            have h5 := (hro'.out.lt i hi).1
            have h6 := h'.out.at.2
            have h7 := hEw.size
            have hB : i = st := hB
            omega)).row
          have htw := Lib.hid (twinR_any wr 0 Y (rowsW m.rows x) ra rc (by rw [← hrn'.out]; exact hrow) hrl.out)
          rw [← hrn'.out] at htw
          clear hrow hks
          have hrr := re_rng hgz.out
          go_wp2_with (first | (refine wpList_load_mid (by rfl) 74 (.tmp 13) (by rfl) g 0 (by rfl) (reH 0 Y (.slice ra rn rc)).toList _ hrr Tryz.underlying74 rfl (by exact info_reply) ?_) | fail)
          refine htw.out.mono ?_
          rintro e w8 ⟨a2, c2, rfl, ho2, hE8⟩
          have hR1 := hE8.row hVz.out
          have ho2' := Lib.hid ho2
          have hO8 := hO.trans (.of_ext hE8)
          have hz8 := hO.size
          clear ho2 hrr
          rw [← hrn'.out] at ho2' ⊢
          go_wp2_with (first | (refine wpList_store_row (by rfl) 74 (.tmp 8) (.tmp 103) (by rfl) (w.heap.size + 1) (reH 0 Y (.slice a2 rn c2)) (by rfl) (by rfl) 74 zRe hR1 (by exact info_reply) (by rfl) (reH_one _ _ _ _ _) ?_) | fail)
          have hset : (w8.setRow (w.heap.size + 1) (reH 0 Y (.slice a2 rn c2))).heap[w.heap.size + 1]? = some (.cells (reH 0 Y (.slice a2 rn c2)) 74 (0, 0)) := by rw [setRow_heap _ _ _ _ _ _ hR1]
          have hOg : OffB (· = w.heap.size + 1) w8 (w8.setRow (w.heap.size + 1) (reH 0 Y (.slice a2 rn c2))) := ⟨rfl, rfl, rfl, by simp, fun k _ hq => setRow_other _ _ _ _ hq⟩
          have ho3 := (own_re ho2'.out hR1 hOg).weak (base := w.heap.size) (by have := hEw5.size; omega)
          have hOf : OffB (fun i => i = st) w (w8.setRow (w.heap.size + 1) (reH 0 Y (.slice a2 rn c2))) := (((OffB.of_ext hEw5).trans hO8).trans2 hOg (by omega))
          have hRz : RefX base (w8.setRow (w.heap.size + 1) (reH 0 Y (.slice a2 rn c2))) st (m.act c n x).rows ((saidL (m.act c n x).sd).map toSa) := refx_off (hS7.out.ext hE8) hOg (fun q hq cs t ht => by
            have hq : q = w.heap.size + 1 := hq
            rw [hq, hR1] at ht
            injection ht with ht
            injection ht with _ ht
            rw [← ht]
            unfold refTy
            decide)
          generalize w8.setRow (w.heap.size + 1) (reH 0 Y (.slice a2 rn c2)) = Wf at *
          obtain ⟨b0, b1, b2⟩ := re_cells hset
          exact bodyPost_ret (v := .tuple #[.agg (reH 0 Y (.slice a2 rn c2)), .int .i64 0]) (by simp [results, Tryz.results31, go_sem, b0, b1, b2, reH]) rfl (by rw [hY'.out]; exact ⟨a2, c2, by rw [hrn'.out], by rw [← hrn'.out]; exact ho3, hOf.below (fun q hq => by have hq : q = st := hq; rw [hq]; exact h'.out.at.1) (by have := h'.out.at; omega), hOf, hRz⟩)
theorem doR_all {m : Md} {base st : Nat} {w : World} (h : RefX base w st m.rows ((saidL m.sd).map toSa)) (hg : smallR m.rows) (hso : sortR m.rows) (hlen : m.sd.length = 9) (hrn : m.rows.length ≤ 50000) (c n : Nat) (x : Ak) (a : Option Addr) (cap : Nat) (hch : ChsAt w x.chs a cap) (hs : x.small) : Calls Tryz.prog 31 #[.pointer (some ⟨st, 0, none⟩), .int .u8 (c : Int), .int .u32 (n : Int), .agg (x.row (.slice a x.chs.length cap))] w (RDoE base w st (m.ans c n x)) := by
  unfold Md.ans
  by_cases hb : badA c n x
  · rw [if_pos hb]
    by_cases h1 : c < 1
    · exact doR_low h c n x a cap hch hs h1
    · by_cases h8 : 8 < c
      · exact doR_high h c n x a cap hch hs (by omega) h8
      · by_cases hn : n = 0
        · exact doR_zero h c n x a cap hch hs (by omega) (by omega) hn
        · have hok : x.okB = false := by
            rcases hb with hb | hb | hb | hb
            · exact absurd hb h1
            · exact absurd hb h8
            · exact absurd hb hn
            · exact hb
          exact doR_refused h c n x a cap hch hs (by omega) (by omega) hn hok
  · rw [if_neg hb]
    have h1 : 1 ≤ c := by have : ¬ c < 1 := fun q => hb (.inl q); omega
    have h8 : c ≤ 8 := by have : ¬ 8 < c := fun q => hb (.inr (.inl q)); omega
    have hn : n ≠ 0 := fun q => hb (.inr (.inr (.inl q)))
    have hok : x.okB = true := by cases ho : x.okB with | true => rfl | false => exact absurd (.inr (.inr (.inr ho))) hb
    by_cases hl : n ≤ m.num c
    · have h3 := doR_old h c n x a cap hch hs h1 h8 hn hok hlen hl
      by_cases hq : n = m.num c ∧ keptP x
      · rw [if_pos hq] at h3 ⊢; exact h3
      · rw [if_neg hq] at h3 ⊢; rw [if_pos hl]; exact h3
    · rw [if_neg (fun q => hl (by omega)), if_neg hl]
      by_cases hk : keptP x
      · exact doR_kept h c n x a cap hch hs h1 h8 hn hok hlen (by omega) hg hso hrn hk
      · exact doR_look h c n x a cap hch hs h1 h8 hn hok hlen (by omega) hg hso hrn hk
end Go.Proofs.YthageoibkeebhaaGreatDoor
