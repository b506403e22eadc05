/- The document's Do: an ask that was done before. (Printed by mkrn9.py.) No condition. -/
import Derived.Test.YthageoibkeebhaaGreatDoorRn9
import Derived.Test.YthageoibkeebhaaGreatDoorGrZa
namespace Go.Proofs.YthageoibkeebhaaGreatDoor
open Go.RowKit
set_option maxRecDepth 100000
set_option maxHeartbeats 4000000
theorem doR_old {m : Md} {base st : Nat} {w : World} (hx0 : RefX base w st m.rows ((saidL m.sd).map toSa)) (c n : Nat) (x : Ak) (a : Option Addr) (cap : Nat) (hch : ChsAt w x.chs a cap) (hs : x.small) (h1 : 1 ≤ c) (h8 : c ≤ 8) (hn : n ≠ 0) (hok : x.okB = true) (hlen : m.sd.length = 9) (hle : n ≤ m.num c) : Calls Tryz.prog 31 #[.pointer (some ⟨st, 0, none⟩), .int .u8 (c : Int), .int .u32 (n : Int), .agg (x.row (.slice a x.chs.length cap))] w (RDoE base w st (if n = m.num c ∧ keptP x then ⟨(m.sv c).e, (m.sv c).yes, [], 10, m⟩ else ⟨0, false, [], 10, m⟩)) := by
  have hX' := Lib.hid hx0
  obtain ⟨sd, h, hsd0⟩ := hx0
  have hsd := Lib.hid hsd0
  clear hsd0
  obtain ⟨V, hV⟩ : ∃ W, W = (w.alloc (.cells (x.row (.slice a x.chs.length cap)) 66)).alloc (.cells zRe 74) := ⟨_, rfl⟩
  have hE0 : Ext w V := by rw [hV]; exact ((Ext.refl _).alloc _).alloc _
  have hVs : w.heap.size + 2 ≤ V.heap.size := by rw [hV]; simp
  have hVx : Hid (V.heap[w.heap.size]? = some (.cells (x.row (.slice a x.chs.length cap)) 66 (0, 0))) := Lib.hid (by rw [hV]; exact ((Ext.refl _).alloc _).row (heap_alloc_new w _))
  have hVr : Hid (V.heap[w.heap.size + 1]? = some (.cells zRe 74 (0, 0))) := Lib.hid (by
    have h1 := heap_alloc_new (w.alloc (.cells (x.row (.slice a x.chs.length cap)) 66)) (.cells zRe 74)
    rw [show (w.alloc (.cells (x.row (.slice a x.chs.length cap)) 66)).heap.size = w.heap.size + 1 by simp] at h1
    rw [hV]; exact h1)
  have hck := Lib.hid (checkR_any V x a cap (hch.ext hE0) hs)
  have hch' := Lib.hid hch
  obtain ⟨N, hN⟩ : ∃ N, N = x.chs.length := ⟨_, rfl⟩
  rw [← hN] at hck hVx hV ⊢
  have hN' := Lib.hid hN
  have hrg := ask_rng hVx.out
  have h' := Lib.hid h
  have hV' := Lib.hid hV
  clear h hV hN hch
  obtain ⟨R, hR⟩ : ∃ R : An, R = (if n = m.num c ∧ keptP x then ⟨(m.sv c).e, (m.sv c).yes, [], 10, m⟩ else ⟨0, false, [], 10, m⟩) := ⟨_, rfl⟩
  rw [← hR]
  have hR0 := Lib.hid hR
  have hle' := Lib.hid hle
  have hin : Hid ((m.sv c, c) ∈ saidL m.sd) := Lib.hid (by
    obtain ⟨s, hsc⟩ : ∃ s, m.sd[c]? = some s := ⟨_, List.getElem?_eq_getElem (by rw [hlen]; omega)⟩
    have h3 : m.sv c = s := by unfold Md.sv; rw [List.getD_eq_getElem?_getD, hsc]; rfl
    have h4 := Md.num_at hsc
    exact said_mem.2 ⟨by rw [h3]; exact hsc, by rw [h3]; omega⟩)
  clear hR hle
  have i1 : ¬ (c : Int) < 1 := by omega
  have i2 : ¬ (8 : Int) < (c : Int) := by omega
  have i3 : ¬ (n : Int) = 0 := by omega
  have hok' := Lib.hid hok
  clear hok
  unfold Ak.row zRe at hV'
  unfold Ak.row at hrg
  unfold Ak.row
  go_enter Tryz.func31, Tryz.ntmps31
  go_upto_region 1 with fail
  rw [← hV'.out]
  clear hV'
  go_wp2_with (first | (refine wpList_load_mid_on (by rfl) 66 (.tmp 7) (by rfl) w.heap.size 0 (by rfl) (x.row (.slice a N cap)).toList _ hrg Tryz.underlying66 rfl (by rw [ask_ln]; exact ask_inf) ?_) | fail)
  refine hck.out.mono ?_
  rw [hok'.out]
  rintro e w1 ⟨rfl, hE1⟩
  clear hrg hck
  obtain ⟨S, hS0⟩ : ∃ S, S = saidL m.sd := ⟨_, rfl⟩
  have hS := Lib.hid hS0
  obtain ⟨M, hM0⟩ : ∃ M, M = S.length := ⟨_, rfl⟩
  have hM := Lib.hid hM0
  have hSm : Hid (sd.length = M) := Lib.hid (by have := congrArg List.length hsd.out; rw [List.length_map, List.length_map] at this; rw [this, hM0, hS0])
  have hM9 : M ≤ 9 := by
    rw [hM0, hS0]
    unfold saidL
    refine Nat.le_trans (List.length_filter_le _ _) ?_
    rw [List.length_zipIdx, hlen]
    omega
  have hsee := h'.out.sees
  rw [hSm.out] at hsee
  obtain ⟨_, _, sa, sc, hcel, _, hRs, _, hmc, hcx⟩ := hsee
  have hc' : Hid (∀ W, Ext w W → W.cell? ⟨st, 1, none⟩ = some (.slice sa M sc)) := Lib.hid (fun W hE => (hcel W hE).2.1)
  have hR' : Hid (∀ W, Ext w W → RowIs W 5 (.slice sa M sc) M (sd.flatMap Sa.cells)) := Lib.hid hRs
  clear hcel hRs hS0 hM0
  obtain ⟨kb, hkb⟩ : ∃ kb, kb = decide (keptP x) := ⟨_, rfl⟩
  have hkb' := Lib.hid hkb
  obtain ⟨x0, _⟩ := askc (hE1.row hVx.out)
  clear hkb
  go_upto_region 3 with fail
  obtain ⟨Y1, hY1⟩ : ∃ Y, Hid (w1 = Y) := ⟨w1, Lib.hid rfl⟩
  go_cut [10] from 32 to 39 (fun v wx => v = .bool kb ∧ Hid (wx = w1))
  case first =>
    by_cases k5 : x.kind = 5
    · have e1 : Hid (kb = false) := Lib.hid (by rw [hkb'.out]; exact decide_eq_false (fun h => h.1 k5))
      go_wp2_with fail
      go_meet
      exact ⟨by rw [e1.out], Lib.hid rfl⟩
    · by_cases k6 : x.kind = 6
      · have e1 : Hid (kb = false) := Lib.hid (by rw [hkb'.out]; exact decide_eq_false (fun h => h.2 k6))
        go_wp2_with fail
        go_meet
        exact ⟨by rw [e1.out], Lib.hid rfl⟩
      · have e1 : Hid (kb = true) := Lib.hid (by rw [hkb'.out]; exact decide_eq_true ⟨k5, k6⟩)
        go_wp2_with fail
        go_meet
        exact ⟨by rw [e1.out]; simp [k6], Lib.hid rfl⟩
  obtain ⟨rfl, hwc⟩ := hcut
  rw [hwc.out]
  clear hwc x0 hY1
  go_wp2_with fail
  go_loopw [11] (fun i wr => ∃ k : Nat, k ≤ M ∧ i = .int .i64 k ∧ Hid (∀ p ∈ S.take k, p.2 ≠ c) ∧ Ext w1 wr) (fun i _ => M - (intOf i).toNat)
  case atStart => exact ⟨0, by omega, rfl, Lib.hid (fun _ h => nomatch h), Ext.refl _⟩
  case round =>
    obtain ⟨k, hk, rfl, hno, hE⟩ := hrel
    have hEw := (hE0.trans hE1).trans hE
    have c1 := hc'.out wr hEw
    by_cases hlt : k < M
    · have hli : (k : Int) < (M : Int) := by omega
      obtain ⟨y, hy⟩ : ∃ y, S[k]? = some y := ⟨_, List.getElem?_eq_getElem (by rw [← hM.out]; exact hlt)⟩
      obtain ⟨ob, oo, hat⟩ := (hR'.out wr hEw).at
      obtain ⟨rfl, _, hdy⟩ := hat (by omega)
      obtain ⟨z, hz, z1, z2, z3, z4, z5⟩ := sdb_at (by rw [hS.out]; exact hsd.out) hy
      have hrg := sas_range (x := z) (k := k) (by rw [hSm.out]; exact hdy) hz
      have hzo := h'.out.vals z (List.mem_of_getElem? hz)
      obtain ⟨va, vc, hzv, _⟩ := hzo.form
      rw [z5] at hzv hzo
      have hzr : Hid (∀ W, Ext w W → RowIs W 2 (.slice va 0 vc) 0 []) := Lib.hid (fun W hE => by have h3 := (hzo.ext hE).row; rw [hzv] at h3; exact h3)
      rw [sa_cells hzv] at hrg
      have z3' := Lib.hid z3
      have z4' := Lib.hid z4
      have hyn := said_num (m := m) (by rw [← hS.out]; exact List.mem_of_getElem? hy)
      have htk : S.take (k + 1) = S.take k ++ [y] := by rw [List.take_add_one, hy]; rfl
      obtain ⟨g, hg⟩ : ∃ g, g = wr.heap.size := ⟨_, rfl⟩
      obtain ⟨W5, hW5⟩ : ∃ W, W = wr.alloc (.cells (saRow z va 0 vc) 87) := ⟨_, rfl⟩
      have hr5 : W5.heap[g]? = some (.cells (saRow z va 0 vc) 87 (0, 0)) := by rw [hW5, hg]; exact heap_alloc_new wr _
      have hE5 : Ext wr W5 := by rw [hW5]; exact (Ext.refl _).alloc _
      have hW5' := Lib.hid hW5
      have hg' := Lib.hid hg
      have hyn' := Lib.hid hyn
      have htk' := Lib.hid htk
      obtain ⟨y0, y1, y2, y3, y4⟩ := sa_cs hr5
      have hrr := Lib.hid (sa_reply_range hr5)
      replace y0 : W5.cell? ⟨g, 0, none⟩ = some (.int .u8 (y.2 : Int)) := by rw [← z1]; exact y0
      replace y1 : W5.cell? ⟨g, 1, none⟩ = some (.int .u32 (y.1.num : Int)) := by rw [← z2]; exact y1
      clear hat hdy hy hW5 hg hyn htk hr5 z1 z2 z3 z4 z5 hz hzo hzv
      go_upto_region 8 with (first | (refine wpList_load_mid (by rfl) 87 (.tmp 54) (by rfl) ob (oo + k * 5) (by rfl) (saRow z va 0 vc).toList _ hrg Tryz.underlying87 rfl (by exact info_said) ?_) | (refine wpList_store_whole (by rfl) 87 (.tmp 12) (.tmp 55) (by rfl) wr _ (saRow z va 0 vc) wr.heap.size (by rfl) rfl (by rfl) (by exact info_said) (by rfl) (saRow_one _ _ _ _) ?_; rw [← hW5'.out, ← hg'.out]) | fail)
      clear c1 hrg
      have hEz := hE.trans hE5
      by_cases hcl : y.2 = c
      · have hcli : (y.2 : Int) = (c : Int) := by omega
        have hsv : Hid (m.num c = y.1.num ∧ m.sv c = y.1) := Lib.hid (by rw [← hcl]; exact hyn'.out.2.2)
        have hle2 : n ≤ y.1.num := by rw [← hsv.out.1]; exact hle'.out
        have hl2 : ¬ (y.1.num : Int) < (n : Int) := by omega
        have hd2 : decide ((y.1.num : Int) < (n : Int)) = false := decide_eq_false hl2
        have hbc : ((y.2 : Int) != (c : Int)) = false := by rw [hcli]; simp
        clear hcl hcli
        by_cases hq : n = y.1.num
        · have hqi : (n : Int) = (y.1.num : Int) := by omega
          cases kb with
          | true =>
            have hres : Hid (R = ⟨y.1.e, y.1.yes, [], 10, m⟩) := Lib.hid (by rw [hR0.out, if_pos ⟨by rw [hsv.out.1]; exact hq, of_decide_eq_true hkb'.out.symm⟩, hsv.out.2])
            rw [← hqi] at y1
            clear hqi hl2 hd2 hle2 hq
            go_wp2_with (first | (refine wpList_load_mid (by rfl) 74 (.tmp 73) (by rfl) g 2 (by rfl) (reH z.e z.yes (.slice va 0 vc)).toList _ hrr.out Tryz.underlying74 rfl (by exact info_reply) ?_) | fail)
            refine (twinR_any W5 z.e z.yes [] va vc (hzr.out W5 (hEw.trans hE5)) (by simp)).mono ?_
            rintro e w6 ⟨a2, c2, rfl, ho2, hE6⟩
            have hEz6 := hEz.trans hE6
            have hR1 := (hE1.trans hEz6).row hVr.out
            have hsz5 := ((hE0.trans hE1).trans hEz).size
            have ho2' := Lib.hid ho2
            clear ho2 hE6 y0 y1 y2 y3 y4
            go_wp2_with (first | (refine wpList_store_row (by rfl) 74 (.tmp 8) (.tmp 75) (by rfl) (w.heap.size + 1) (reH z.e z.yes (.slice a2 0 c2)) (by rfl) (by rfl) 74 zRe hR1 (by exact info_reply) (by rfl) (reH_one _ _ _ _ _) ?_) | fail)
            have hset : (w6.setRow (w.heap.size + 1) (reH z.e z.yes (.slice a2 0 c2))).heap[w.heap.size + 1]? = some (.cells (reH z.e z.yes (.slice a2 0 c2)) 74 (0, 0)) := by rw [setRow_heap _ _ _ _ _ _ hR1]
            have hEf : Ext w (w6.setRow (w.heap.size + 1) (reH z.e z.yes (.slice a2 0 c2))) := ((hE0.trans hE1).trans hEz6).setRow (by omega) _
            have ho3 := (own_re ho2'.out hR1 (W' := w6.setRow (w.heap.size + 1) (reH z.e z.yes (.slice a2 0 c2))) ⟨rfl, rfl, rfl, by simp, fun k _ hq => setRow_other _ _ _ _ hq⟩).weak hsz5
            generalize w6.setRow (w.heap.size + 1) (reH z.e z.yes (.slice a2 0 c2)) = Wf at *
            obtain ⟨b0, b1, b2⟩ := re_cells hset
            exact bodyPost_ret (v := .tuple #[.agg (reH z.e z.yes (.slice a2 0 c2)), .int .i64 10]) (by simp [results, Tryz.results31, go_sem, b0, b1, b2, reH]) rfl (by rw [hres.out]; exact ⟨a2, c2, by rw [z3'.out, z4'.out]; rfl, ho3, hEf.mono (by have := h'.out.at; omega), .of_ext hEf, hX'.out.ext hEf⟩)
          | false =>
            have hres : Hid (R = ⟨0, false, [], 10, m⟩) := Lib.hid (by rw [hR0.out, if_neg (fun h => of_decide_eq_false hkb'.out.symm h.2)])
            rw [← hqi] at y1
            clear hqi hl2 hd2 hle2 hq
            have hR1 := (hE1.trans hEz).row hVr.out
            go_wp2_with (first | (refine wpList_store_row (by rfl) 74 (.tmp 8) (.tmp 76) (by rfl) (w.heap.size + 1) zRe (by rfl) (by rfl) 74 zRe hR1 (by exact info_reply) (by rfl) zRe_one ?_) | fail)
            have hset : (W5.setRow (w.heap.size + 1) zRe).heap[w.heap.size + 1]? = some (.cells zRe 74 (0, 0)) := by rw [setRow_heap _ _ _ _ _ _ hR1]
            have hEf : Ext w (W5.setRow (w.heap.size + 1) zRe) := (hE0.trans (hE1.trans hEz)).setRow (by omega) _
            generalize W5.setRow (w.heap.size + 1) zRe = Wf at *
            obtain ⟨b0, b1, b2⟩ := re_cells hset
            exact bodyPost_ret (v := .tuple #[.agg zRe, .int .i64 10]) (by simp [results, Tryz.results31, go_sem, b0, b1, b2, zRe]) rfl (by rw [hres.out]; exact rdo_none hX'.out hEf 10)
        · have hqi : ¬ (n : Int) = (y.1.num : Int) := by omega
          have hres : Hid (R = ⟨0, false, [], 10, m⟩) := Lib.hid (by rw [hR0.out, if_neg (fun h => hq (by rw [← hsv.out.1]; exact h.1))])
          clear hq hle2
          have hR1 := (hE1.trans hEz).row hVr.out
          go_wp2_with (first | (refine wpList_store_row (by rfl) 74 (.tmp 8) (.tmp 76) (by rfl) (w.heap.size + 1) zRe (by rfl) (by rfl) 74 zRe hR1 (by exact info_reply) (by rfl) zRe_one ?_) | fail)
          have hset : (W5.setRow (w.heap.size + 1) zRe).heap[w.heap.size + 1]? = some (.cells zRe 74 (0, 0)) := by rw [setRow_heap _ _ _ _ _ _ hR1]
          have hEf : Ext w (W5.setRow (w.heap.size + 1) zRe) := (hE0.trans (hE1.trans hEz)).setRow (by omega) _
          generalize W5.setRow (w.heap.size + 1) zRe = Wf at *
          obtain ⟨b0, b1, b2⟩ := re_cells hset
          exact bodyPost_ret (v := .tuple #[.agg zRe, .int .i64 10]) (by simp [results, Tryz.results31, go_sem, b0, b1, b2, zRe]) rfl (by rw [hres.out]; exact rdo_none hX'.out hEf 10)
      · have hcli : ¬ (y.2 : Int) = (c : Int) := by omega
        have hnx : Hid (∀ p ∈ S.take (k + 1), p.2 ≠ c) := Lib.hid (fun p hp => by
          rw [htk'.out] at hp
          rcases List.mem_append.1 hp with hp | hp
          · exact hno.out p hp
          · rw [List.mem_singleton.1 hp]; exact hcl)
        clear hcl
        go_wp2_with fail
        go_roundw
        case rel => exact ⟨k + 1, by omega, by go_num, hnx, hEz⟩
        case measure => simp [intOf]; omega
    · exfalso
      refine hno.out (m.sv c, c) ?_ rfl
      rw [List.take_of_length_le (by rw [← hM.out]; omega), hS.out]
      exact hin.out
end Go.Proofs.YthageoibkeebhaaGreatDoor
