/- ModelsPlay: the walk. No condition. -/
import Derived.Test.YthageoibkeebhaaGreatDoorGrW
import Derived.Test.YthageoibkeebhaaGreatDoorGrZa
import Derived.Test.YthageoibkeebhaaGreatDoorGrO
import Derived.Deep.CutRange
namespace Go.Proofs.YthageoibkeebhaaGreatDoor
open Go.RowKit
set_option maxRecDepth 100000
set_option maxHeartbeats 20000000
theorem csz_ge : ∀ (l : List Ch) (n : Nat), n ≤ cszAux n l
  | [], n => by unfold cszAux; exact Nat.le_refl _
  | c :: l, n => by
    have ih := csz_ge l
    unfold cszAux
    first
      | (split
         · exact Nat.le_refl _
         · exact Nat.le_trans (by omega) (ih _))
      | (split
         · exact Nat.le_trans (by omega) (ih _)
         · exact Nat.le_refl _)
theorem sz_chs {x : Ak} (h : x.sz ≤ 20000) : x.chs.length ≤ 20000 := by
  unfold Ak.sz at h
  split at h
  · have := csz_ge x.chs x.chs.length
    omega
  · omega
theorem grB_chs : ∀ (l : List Ac) (n : Nat), grB n l = false → ∀ x ∈ l, x.ask.chs.length ≤ 20000
  | [], _, _, x, hx => by cases hx
  | y :: l, n, h, x, hx => by
    unfold grB at h
    split at h
    · cases h
    · rcases List.mem_cons.1 hx with rfl | hx
      · exact sz_chs (by omega)
      · exact grB_chs l _ h x hx
theorem great_no {l : List Ac} (h : greatB l = false) : l.length ≤ 150 ∧ ∀ x ∈ l, x.ask.chs.length ≤ 20000 := by
  unfold greatB at h
  rw [Bool.or_eq_false_iff] at h
  exact ⟨by have := of_decide_eq_false h.2; omega, grB_chs l 0 h.1⟩
theorem act_one (c : Ac) : c.cells.toArray.all (·.oneCell') = true := by kernel_rfl
theorem info_act : (Tryz.prog.info? 68).map (·.size) = some 11 := by kernel_rfl
theorem row_rng {W : World} {g : Nat} {cs : List Value} {t : TypeId} (h : W.heap[g]? = some (.cells cs.toArray t (0, 0))) : W.rangeAt g 0 cs := fun j u hu => by
  rw [Nat.zero_add, cell_of_row _ _ j _ t (0, 0) h, ← hu]; simp
theorem modelsPlay_walk (w : World) (hT : TabW w) (v0 : Value) (o0 : ∃ n, OKC Tryz.prog w n 58 [v0]) : Calls Tryz.prog 4 #[v0] w fun e w' => e = .returned (.bool true) ∧ Ext w w' := by
  obtain ⟨l, la, lc, rfl, hg, hr, hl⟩ := okc_acts o0
  clear o0
  have hgr := Lib.hid (great_any w l la lc hg hl hr)
  obtain ⟨N, hN0⟩ : ∃ N, N = l.length := ⟨_, rfl⟩
  rw [← hN0] at hgr hr ⊢
  have hN := Lib.hid hN0
  have hg' := Lib.hid hg
  have hr' := Lib.hid hr
  have hT' := Lib.hid hT
  clear hN0 hg hr hT hl
  go_enter Tryz.func4, Tryz.ntmps4
  go_wp2_with fail
  refine hgr.out.mono ?_
  rintro e w1 ⟨rfl, hE1⟩
  clear hgr
  cases hgb : greatB l
  case true =>
    clear hgb
    go_wp2_with fail
    go_ret
    exact ⟨rfl, hE1⟩
  have hno := great_no hgb
  rw [← hN.out] at hno
  have hch := Lib.hid hno.2
  have hN150 := hno.1
  clear hno hgb
  go_wp2_with fail
  refine (st_newM w1).mono ?_
  rintro e w2 ⟨st, mb, rfl, hS2⟩
  have hE2 := hS2.ground
  have hS2' := Lib.hid hS2
  clear hS2
  go_wp2_with fail
  refine (newR_any w2).mono ?_
  rintro e w3 ⟨rfl, hR3, hE3⟩
  have hR3' := Lib.hid hR3
  clear hR3
  have hX3 := (hE1.trans hE2).trans hE3
  obtain ⟨g, hg⟩ : ∃ g, Hid (g = w3.heap.size) := ⟨_, Lib.hid rfl⟩
  obtain ⟨W4, hW4⟩ : ∃ W, Hid (W = w3.alloc (.cells #[.int .i64 0, .slice none 0 0, .slice none 0 0, .slice none 0 0, .slice none 0 0, .slice none 0 0, .slice none 0 0, .slice none 0 0, .slice none 0 0, .slice none 0 0, .slice none 0 0, .slice none 0 0, .slice none 0 0, .slice none 0 0] 51)) := ⟨_, Lib.hid rfl⟩
  have hE4 : Ext w3 W4 := by rw [hW4.out]; exact (Ext.refl _).alloc _
  have hX4 := hX3.trans hE4
  have hP4 : Hid (PlayN (fun _ => False) w st mb w2.heap.size g 0 ⟨[], zSd⟩ ⟨[], zSd⟩ W4) := Lib.hid ⟨fun k => k = g, hX4, (hS2'.out.past hE1).ext (hE3.trans hE4), RefX.weak ⟨[], hR3'.out.ext hE4, rfl⟩ (hE1.trans hE2).size, BkZ.start (by rw [hW4.out, hg.out]; exact heap_alloc_new w3 _) (by rw [hg.out]; exact hX3.size) (fun W hW => tabW_ext hT'.out (Below.trans hX4 hW)), fun k hk => hk.elim⟩
  go_upto_region 8 with fail
  rw [← hg.out, ← hW4.out]
  clear hW4 hE4 hX3 hE3 hS2' hR3'
  obtain ⟨r, hrs⟩ : ∃ r, r = w2.heap.size := ⟨_, rfl⟩
  rw [← hrs] at hP4 ⊢
  clear hrs hE2
  go_wp2_with fail
  go_loopw [3, 4, 6] (fun sp rp i wr => ∃ (k n st mb r : Nat) (m : Md), k ≤ N ∧ sp = .pointer (some ⟨st, 0, none⟩) ∧ rp = .pointer (some ⟨r, 0, none⟩) ∧ i = .int .i64 k ∧ n ≤ 2 * k ∧ m.rows.length ≤ 16 * k ∧ Hid (smallR m.rows) ∧ Hid (fineS m.sd) ∧ Hid (PlayN (fun _ => False) w st mb r g n m m wr)) (fun _ _ i _ => N - (intOf i).toNat)
  case atStart => exact ⟨0, 0, st, mb, r, ⟨[], zSd⟩, by omega, rfl, rfl, rfl, by omega, by simp, Lib.hid (fun r hr => nomatch hr), Lib.hid fine_z, hP4⟩
  case round =>
    clear hP4 hX4 hE1
    obtain ⟨k, n, st, mb, r, m, hk, rfl, rfl, rfl, hnk, hmk, hsm, hfi, hP⟩ := hrel
    by_cases hlt : k < N
    · have hli : (k : Int) < (N : Int) := by omega
      have hE := hP.out.grown
      obtain ⟨c, hc⟩ : ∃ c, l[k]? = some c := ⟨_, List.getElem?_eq_getElem (by rw [← hN.out]; exact hlt)⟩
      have hcm := List.mem_of_getElem? hc
      obtain ⟨g1, g2, g3, g4, g5⟩ := (hg'.out c hcm).ext hE
      have hcl := hch.out c (List.mem_of_getElem? hc)
      obtain ⟨b, off, hat⟩ := (hr'.out.ext hE).at
      obtain ⟨rfl, _, hd⟩ := hat (by omega)
      have hrg := act_range (by rw [← hN.out]; exact hd) hc
      obtain ⟨M, hM0⟩ : ∃ M, M = c.ask.chs.length := ⟨_, rfl⟩
      have hM := Lib.hid hM0
      rw [← hM0] at hcl
      obtain ⟨X7, hX7⟩ : ∃ X, Hid (X = wr.heap.size) := ⟨_, Lib.hid rfl⟩
      obtain ⟨V7, hV7⟩ : ∃ W, Hid (W = wr.alloc (.cells c.cells.toArray 68)) := ⟨_, Lib.hid rfl⟩
      have hr7 : Hid (V7.heap[X7]? = some (.cells c.cells.toArray 68 (0, 0))) := Lib.hid (by rw [hV7.out, hX7.out]; exact heap_alloc_new wr _)
      have hE7 : Ext wr V7 := by rw [hV7.out]; exact (Ext.refl _).alloc _
      have g4' := Lib.hid g4
      have g5' := Lib.hid g5
      clear hat hd hc hM0 g4 g5
      go_upto_region 12 with (first | (refine wpList_load_mid (by rfl) 68 (.tmp 35) (by rfl) b (off + k * 11) (by rfl) c.cells _ hrg Tryz.underlying68 rfl (by exact info_act) ?_) | (refine wpList_store_whole (by rfl) 68 (.tmp 7) (.tmp 36) (by rfl) wr _ c.cells.toArray wr.heap.size (by rfl) rfl (by rfl) (by exact info_act) (by rfl) (act_one c) ?_; rw [← hV7.out, ← hX7.out]) | fail)
      clear hrg
      have hrg7 := row_rng hr7.out
      obtain ⟨y0, y1, y2⟩ := act_cells hrg7
      have hra := act_ask hrg7
      unfold Ac.av at hra
      rw [← hM.out] at hra
      have htw := Lib.hid (twinA_any V7 c.ask c.ad c.cap M hM.out (by rw [hM.out]; exact (g4'.out.ext hE7).1) (by omega))
      unfold Ak.row at htw hra
      clear y0 y1 y2 hrg7
      go_wp2_with (first | (refine wpList_load_mid (by rfl) 66 (.tmp 37) (by rfl) X7 3 (by rfl) _ _ hra Tryz.underlying66 rfl (by exact ask_inf) ?_) | fail)
      refine htw.out.mono ?_
      rintro e w8 ⟨tb, tc, rfl, hT8, hE8⟩
      have hT8' := Lib.hid hT8
      clear hT8 htw hra
      obtain ⟨X8, hX8⟩ : ∃ X, Hid (X = w8.heap.size) := ⟨_, Lib.hid rfl⟩
      obtain ⟨V8, hV8⟩ : ∃ W, Hid (W = w8.alloc (.cells (c.ask.row (.slice (some ⟨tb, 0, none⟩) M tc)) 66)) := ⟨_, Lib.hid rfl⟩
      have hr8 : Hid (V8.heap[X8]? = some (.cells (c.ask.row (.slice (some ⟨tb, 0, none⟩) M tc)) 66 (0, 0))) := Lib.hid (by rw [hV8.out, hX8.out]; exact heap_alloc_new w8 _)
      have hE8v : Ext w8 V8 := by rw [hV8.out]; exact (Ext.refl _).alloc _
      go_upto_region 13 with (first | (refine wpList_store_whole (by rfl) 66 (.tmp 8) (.tmp 39) (by rfl) w8 _ (c.ask.row (.slice (some ⟨tb, 0, none⟩) M tc)) w8.heap.size (by rfl) rfl (by rfl) (by exact ask_inf) (by rfl) (ask_one _ _ _ _) ?_; rw [← hV8.out, ← hX8.out]) | fail)
      have hr7b := Lib.hid ((hE8.trans hE8v).row hr7.out)
      have hT := Lib.hid (hT8'.out.ext hE8v)
      have htb := OwnC.lt hT8'.out tb rfl
      have hP8 : Hid (PlayN (fun q => q = tb) w st mb r g n m m V8) := Lib.hid (hP.out.more ((hE7.trans hE8).trans hE8v) (fun q hq => .inr (by
        have h1 := hE7.size
        have h2 := hE8v.size
        rw [hq]
        exact ⟨by omega, by omega⟩)))
      have hI8 : Hid (MpI w V8 c M X7 X8 tb tc) := Lib.hid ⟨hr7b.out, hr8.out, TwC.weak hT.out (Nat.le_trans hE.size hE7.size)⟩
      have hcA : Hid (∀ W, Ext w W → ChsAt W c.ask.chs c.ad c.cap) := Lib.hid (fun W hW => (hg'.out c hcm).2.2.2.1.ext hW)
      clear hr7 hT8' htb hP hr7b hT hr8 g4' hV7 hV8 hX7 hX8 hE7 hE8 hE8v
      simp only [Act.put]
      obtain ⟨y0, y1, y2⟩ := act_cells (row_rng hI8.out.1)
      go_upto_block 2 with fail
      clear y0 y1 y2
      go_cut [3, 4, 9, 10, 11, 12, 13, 14, 15, 16, 17] from 40 to 114 (fun sp rp _ _ _ _ _ _ _ _ _ wx => ∃ (n' st' mb' r' : Nat) (m' : Md), sp = .pointer (some ⟨st', 0, none⟩) ∧ rp = .pointer (some ⟨r', 0, none⟩) ∧ n' ≤ n + 1 ∧ m'.rows.length ≤ m.rows.length + 16 ∧ Hid (smallR m'.rows) ∧ Hid (fineS m'.sd) ∧ Hid (PlayN (fun q => q = tb) w st' mb' r' g n' m' m' wx) ∧ Hid (MpI w wx c M X7 X8 tb tc))
      case first =>
        have hmb : m.rows.length ≤ 50000 := by omega
        have hS := hP8.out.states
        have hso := Lib.hid hS.1.sort
        have hX := Lib.hid hP8.out.grown
        by_cases k5 : c.kind % 7 = 5
        · have k5i : (c.kind : Int) % 7 = 5 := by omega
          have c1 : Hid (∀ W, Ext V8 W → Calls Tryz.prog 15 #[.pointer (some ⟨st, 0, none⟩)] W (RowsO m.rows W)) := Lib.hid (fun W hE => stm_rows (hS.1.ext hE) hsm.out hmb)
          have c2 := Lib.hid (refx_rows hS.2 (by omega))
          have c3 := Lib.hid (fun W (hE : Ext V8 W) => stm_said (hS.1.ext hE))
          have c4 := Lib.hid (refx_saids hS.2 hS.1.len)
          have hl9 := saidL_len m.sd
          have hlen := hS.1.len
          have hlm : Hid (((saidL m.sd).map toSa).length = (saidL m.sd).length) := Lib.hid (by rw [List.length_map])
          clear k5 hS g1 g2 g3
          go_wp2_with fail
          refine (c1.out V8 (Ext.refl _)).mono ?_
          rintro e w9 ⟨a1, k1, rfl, ho1, hE9⟩
          have ho1' := Lib.hid ho1
          clear ho1
          go_wp2_with fail
          refine (c3.out w9 hE9).mono ?_
          rintro e w10 ⟨a2, k2, rfl, ho2, hE10⟩
          have hE10' := hE9.trans hE10
          have hmk := Lib.hid (mk_said w10 m a1 k1 a2 k2 (ho1'.out.ext hE10).row ho2.row hmb hso.out hsm.out hfi.out)
          clear ho2 ho1'
          go_wp2_with fail
          refine hmk.out.mono ?_
          rintro e w11 ⟨st2, mb2, rfl, hS2⟩
          have hE11 := hS2.ground
          have hX11 := hE10'.trans hE11
          have hS2' := Lib.hid (hS2.past (hX.out.trans hE10'))
          clear hS2 hmk
          go_wp2_with fail
          refine (c2.out w11 hX11).mono ?_
          rintro e w12 ⟨a3, k3, rfl, ho3, hE12⟩
          have ho3' := Lib.hid ho3
          clear ho3
          go_wp2_with fail
          refine (c4.out w12 (hX11.trans hE12)).mono ?_
          rintro e w13 ⟨q, a4, k4, rfl, hq, ho4, hqo, hE13⟩
          have hX13 := (hX11.trans hE12).trans hE13
          rw [hlm.out] at ho4 ⊢
          have hql : q.length = (saidL m.sd).length := by have := congrArg List.length hq; rwa [List.length_map, List.length_map] at this
          have hmr := mkrR_any w13 m.rows a3 k3 (ho3'.out.ext hE13).row hmb (fun r hr => by have h1 := keyB_size (hsm.out r hr).1; have h2 := valB_size (hsm.out r hr).2; omega) q a4 k4 (by rw [hql]; exact ho4.row) (by rw [hql]; omega) (saOwn_at hqo) (fun p hp => by rw [bare_rows hq p hp]; simp)
          rw [hql] at hmr
          have hmr' := Lib.hid hmr
          have hq' := Lib.hid hq
          clear hmr hql ho4 hqo ho3' hq
          go_wp2_with fail
          refine hmr'.out.mono ?_
          rintro e w14 hM
          obtain ⟨hE14, st3, rfl, hR3⟩ := rmk_self hso.out hsm.out hfi.out hq'.out hM
          have hX14 := hX13.trans hE14
          have hPf : Hid (PlayN (fun q => q = tb) w st2 mb2 st3 g n m m w14) := Lib.hid ((hP8.out.ext hX14).swap (hS2'.out.ext ((hE12.trans hE13).trans hE14)) (hR3.weak (hX.out.trans hX13).size))
          have hIf := Lib.hid (hI8.out.ext hX14)
          clear hM hR3 hmr' hq'
          go_wp2_with fail
          go_meet
          exact ⟨n, st2, mb2, st3, m, rfl, rfl, by omega, by omega, hsm, hfi, hPf, hIf⟩
        · by_cases k6 : c.kind % 7 = 6
          · have k5i : ¬ (c.kind : Int) % 7 = 5 := by omega
            have k6i : (c.kind : Int) % 7 = 6 := by omega
            have hcT : Hid (∀ W base, TwC W base tb M tc c.ask.chs → ChsAt W c.ask.chs (some ⟨tb, 0, none⟩) tc) := Lib.hid (fun W base h => ⟨by rw [← hM.out]; exact (h.own hM.out).row, by rw [← hM.out]; omega, (hcA.out V8 hX.out).2.2⟩)
            have cS := Lib.hid (stm_changes hS.1 c.ask (some ⟨tb, 0, none⟩) tc (hcT.out V8 _ hI8.out.2.2) g5'.out)
            have cR : Hid (∀ W, Ext V8 W → Calls Tryz.prog 28 #[.pointer (some ⟨r, 0, none⟩), .agg (c.ask.row (.slice c.ad c.ask.chs.length c.cap))] W (ChgO (chgX m.rows c.ask) W)) := Lib.hid (fun W hE => by
              obtain ⟨sd, hR, _⟩ := hS.2
              exact changesR_any (hR.ext hE) c.ask c.ad c.cap (hcA.out W (hX.out.trans hE)) g5'.out)
            rw [← hM.out] at cS cR
            obtain ⟨L, hL⟩ : ∃ L, L = chgX m.rows c.ask := ⟨_, rfl⟩
            rw [← hL] at cS cR
            have hL16 : L.length ≤ 16 := by
              rw [hL]
              unfold chgX
              split
              · rename_i h; exact (chg_ok h).2
              · simp
            have hrg8 := ask_rng hI8.out.2.1
            unfold Ak.row at cS cR hrg8
            clear k5 k6 hS g1 g2 g3 hL
            go_wp2_with (first | (refine wpList_load_mid (by rfl) 66 (.tmp 8) (by rfl) X8 0 (by rfl) _ _ hrg8 Tryz.underlying66 rfl (by exact ask_inf) ?_) | fail)
            refine cS.out.mono ?_
            rintro e w9 ⟨a1, k1, rfl, ho1, hE9⟩
            have ho1' := Lib.hid ho1
            have hra := act_ask (row_rng (hI8.out.ext hE9).1)
            unfold Ac.av at hra
            rw [← hM.out] at hra
            unfold Ak.row at hra
            clear ho1 hrg8 cS
            go_wp2_with (first | (refine wpList_load_mid (by rfl) 66 (.tmp 108) (by rfl) X7 3 (by rfl) _ _ hra Tryz.underlying66 rfl (by exact ask_inf) ?_) | fail)
            refine (cR.out w9 hE9).mono ?_
            rintro e w10 ⟨a2, k2, rfl, ho2, hE10⟩
            have hX10 := hE9.trans hE10
            have hsc := schgs_any w10 L L a1 a2 k1 k2 (ho1'.out.ext hE10).row ho2.row
            rw [decide_eq_true rfl] at hsc
            have hsc' := Lib.hid hsc
            clear hsc hra cR ho2
            go_wp2_with fail
            refine hsc'.out.mono ?_
            rintro e w11 ⟨rfl, hE11⟩
            have hX11 := hX10.trans hE11
            have hP11 : Hid (PlayN (fun q => q = tb ∨ (Value.slice a1 L.length k1).ownBlock = some q) w st mb r g n m m w11) := Lib.hid ((hP8.out.more hE9 (fun q hq => by
              rcases hq with hq | hq
              · exact .inl hq
              · exact .inr (ho1'.out.lt q hq))).ext (hE10.trans hE11))
            have hI11 := Lib.hid (hI8.out.ext hX11)
            have htbl := (OwnC.lt hI8.out.2.2 tb rfl).2
            have hkp := Lib.hid (bn_chs (K' := fun q => q = tb) hP11.out (fun q hq => .inl hq) (by omega) a1 L.length k1 _ ((ho1'.out.ext (hE10.trans hE11)).weak hX.out.size) (by omega) (fun q hq => .inr hq) (fun q hq he => by have := (ho1'.out.lt q he).1; omega))
            clear hsc' ho1' hP11
            go_wp2_with fail
            refine hkp.out.mono ?_
            rintro e w12 ⟨rfl, hP12, hO12⟩
            have hP12' := Lib.hid hP12
            have hI12 := Lib.hid (hI11.out.mut hO12)
            clear hP12 hO12 hkp
            go_wp2_with fail
            go_meet
            exact ⟨n + 1, st, mb, r, m, rfl, rfl, by omega, by omega, hsm, hfi, hP12', hI12⟩
          · have k5i : ¬ (c.kind : Int) % 7 = 5 := by omega
            have k6i : ¬ (c.kind : Int) % 7 = 6 := by omega
            have hcT : ChsAt V8 c.ask.chs (some ⟨tb, 0, none⟩) tc := ⟨by rw [← hM.out]; exact (hI8.out.2.2.own hM.out).row, by rw [← hM.out]; omega, (hcA.out V8 hX.out).2.2⟩
            have cS := do_all hS.1 hsm.out hmb c.cl c.num c.ask (some ⟨tb, 0, none⟩) tc hcT g5'.out
            rw [← hM.out] at cS
            obtain ⟨R, hR⟩ : ∃ R, R = m.ans c.cl c.num c.ask := ⟨_, rfl⟩
            rw [← hR] at cS
            have cR : Hid (∀ W, RefX w.heap.size W r m.rows ((saidL m.sd).map toSa) → Ext w W → Calls Tryz.prog 31 #[.pointer (some ⟨r, 0, none⟩), .int .u8 (c.cl : Int), .int .u32 (c.num : Int), .agg (c.ask.row (.slice c.ad c.ask.chs.length c.cap))] W (RDoE w.heap.size W r R)) := Lib.hid (fun W hX2 hW => by rw [hR]; exact doR_all hX2 hsm.out hso.out hS.1.len hmb c.cl c.num c.ask c.ad c.cap (hcA.out W hW) g5'.out)
            rw [← hM.out] at cR
            have hRs : Hid (smallR R.m.rows) := Lib.hid (by rw [hR]; exact Md.ans_small hsm.out _ _ _)
            have hRf : Hid (fineS R.m.sd) := Lib.hid (by rw [hR]; exact fine_ans hfi.out _ _ _)
            have hRl : R.m.rows.length ≤ m.rows.length + 16 := by rw [hR]; exact Md.ans_length _ _ _ _
            have hRr : R.rows.length ≤ m.rows.length + 1 := by rw [hR]; exact ans_rows m _ _ _
            have cS' := Lib.hid cS
            obtain ⟨y0, y1, y2⟩ := act_cells (row_rng hI8.out.1)
            rw [Nat.zero_add] at y1 y2
            have hrg8 := ask_rng hI8.out.2.1
            unfold Ak.row at cS' cR hrg8
            clear k5 k6 hS g1 g2 g3 cS hcT y0 hR
            go_wp2_with (first | (refine wpList_load_mid (by rfl) 66 (.tmp 8) (by rfl) X8 0 (by rfl) _ _ hrg8 Tryz.underlying66 rfl (by exact ask_inf) ?_) | fail)
            refine cS'.out.mono ?_
            rintro e w9 ⟨a1, k1, rfl, ⟨_, ho1⟩, _, hS9, hO9⟩
            obtain ⟨hP9, hO9'⟩ := hP8.out.doS2 (K' := fun q => q = tb ∨ (Value.slice a1 R.rows.length k1).ownBlock = some q) hS9 hO9 (fun q hq => by
              rcases hq with hq | hq
              · exact .inl hq
              · exact .inr (ho1.lt q hq))
            have hI9 := Lib.hid (hI8.out.mut hO9')
            have htbl := (OwnC.lt hI8.out.2.2 tb rfl).2
            have hab : Hid (∀ q, (Value.slice a1 R.rows.length k1).ownBlock = some q → q ≠ tb) := Lib.hid (fun q hq he => by have := (ho1.lt q hq).1; omega)
            have ho1' := Lib.hid (ho1.weak hX.out.size)
            have hP9' := Lib.hid hP9
            obtain ⟨X14, hX14⟩ : ∃ X, Hid (X = w9.heap.size) := ⟨_, Lib.hid rfl⟩
            obtain ⟨V14, hV14⟩ : ∃ W, Hid (W = w9.alloc (.cells #[.int .i64 R.e, .bool R.yes, .slice a1 R.rows.length k1] 74)) := ⟨_, Lib.hid rfl⟩
            have hE14 : Ext w9 V14 := by rw [hV14.out]; exact (Ext.refl _).alloc _
            have hr14 : Hid (V14.heap[X14]? = some (.cells #[.int .i64 R.e, .bool R.yes, .slice a1 R.rows.length k1] 74 (0, 0))) := Lib.hid (by rw [hV14.out, hX14.out]; exact heap_alloc_new w9 _)
            clear ho1 hS9 hO9 hO9' hP9 y1 y2 hrg8 cS'
            go_upto_region 15 with fail
            rw [← hX14.out, ← hV14.out]
            have hI14 := Lib.hid (hI9.out.ext hE14)
            have hP14 := Lib.hid (hP9'.out.ext hE14)
            obtain ⟨y0, y1, y2⟩ := act_cells (row_rng hI14.out.1)
            rw [Nat.zero_add] at y1 y2
            have hra := act_ask (row_rng hI14.out.1)
            unfold Ac.av at hra
            rw [← hM.out] at hra
            unfold Ak.row at hra
            clear hV14 hX14 y0 hI9 hP9'
            have cR' := Lib.hid (cR.out V14 hP14.out.states.2 hP14.out.grown)
            clear cR
            go_wp2_with (first | (refine wpList_load_mid (by rfl) 66 (.tmp 59) (by rfl) X7 3 (by rfl) _ _ hra Tryz.underlying66 rfl (by exact ask_inf) ?_) | fail)
            refine cR'.out.mono ?_
            rintro e w11 ⟨a2, k2, rfl, ho2, _, hO11, hR11⟩
            obtain ⟨hP11, hO11'⟩ := hP14.out.doR hR11 hO11
            have hI11 := Lib.hid (hI14.out.mut hO11')
            have ho1b := Lib.hid (mut_own hO11' (ho1'.out.ext hE14) (by decide) (by decide) (fun hb => (own_not hb).2.2.1 rfl))
            have hr11 := Lib.hid (mut_row hO11' hr14.out (by decide) (by decide) not_own_reply)
            have ho2' := Lib.hid ho2
            have hP11' := Lib.hid hP11
            obtain ⟨X16, hX16⟩ : ∃ X, Hid (X = w11.heap.size) := ⟨_, Lib.hid rfl⟩
            obtain ⟨V16, hV16⟩ : ∃ W, Hid (W = w11.alloc (.cells #[.int .i64 R.e, .bool R.yes, .slice a2 R.rows.length k2] 74)) := ⟨_, Lib.hid rfl⟩
            have hE16 : Ext w11 V16 := by rw [hV16.out]; exact (Ext.refl _).alloc _
            have hr16 : Hid (V16.heap[X16]? = some (.cells #[.int .i64 R.e, .bool R.yes, .slice a2 R.rows.length k2] 74 (0, 0))) := Lib.hid (by rw [hV16.out, hX16.out]; exact heap_alloc_new w11 _)
            clear ho2 hR11 hO11 hO11' hP11 y1 y2 hra cR' hI14 hP14 ho1' hr14
            unfold reH
            go_upto_region 16 with fail
            rw [← hX16.out, ← hV16.out]
            clear hV16 hX16
            have hsr := sreply_any V16 R.e R.e R.yes R.yes R.rows R.rows a1 a2 k1 k2 (ho1b.out.ext hE16).row (ho2'.out.ext hE16).row
            rw [decide_eq_true ⟨rfl, rfl, rfl⟩] at hsr
            have hsr' := Lib.hid hsr
            obtain ⟨u0, u1, u2⟩ := re_cells (hE16.row hr11.out)
            obtain ⟨v0, v1, v2⟩ := re_cells hr16.out
            clear hsr
            go_wp2_with fail
            refine hsr'.out.mono ?_
            rintro e w17 ⟨rfl, hE17⟩
            have hX17 := hE16.trans hE17
            have hP17 := hP11'.out.ext hX17
            have hI17 := Lib.hid (hI11.out.ext hX17)
            have hkp := Lib.hid (bn_reply (K' := fun q => q = tb) hP17 (fun q hq => .inl hq) (by omega) R.e R.yes a1 R.rows.length k1 _ (ho1b.out.ext hX17) (by omega) (fun q hq => .inr hq) (fun q hq he => hab.out q he hq))
            clear u0 u1 u2 v0 v1 v2 hsr' hP17
            obtain ⟨u0, u1, u2⟩ := re_cells (hX17.row hr11.out)
            go_wp2_with fail
            refine hkp.out.mono ?_
            rintro e w18 ⟨rfl, hP18, hO18⟩
            have hP18' := Lib.hid hP18
            have hI18 := Lib.hid (hI17.out.mut hO18)
            clear hP18 hO18 hkp u0 u1 u2
            go_wp2_with fail
            go_meet
            exact ⟨n + 1, st, mb, r, R.m, rfl, rfl, by omega, by omega, hRs, hRf, hP18', hI18⟩
      case rest =>
        obtain ⟨n', st', mb', r', m', rfl, rfl, hn', hm', hsm', hfi', hP, hI⟩ := hcut
        have hX := Lib.hid hP.out.grown
        have hS := hP.out.states
        obtain ⟨B, hB⟩ : ∃ B, B = c.ask.okB := ⟨_, rfl⟩
        have gt : Hid (∀ W, Ext wc W → W.rangeAt X8 0 [.int .u8 c.ask.kind, .string c.ask.key, .string c.ask.val, .string c.ask.old, .bool c.ask.new, .string c.ask.to, .int .i64 c.ask.many, .slice (some ⟨tb, 0, none⟩) M tc]) := Lib.hid (fun W hE => ask_rng (hI.out.ext hE).2.1)
        have gx : Hid (∀ W, Ext wc W → W.rangeAt X7 3 [.int .u8 c.ask.kind, .string c.ask.key, .string c.ask.val, .string c.ask.old, .bool c.ask.new, .string c.ask.to, .int .i64 c.ask.many, .slice c.ad M c.cap]) := Lib.hid (fun W hE => by
          have h := act_ask (row_rng (hI.out.ext hE).1)
          unfold Ac.av at h
          rw [← hM.out] at h
          exact h)
        have hcT : Hid (∀ W base, TwC W base tb M tc c.ask.chs → ChsAt W c.ask.chs (some ⟨tb, 0, none⟩) tc) := Lib.hid (fun W base h => ⟨by rw [← hM.out]; exact (h.own hM.out).row, by rw [← hM.out]; omega, (hcA.out wc hX.out).2.2⟩)
        have q1 : Hid (∀ W, Ext wc W → Calls Tryz.prog 34 #[.agg #[.int .u8 c.ask.kind, .string c.ask.key, .string c.ask.val, .string c.ask.old, .bool c.ask.new, .string c.ask.to, .int .i64 c.ask.many, .slice (some ⟨tb, 0, none⟩) M tc]] W fun e w' => e = .returned (.bool B) ∧ Ext W w') := Lib.hid (fun W hE => by
          have h := check_any W c.ask (some ⟨tb, 0, none⟩) tc (hcT.out W _ (hI.out.ext hE).2.2) g5'.out
          rw [← hM.out, ← hB] at h
          exact h)
        have q2 : Hid (∀ W, Ext wc W → Calls Tryz.prog 35 #[.agg #[.int .u8 c.ask.kind, .string c.ask.key, .string c.ask.val, .string c.ask.old, .bool c.ask.new, .string c.ask.to, .int .i64 c.ask.many, .slice c.ad M c.cap]] W fun e w' => e = .returned (.bool B) ∧ Ext W w') := Lib.hid (fun W hE => by
          have h := checkR_any W c.ask c.ad c.cap (hcA.out W (hX.out.trans hE)) g5'.out
          rw [← hM.out, ← hB] at h
          exact h)
        have q3 : Hid (∀ W, Ext wc W → Calls Tryz.prog 36 #[.pointer (some ⟨st', 0, none⟩), .pointer (some ⟨r', 0, none⟩)] W fun e w' => e = .returned (.bool true) ∧ Ext W w') := Lib.hid (fun W hE => same_any (hS.1.ext hE) (hS.2.ext hE) hsm'.out (by omega))
        have q4 : Hid (∀ W, Ext wc W → Calls Tryz.prog 37 #[.agg #[.int .u8 c.ask.kind, .string c.ask.key, .string c.ask.val, .string c.ask.old, .bool c.ask.new, .string c.ask.to, .int .i64 c.ask.many, .slice (some ⟨tb, 0, none⟩) M tc], .agg #[.int .u8 c.ask.kind, .string c.ask.key, .string c.ask.val, .string c.ask.old, .bool c.ask.new, .string c.ask.to, .int .i64 c.ask.many, .slice c.ad M c.cap]] W fun e w' => e = .returned (.bool true) ∧ Ext W w') := Lib.hid (fun W hE => leftA_any W c.ask c.ad c.cap M w.heap.size tb tc hM.out (by rw [hM.out]; exact (hcA.out W (hX.out.trans hE)).1) (by omega) (hI.out.ext hE).2.2)
        clear hB hS g1 g2 g3
        go_upto_region 31 with fail
        refine bqRegion (Ext wc) (by kernel_rfl) (by kernel_rfl) (Ext.refl _).drew ?_
        refine bqMid (by rfl) 66 _ (by rfl) X8 0 (by rfl) _ _ (fun w' hw => gt.out w' hw) Tryz.underlying66 rfl (by exact ask_inf) ?_
        refine bqStep (fun K hK => ?_); go_simp; refine ⟨_, fun w' hw => (q1.out w' hw).mono (fun e w'' h => ⟨h.1, hw.trans h.2⟩), hK _ ?_⟩; clear hK K
        iterate 1 (refine bqStep (fun K hK => ?_); go_simp; first | (refine hK _ ?_; clear hK K) | (refine ⟨_, fun _ _ => rfl, hK _ ?_⟩; clear hK K))
        refine bqMid (by rfl) 66 _ (by rfl) X7 3 (by rfl) _ _ (fun w' hw => gx.out w' hw) Tryz.underlying66 rfl (by exact ask_inf) ?_
        refine bqStep (fun K hK => ?_); go_simp; refine ⟨_, fun w' hw => (q2.out w' hw).mono (fun e w'' h => ⟨h.1, hw.trans h.2⟩), hK _ ?_⟩; clear hK K
        iterate 4 (refine bqStep (fun K hK => ?_); go_simp; first | (refine hK _ ?_; clear hK K) | (refine ⟨_, fun _ _ => rfl, hK _ ?_⟩; clear hK K))
        refine bqStep (fun K hK => ?_); go_simp; refine ⟨_, fun w' hw => (q3.out w' hw).mono (fun e w'' h => ⟨h.1, hw.trans h.2⟩), hK _ ?_⟩; clear hK K
        iterate 3 (refine bqStep (fun K hK => ?_); go_simp; first | (refine hK _ ?_; clear hK K) | (refine ⟨_, fun _ _ => rfl, hK _ ?_⟩; clear hK K))
        refine bqMid (by rfl) 66 _ (by rfl) X8 0 (by rfl) _ _ (fun w' hw => gt.out w' hw) Tryz.underlying66 rfl (by exact ask_inf) ?_
        iterate 1 (refine bqStep (fun K hK => ?_); go_simp; first | (refine hK _ ?_; clear hK K) | (refine ⟨_, fun _ _ => rfl, hK _ ?_⟩; clear hK K))
        refine bqMid (by rfl) 66 _ (by rfl) X7 3 (by rfl) _ _ (fun w' hw => gx.out w' hw) Tryz.underlying66 rfl (by exact ask_inf) ?_
        refine bqStep (fun K hK => ?_); go_simp; refine ⟨_, fun w' hw => (q4.out w' hw).mono (fun e w'' h => ⟨h.1, hw.trans h.2⟩), hK _ ?_⟩; clear hK K
        iterate 2 (refine bqStep (fun K hK => ?_); go_simp; first | (refine hK _ ?_; clear hK K) | (refine ⟨_, fun _ _ => rfl, hK _ ?_⟩; clear hK K))
        refine bqNil (fun w9 hE9 => ?_)
        try simp only [Act.put, List.setIfInBounds_toArray, List.set_cons_zero, List.set_cons_succ]
        have hP9 := Lib.hid (hP.out.ext hE9)
        have hg9 := gt.out w9 hE9
        have hTo := (hI.out.ext hE9).2.2.own hM.out
        have hkp := Lib.hid (bn_ask (K' := fun _ => False) hP9.out (fun q hq => hq.elim) (by omega) c.ask (some ⟨tb, 0, none⟩) M tc _ hTo (by omega) (fun q hq => by
          injection hq with hq
          exact hq.symm) (fun q hq => hq.elim))
        unfold Ak.row at hkp
        clear hTo gt gx q1 q2 q3 q4 hcT hP hI
        go_wp2_with (first | (refine wpList_load_mid (by rfl) 66 (.tmp 8) (by rfl) X8 0 (by rfl) _ _ hg9 Tryz.underlying66 rfl (by exact ask_inf) ?_) | fail)
        refine hkp.out.mono ?_
        rintro e w10 ⟨rfl, hP10, _⟩
        have hP10' := Lib.hid hP10
        clear hP10 hkp hg9
        go_wp2_with fail
        go_roundw
        case rel => exact ⟨k + 1, n' + 1, st', mb', r', m', by omega, rfl, rfl, by go_num, by omega, by omega, hsm', hfi', hP10'⟩
        case measure => simp [intOf]; omega
    · have hli : ¬ (k : Int) < (N : Int) := by omega
      have hmb : m.rows.length ≤ 50000 := by omega
      have hX := Lib.hid hP.out.grown
      have c1 : Hid (∀ W, Ext wr W → Calls Tryz.prog 15 #[.pointer (some ⟨st, 0, none⟩)] W (RowsO m.rows W)) := Lib.hid (fun W hE => stm_rows (hP.out.states.1.ext hE) hsm.out hmb)
      have c3 := Lib.hid (fun W (hE : Ext wr W) => stm_said (hP.out.states.1.ext hE))
      have hl9 := saidL_len m.sd
      have hlen := hP.out.states.1.len
      have hG := Lib.hid hP.out.toG
      clear hP
      go_wp2_with fail
      refine (c1.out wr (Ext.refl _)).mono ?_
      rintro e w2 ⟨aa, ac, rfl, hA2, hE2⟩
      have hA2' := Lib.hid hA2
      clear hA2 c1
      go_wp2_with fail
      refine (c3.out w2 hE2).mono ?_
      rintro e w3 ⟨ba, bc, rfl, hB3, hE3⟩
      obtain ⟨bl, hbl⟩ : ∃ z, z = (saidL m.sd).length := ⟨_, rfl⟩
      rw [← hbl] at hB3 hl9 ⊢
      have hbl' := Lib.hid hbl
      have hG3 : Hid (PlayG (fun q => (Value.slice aa m.rows.length ac).ownBlock = some q ∨ (Value.slice ba bl bc).ownBlock = some q) w st mb r g n m.rows (m.sd.zipIdx.map toSa) ((saidL m.sd).map toSa) w3) := Lib.hid ((hG.out.more hE2 (K' := fun q => (Value.slice aa m.rows.length ac).ownBlock = some q) (fun q hq => .inr (hA2'.out.lt q hq))).more hE3 (fun q hq => by
        rcases hq with hq | hq
        · exact .inl hq
        · exact .inr (hB3.lt q hq)))
      have hab : Hid (∀ q, (Value.slice ba bl bc).ownBlock = some q → (Value.slice aa m.rows.length ac).ownBlock ≠ some q) := Lib.hid (fun q hq he => by
        have h1 := (hB3.lt q hq).1
        have h2 := (hA2'.out.lt q he).2
        omega)
      have hA3 := Lib.hid ((hA2'.out.ext hE3).weak hX.out.size)
      have hB3' := Lib.hid (hB3.weak (Nat.le_trans hX.out.size hE2.size))
      clear hA2' hB3 hbl c3 hG
      go_wp2_with fail
      refine (pg_row (K' := fun q => (Value.slice ba bl bc).ownBlock = some q) hG3.out (fun q hq => .inr hq) (by omega) aa m.rows.length ac _ hA3.out (by omega) (fun q hq => .inl hq) (fun q hq he => hab.out q hq he)).mono ?_
      rintro e w4 ⟨rfl, hG4, hO4⟩
      have hG4' := Lib.hid hG4
      have hB4 := Lib.hid (mg_own hO4 hB3'.out said_own)
      clear hG4 hO4 hG3 hA3 hB3'
      go_wp2_with fail
      refine (pg_saids (K' := fun _ => False) hG4'.out (fun q hq => hq.elim) ((saidL m.sd).map toSa) ba bl bc (by rw [List.length_map]; exact hbl'.out) (by omega) (by omega) (by rw [flat_toSa]; exact hB4.out) (fun p hp => by
        obtain ⟨y, _, rfl⟩ := List.mem_map.1 hp
        exact OwnC.nil _ _ _ _) (List.pairwise_map.2 (said_rise m.sd |>.imp (fun _ q hq => by cases hq))) (fun p hp => by
        obtain ⟨y, _, rfl⟩ := List.mem_map.1 hp
        simp [toSa]) (fun q hq => hq) (fun q ⟨p, hp, hb⟩ => by
        obtain ⟨y, _, rfl⟩ := List.mem_map.1 hp
        cases hb) (fun q hq => hq.elim)).mono ?_
      rintro e w5 ⟨rfl, hG5, _⟩
      have hG5' := Lib.hid hG5
      clear hG5 hG4' hB4
      go_wp2_with fail
      refine (pg_apart hG5'.out (by have : numTop = 1000 := rfl; omega)).mono ?_
      rintro e w6 ⟨rfl, hE6⟩
      go_wp2_with fail
      go_ret
      exact ⟨rfl, hE6⟩
end Go.Proofs.YthageoibkeebhaaGreatDoor
