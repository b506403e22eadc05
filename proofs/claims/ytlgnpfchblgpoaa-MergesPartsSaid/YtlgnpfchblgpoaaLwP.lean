/- MergesParts: the walk. No condition. -/
import Derived.Test.YtlgnpfchblgpoaaLw1
import Derived.Test.YtlgnpfchblgpoaaPm5
import Derived.Test.YtlgnpfchblgpoaaOwnS
import Derived.Deep.CutRange
namespace Go.Proofs.Ytlgnpfchblgpoaa
open Go.RowKit
set_option maxRecDepth 100000
set_option maxHeartbeats 2000000
theorem mergesParts_walk (w : World) (v0 : Value) (o0 : ∃ n, OKC Try.prog w n 22 [v0]) (v1 : Value) (o1 : ∃ n, OKC Try.prog w n 37 [v1]) (key : ByteArray) (_o2 : ∃ n, OKC Try.prog w n 9 [.string key]) :
    Calls Try.prog 7 #[v0, v1, .string key] w fun e w' => e = .returned (.bool true) ∧ Ext w w' := by
  obtain ⟨l, a, cap, rfl, hg, h1, hby⟩ := okc_entries o0
  obtain ⟨ks, ka, kc, rfl, hks, hK⟩ := okc_nums o1
  have hS : SlIs w (.slice a l.length cap) l := ⟨a, cap, rfl, h1⟩
  have hks0 : Hid (ks[0]?.getD 5 < 18446744073709551616) := Lib.hid (by cases ks with | nil => decide | cons s t => exact hks s (List.mem_cons_self ..))
  obtain ⟨n, hn⟩ : ∃ n, n = l.length := ⟨_, rfl⟩
  obtain ⟨kn, hkn⟩ : ∃ n, n = ks.length := ⟨_, rfl⟩
  rw [← hn] at hS hby ⊢
  rw [← hkn] at hK ⊢
  have hn' := Lib.hid hn
  have hkn' := Lib.hid hkn
  have hK' := Lib.hid hK
  have hS' := Lib.hid hS
  have hsq' := Lib.hid (good_seq hg)
  have hg' := Lib.hid hg
  have hby' := Lib.hid (show l.length * 48 ≤ 140737488351232 by omega)
  have hks' := Lib.hid hks
  clear o0 o1 _o2 hg h1 hby hn hkn hK hS hks
  go_enter Try.func7, Try.ntmps7
  go_wp2_with fail
  refine (alive_any w).mono ?_
  rintro e w1 ⟨rfl, hE1⟩
  go_wp2_with fail
  refine (many_ok w1 l _ (hS'.out.ext hE1) hg'.out hby'.out).mono ?_
  rintro e w2 ⟨rfl, hE2⟩
  replace hE2 := hE1.trans hE2
  clear hE1
  cases hm : manyB l with
  | true =>
    clear hm
    go_wp2_with fail
    refine (alive_any w2).mono ?_
    rintro e w3 ⟨rfl, hE3⟩
    go_wp2_with fail
    go_ret
    exact ⟨rfl, hE2.trans hE3⟩
  | false =>
    have hml := many_len hm
    have hl1' := Lib.hid (show l.length ≤ 1000 by omega)
    have hn150 : n ≤ 150 := by rw [hn'.out]; exact hml
    clear hm hml
    by_cases hk : 20 < kn
    · have hki : (20 : Int) < (kn : Int) := by omega
      go_wp2_with fail
      refine (alive_any w2).mono ?_
      rintro e w3 ⟨rfl, hE3⟩
      go_wp2_with fail
      go_ret
      exact ⟨rfl, hE2.trans hE3⟩
    have hki : ¬ (20 : Int) < (kn : Int) := by omega
    by_cases hk2 : 1000 < key.size
    · have hki : (1000 : Int) < (key.size : Int) := by omega
      go_wp2_with fail
      refine (alive_any w2).mono ?_
      rintro e w3 ⟨rfl, hE3⟩
      go_wp2_with fail
      go_ret
      exact ⟨rfl, hE2.trans hE3⟩
    · have hki2 : ¬ (1000 : Int) < (key.size : Int) := by omega
      go_wp2_with fail
      refine (lris_ok w2 l _ (hS'.out.ext hE2)).mono ?_
      rintro e w3 ⟨rfl, hE3⟩
      replace hE3 := hE2.trans hE3
      clear hE2
      cases hr : risesB l with
      | false =>
        clear hr
        go_wp2_with fail
        refine (alive_any w3).mono ?_
        rintro e w4 ⟨rfl, hE4⟩
        go_wp2_with fail
        go_ret
        exact ⟨rfl, hE3.trans hE4⟩
      | true =>
        have hr' := Lib.hid hr
        have hR := Lib.hid ((risesB_iff l).1 hr)
        clear hr
        go_wp2_with fail
        go_loopw [7] (fun k wr => ∃ k' : Nat, k = .int .i64 k' ∧ k' ≤ n ∧ Hid (∀ j x, j < k' → l[j]? = some x → Op.bytesLess x.mark.key.toList key.toList = true) ∧ Ext w3 wr) (fun k _ => n - (intOf k).toNat)
        case atStart => exact ⟨0, rfl, by omega, Lib.hid (fun j x h => by omega), Ext.refl _⟩
        case round =>
          obtain ⟨k, rfl, hkn2, hall, hE⟩ := hrel
          obtain ⟨B, hB⟩ : ∃ b : Bool, b = (match l[k]? with | some x => Op.bytesLess x.mark.key.toList key.toList | none => false) := ⟨_, rfl⟩
          have hB' := Lib.hid hB
          clear hB
          go_upto_region 4 with fail
          go_cut [55] from 42 to 57 (fun t wx => t = .bool B ∧ wx = wr)
          case first =>
            by_cases hlt : k < n
            · have hlti : (k : Int) < (n : Int) := by omega
              obtain ⟨x, hx⟩ : ∃ x, l[k]? = some x := ⟨_, List.getElem?_eq_getElem (by rw [← hn'.out]; exact hlt)⟩
              obtain ⟨a1, c1, e1, hrr⟩ := hS'.out.ext (hE3.trans hE)
              rw [← hn'.out] at hrr
              obtain ⟨lb, lo, hat⟩ := hrr.at
              obtain ⟨rfl, hcap, hd⟩ := hat (by omega)
              have hrg := ens_range (by rw [← hn'.out]; exact hd) hx
              have p0 : wr.cell? ⟨lb, lo + k * 4, none⟩ = some (.string x.mark.key) := by have := hrg 0 (.string x.mark.key) rfl; simpa using this
              have hBe : Hid (B = Op.bytesLess x.mark.key.toList key.toList) := Lib.hid (by rw [hB'.out, hx])
              clear hat hd hrg e1 hrr hx
              go_wp2_with fail
              go_meet
              exact ⟨by rw [hBe.out], rfl⟩
            · have hlti : ¬ (k : Int) < (n : Int) := by omega
              have hBe : Hid (B = false) := Lib.hid (by rw [hB'.out, List.getElem?_eq_none (by rw [← hn'.out]; omega)])
              go_wp2_with fail
              go_meet
              exact ⟨by rw [hBe.out], rfl⟩
          case rest =>
            obtain ⟨rfl, rfl⟩ := hcut
            cases hb : B with
            | true =>
              have hlt : k < n := by
                rcases Nat.lt_or_ge k n with h | h
                · exact h
                · rw [hB'.out, List.getElem?_eq_none (by rw [← hn'.out]; exact h)] at hb
                  cases hb
              have hall2 : Hid (∀ j x, j < k + 1 → l[j]? = some x → Op.bytesLess x.mark.key.toList key.toList = true) := Lib.hid (fun j y hj hy => by
                rcases Nat.lt_or_ge j k with h | h
                · exact hall.out j y h hy
                · obtain rfl : j = k := by omega
                  rw [hB'.out, hy] at hb
                  exact hb)
              clear hb
              go_wp2_with fail
              go_roundw
              case rel => first | exact ⟨k + 1, by go_num, by omega, hall2, hE⟩ | ((repeat apply Exists.intro); exact ⟨⟨k + 1, by go_num, by omega, hall2, hE⟩, rfl⟩)
              case measure => simp [intOf]; omega
            | false =>
              have hcut : Hid (∀ x ∈ l.take k, ∀ y ∈ l.drop k, Op.bytesLess x.mark.key.toList y.mark.key.toList = true) := Lib.hid (cut_lt hR.out hall.out (fun y hy => by rw [hB'.out, hy] at hb; exact hb))
              have hnc : n ≤ cap := by
                obtain ⟨a1, c1, e1, hrr⟩ := hS'.out
                injection e1 with _ _ e3
                subst e3
                rcases Nat.eq_zero_or_pos n with h | h
                · omega
                · rw [← hn'.out] at hrr
                  obtain ⟨_, _, hat⟩ := hrr.at
                  exact (hat h).2.1
              have hkc : k ≤ cap := by omega
              have hkc0 : 0 ≤ (k : Int) := by omega
              obtain ⟨A, hA⟩ : ∃ z, z = l.take k := ⟨_, rfl⟩
              obtain ⟨D, hD⟩ : ∃ z, z = l.drop k := ⟨_, rfl⟩
              have hAr : Rises A := by rw [hA]; exact hR.out.sublist (List.take_sublist k l)
              have hDr : Rises D := by rw [hD]; exact hR.out.sublist (List.drop_sublist k l)
              have hArb := Lib.hid ((risesB_iff A).2 hAr)
              have hDrb := Lib.hid ((risesB_iff D).2 hDr)
              have hAl : Hid (A.length ≤ 1000) := Lib.hid (by rw [hA]; have := List.length_take_le k l; have := hl1'.out; rw [List.length_take]; omega)
              have hDl : Hid (D.length ≤ 1000) := Lib.hid (by rw [hD, List.length_drop]; have := hl1'.out; omega)
              have hAs : Hid (∀ e ∈ A, e.mark.seq ≤ 18446744073709551615) := Lib.hid (fun e he => hsq'.out e (by rw [hA] at he; exact List.mem_of_mem_take he))
              have hDs : Hid (∀ e ∈ D, e.mark.seq ≤ 18446744073709551615) := Lib.hid (fun e he => hsq'.out e (by rw [hD] at he; exact List.mem_of_mem_drop he))
              have hSA : Hid (SlIs w (.slice a k cap) A) := Lib.hid (by rw [hA]; exact hS'.out.take hn'.out hkn2)
              have hSD : Hid (SlIs w (.slice (tailAddr a cap k 4) (n - k) (cap - k)) D) := Lib.hid (by rw [hD]; exact hS'.out.drop hn'.out k)
              have hsp := Lib.hid (fun lk la => thin_split hR.out hcut.out lk la)
              have hss := Lib.hid (fun s => see_split hR.out hcut.out s)
              rw [← hA, ← hD] at hsp hss
              have hwE := hE3.trans hE
              clear hb hA hD hE hE3 hAr hDr
              go_wp2_with fail
              refine (thin_ok wc A ks true _ ka kn kc (hSA.out.ext hwE) hkn'.out (hK'.out.ext hwE) hArb.out hAl.out (by omega) hAs.out).mono ?_
              rintro e w4 ⟨aa, ac, an, rfl, han, hA4, hE4⟩
              have hA4' := Lib.hid hA4
              replace hE4 := hwE.trans hE4
              clear hwE hA4
              go_upto_region 7 with fail
              go_cut [10, 11] from 20 to 151 (fun b f wx => ∃ ba bc bn, b = .slice ba bn bc ∧ f = .int .i64 0 ∧ Hid (bn = (thinL D ks true).length) ∧ SlIs wx (.slice ba bn bc) (thinL D ks true) ∧ Ext w4 wx)
              case first =>
                have hth := thin_ok w4 D ks true _ ka kn kc (hSD.out.ext hE4) hkn'.out (hK'.out.ext hE4) hDrb.out hDl.out (by omega) hDs.out
                by_cases hck : cap = k
                · subst hck
                  have hta : tailAddr a cap cap 4 = a := by unfold tailAddr; rw [if_pos rfl]
                  rw [hta, Nat.sub_self, show n - cap = 0 by omega] at hth
                  clear hta
                  go_wp2_with fail
                  refine hth.mono ?_
                  rintro e w5 ⟨ba, bc, bn, rfl, hbn, hB5, hE5⟩
                  go_wp2_with fail
                  go_meet
                  exact ⟨ba, bc, bn, rfl, rfl, hbn, hB5, hE5⟩
                · have hta : tailAddr a cap k 4 = Option.map (fun x => x.add (k * 4)) a := by unfold tailAddr; rw [if_neg hck]
                  rw [hta] at hth
                  clear hta
                  go_wp2_with fail
                  refine hth.mono ?_
                  rintro e w5 ⟨ba, bc, bn, rfl, hbn, hB5, hE5⟩
                  go_wp2_with fail
                  go_meet
                  exact ⟨ba, bc, bn, rfl, rfl, hbn, hB5, hE5⟩
              case rest =>
                obtain ⟨ba, bc, bn, rfl, rfl, hbn, hB5, hE5⟩ := hcut
                have hA5 := Lib.hid (hA4'.out.ext hE5)
                have hB5' := Lib.hid hB5
                replace hE5 := hE4.trans hE5
                clear hE4 hA4' hB5
                go_wp2_with fail
                refine (thin_ok wc l ks true _ ka kn kc (hS'.out.ext hE5) hkn'.out (hK'.out.ext hE5) hr'.out hl1'.out (by omega) hsq'.out).mono ?_
                rintro e w6 ⟨ta, tc, tn, rfl, htn, hT6, hE6⟩
                have hA6 := hA5.out.ext hE6
                have hB6 := hB5'.out.ext hE6
                replace hE6 := hE5.trans hE6
                obtain ⟨T, hTT⟩ : ∃ z, z = thinL l ks true := ⟨_, rfl⟩
                obtain ⟨TA, hTA⟩ : ∃ z, z = thinL A ks true := ⟨_, rfl⟩
                obtain ⟨TD, hTD⟩ : ∃ z, z = thinL D ks true := ⟨_, rfl⟩
                have hTap : Hid (T = TA ++ TD) := Lib.hid (by rw [hTT, hTA, hTD]; exact hsp.out ks true)
                have hTr : Hid (Rises T) := Lib.hid (by rw [hTT]; exact thin_rises hR.out)
                have hTl : Hid (T.length ≤ 1000) := Lib.hid (by rw [hTT]; have := (thin_sub (looks := ks) (last := true) hR.out).length_le; have := hl1'.out; omega)
                rw [← hTT] at htn hT6
                rw [← hTA] at han hA6
                rw [← hTD] at hbn hB6
                have hT6' := Lib.hid hT6
                have hA6' := Lib.hid hA6
                have hB6' := Lib.hid hB6
                clear hTT hTA hTD hT6 hA6 hB6 hE5 hA5 hB5'
                go_wp2_with fail
                obtain ⟨W7, hW7⟩ : ∃ W, W = w6.alloc (.cells #[.slice ba bn bc, .slice aa an ac] 22) := ⟨_, rfl⟩
                have hE67 : Ext w6 W7 := by rw [hW7]; exact (Ext.refl _).alloc _
                have hrw7 : W7.heap[w6.heap.size]? = some (.cells #[.slice ba bn bc, .slice aa an ac] 22 (0, 0)) := by rw [hW7]; exact heap_alloc_new w6 _
                rw [← hW7]
                clear hW7
                refine (merge_ok W7 [(.slice ba bn bc, TD), (.slice aa an ac, TA)] T 2 tn _ 2 rfl htn.out (two_row _ _ hrw7) (fun p hp => ?_) (by show 2 ≤ 1000; decide) (fun p hp => ?_) hTr.out ?_ (by have := hTl.out; omega)).mono ?_
                · rcases List.mem_cons.1 hp with rfl | hp
                  · exact hB6'.out.ext hE67
                  · rw [List.mem_singleton.1 hp]; exact hA6'.out.ext hE67
                · have h1 : Rises (TA ++ TD) := by rw [← hTap.out]; exact hTr.out
                  rcases List.mem_cons.1 hp with rfl | hp
                  · exact h1.sublist (List.sublist_append_right _ _)
                  · rw [List.mem_singleton.1 hp]; exact h1.sublist (List.sublist_append_left _ _)
                · rw [hTap.out]
                  show (TD ++ (TA ++ [])).Perm (TA ++ TD)
                  rw [List.append_nil]
                  exact List.perm_append_comm
                rintro e w8 ⟨ma, mc, rfl, hM8, hE8⟩
                have hE68 := hE67.trans hE8
                have hT8 := hT6'.out.ext hE68
                have hM8' : SlIs w8 (.slice ma tn mc) T := ⟨ma, mc, by rw [htn.out], by rw [← htn.out]; exact hM8.row⟩
                have hEw8 := hE6.trans hE68
                clear hrw7 hE67 hE8 hE68 hM8
                go_wp2_with fail
                refine (al_same w8 T _ _ hT8 hM8').mono ?_
                rintro e w9 ⟨rfl, hE9⟩
                replace hE9 := hEw8.trans hE9
                clear hT8 hM8' hEw8 hT6' hA6' hB6' hE6
                obtain ⟨sq, hsq2⟩ : ∃ z, z = ks[0]?.getD 5 := ⟨_, rfl⟩
                have hsq3 := Lib.hid hsq2
                have hsqb : sq < 18446744073709551616 := by rw [hsq2]; exact hks0.out
                clear hsq2
                go_upto_if 109 with fail
                go_cut [16] from 20 to 151 (fun s wx => s = .int .u64 sq ∧ wx = w9)
                case first =>
                  by_cases h0 : 0 < kn
                  · have h0i : (0 : Int) < (kn : Int) := by omega
                    obtain ⟨s0, hs0⟩ : ∃ s0, ks[0]? = some s0 := ⟨_, List.getElem?_eq_getElem (by rw [← hkn'.out]; exact h0)⟩
                    have hsv : Hid (sq = s0) := Lib.hid (by rw [hsq3.out, hs0]; rfl)
                    obtain ⟨kb, kof, hat⟩ := (hK'.out.ext hE9).at
                    obtain ⟨rfl, _, hd⟩ := hat h0
                    have hkc := hd 0 (by omega)
                    rw [nuL, List.getElem?_map, hs0] at hkc
                    have hkc2 : w9.cell? ⟨kb, kof, none⟩ = some (.int .u64 (s0 : Int)) := hkc
                    clear hat hd hkc hs0
                    go_wp2_with fail
                    go_meet
                    exact ⟨by rw [hsv.out], rfl⟩
                  · have h0i : ¬ (0 : Int) < (kn : Int) := by omega
                    have hsv : Hid (sq = 5) := Lib.hid (by rw [hsq3.out, List.getElem?_eq_none (by rw [← hkn'.out]; omega)]; rfl)
                    go_wp2_with fail
                    go_meet
                    exact ⟨by rw [hsv.out]; rfl, rfl⟩
                case rest =>
                  obtain ⟨rfl, rfl⟩ := hcut
                  clear hks0 hsq3 han hbn hTr hTl htn hTap
                  go_wp2_with fail
                  refine (see_own wc A sq _ (hSA.out.ext hE9) hArb.out hAl.out).mono ?_
                  rintro e w10 ⟨xa, xc, xn, rfl, hxn, hX, hE10⟩
                  obtain ⟨b0, hb0⟩ : ∃ z, z = wc.heap.size := ⟨_, rfl⟩
                  rw [← hb0] at hX
                  have hwb : w.heap.size ≤ b0 := by rw [hb0]; exact hE9.size
                  have hbw : b0 ≤ w10.heap.size := by rw [hb0]; exact hE10.size
                  have hxn2 : xn ≤ 1000 := by rw [hxn.out]; have := see_len A sq; have := hAl.out; omega
                  replace hE10 := hE9.trans hE10
                  clear hE9 hb0
                  go_upto_region 16 with fail
                  go_cut [18, 11] from 20 to 151 (fun b f wx => ∃ ba bc bn, b = .slice ba bn bc ∧ f = .int .i64 0 ∧ Hid (bn = (seeL D sq).length) ∧ RwIs wx (.slice ba bn bc) (seeL D sq) ∧ Ext w10 wx)
                  case first =>
                    have hth := see_ok w10 D sq _ (hSD.out.ext hE10) hDrb.out hDl.out
                    by_cases hck : cap = k
                    · subst hck
                      have hta : tailAddr a cap cap 4 = a := by unfold tailAddr; rw [if_pos rfl]
                      rw [hta, Nat.sub_self, show n - cap = 0 by omega] at hth
                      clear hta
                      go_wp2_with fail
                      refine hth.mono ?_
                      rintro e w5 ⟨ba, bc, bn, rfl, hbn, hB5, hE5⟩
                      go_wp2_with fail
                      go_meet
                      exact ⟨ba, bc, bn, rfl, rfl, hbn, hB5, hE5⟩
                    · have hta : tailAddr a cap k 4 = Option.map (fun x => x.add (k * 4)) a := by unfold tailAddr; rw [if_neg hck]
                      rw [hta] at hth
                      clear hta
                      go_wp2_with fail
                      refine hth.mono ?_
                      rintro e w5 ⟨ba, bc, bn, rfl, hbn, hB5, hE5⟩
                      go_wp2_with fail
                      go_meet
                      exact ⟨ba, bc, bn, rfl, rfl, hbn, hB5, hE5⟩
                  case rest =>
                    obtain ⟨ya, yc, yn, rfl, rfl, hyn, hY, hE11⟩ := hcut
                    have hyn2 : yn ≤ 1000 := by rw [hyn.out]; have := see_len D sq; have := hDl.out; omega
                    have hbw2 : b0 ≤ wc.heap.size := Nat.le_trans hbw hE11.size
                    have hX2 := Lib.hid (hX.out.ext hE11)
                    have hY' := Lib.hid hY
                    replace hE11 := hE10.trans hE11
                    clear hX hY hE10
                    go_wp2_with fail
                    refine (see_own wc l sq _ (hS'.out.ext hE11) hr'.out hl1'.out).mono ?_
                    rintro e w12 ⟨za, zc, zn, rfl, hzn, hZ, hE12⟩
                    have hbw3 : b0 ≤ w12.heap.size := Nat.le_trans hbw2 hE12.size
                    have hX12 := Lib.hid (hX2.out.ext hE12)
                    have hY12 : Hid (RowIs w12 2 (.slice ya yn yc) yn ((seeL D sq).flatMap rwL)) := Lib.hid (by
                      obtain ⟨a1, c1, e1, h2⟩ := hY'.out.ext hE12
                      rw [← hyn.out] at h2
                      exact h2)
                    have hsep : Hid ((Value.slice xa xn xc).ownBlock = none ∨ (Value.slice za zn zc).ownBlock ≠ (Value.slice xa xn xc).ownBlock) := Lib.hid (by
                      cases hb : (Value.slice xa xn xc).ownBlock with
                      | none => exact .inl rfl
                      | some g =>
                        refine .inr fun e => ?_
                        have h1 := (hX2.out.lt g hb).2
                        have h2 := (hZ.out.lt g e).1
                        omega)
                    have hEw12 := hE11.trans hE12
                    clear hX2 hY' hE11 hE12 hbw hbw2
                    go_wp2_with (first | (at_builtin; go_loud (refine wpList_append_cs_k (by rfl) (.tmp 147) (.tmp 148) 40 46 (by rfl) Try.underlying40 el_row w12 b0 xn _ (.slice xa xn xc) (by rfl) hX12.out _ yn _ (by rfl) hY12.out (rwl_one _) (by omega) (by omega) hbw3 ?_); go_loud (intro v' w13 hown13 hb13 hg13; obtain ⟨oa, oc, rfl, _⟩ := hown13.form)) | fail)
                    have hZ13 : RwIs w13 (.slice za zn zc) (seeL l sq) := ⟨za, zc, by rw [hzn.out], by
                      rw [← hzn.out]
                      refine (hZ.out.kept hg13 ?_).row
                      rcases hsep.out with h | h
                      · rw [h]
                        cases (Value.slice za zn zc).ownBlock with
                        | none => exact .inl rfl
                        | some g => exact .inr (by simp)
                      · exact .inr h⟩
                    have hln : xn + yn = (seeL l sq).length := by rw [hss.out, List.length_append, ← hxn.out, ← hyn.out]
                    have hXY : RwIs w13 (.slice oa (xn + yn) oc) (seeL l sq) := ⟨oa, oc, by rw [hln], by
                      rw [← hln, hss.out, List.flatMap_append]
                      exact hown13.row⟩
                    have hE13 : Ext w w13 := Below.trans hEw12 (hb13.mono hwb)
                    refine (al_sameR w13 _ _ _ hZ13 hXY).mono ?_
                    rintro e w14 ⟨rfl, hE14⟩
                    go_wp2_with fail
                    go_ret
                    exact ⟨rfl, hE13.trans hE14⟩
end Go.Proofs.Ytlgnpfchblgpoaa
