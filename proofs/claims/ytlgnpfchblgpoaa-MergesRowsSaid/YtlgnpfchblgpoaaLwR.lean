/- MergesRows: the walk. No condition. -/
import Derived.Test.YtlgnpfchblgpoaaLw0
import Derived.Test.YtlgnpfchblgpoaaPm5
import Derived.Deep.CutRange
namespace Go.Proofs.Ytlgnpfchblgpoaa
open Go.RowKit
set_option maxRecDepth 100000
set_option maxHeartbeats 2000000
theorem ext_draws {a w : World} (h : Ext a w) (n : Nat) : Ext a (w.drewN n) := h.trans ⟨rfl, rfl, rfl, Nat.le_refl _, fun _ _ => rfl⟩
theorem mergesRows_walk (w : World) (v0 : Value) (o0 : ∃ n, OKC Try.prog w n 22 [v0]) (s0 : Int) (o1 : ∃ n, OKC Try.prog w n 27 [.int .u64 s0]) :
    Calls Try.prog 5 #[v0, .int .u64 s0] w fun e w' => e = .returned (.bool true) ∧ Ext w w' := by
  obtain ⟨l, a, cap, rfl, hg, h1, hby⟩ := okc_entries o0
  obtain ⟨s, rfl, hs⟩ := okc_nat Try.underlying27 (fun _ h => wf_u64 h) o1
  have hS : SlIs w (.slice a l.length cap) l := ⟨a, cap, rfl, h1⟩
  obtain ⟨n, hn⟩ : ∃ n, n = l.length := ⟨_, rfl⟩
  rw [← hn] at hS hby ⊢
  have hn' := Lib.hid hn
  have hS' := Lib.hid hS
  have hsq' := Lib.hid (good_seq hg)
  have hg' := Lib.hid hg
  have hby' := Lib.hid (show l.length * 48 ≤ 140737488351232 by omega)
  clear o0 o1 hg h1 hby hn hS
  go_enter Try.func5, Try.ntmps5
  go_wp2_with fail
  refine (alive_any w).mono ?_
  rintro e w1 ⟨rfl, hE1⟩
  go_wp2_with fail
  refine (many_ok w1 l _ (hS'.out.ext hE1) hg'.out hby'.out).mono ?_
  rintro e w2 ⟨rfl, hE2⟩
  replace hE2 := hE1.trans hE2
  clear hE1
  cases hm : manyB l with
  | true =>
    clear hm
    go_wp2_with fail
    refine (alive_any w2).mono ?_
    rintro e w3 ⟨rfl, hE3⟩
    go_wp2_with fail
    go_ret
    exact ⟨rfl, hE2.trans hE3⟩
  | false =>
    have hml := many_len hm
    have hl1' := Lib.hid (show l.length ≤ 1000 by omega)
    have hn150 : n ≤ 150 := by rw [hn'.out]; exact hml
    clear hm hml
    cases hr : risesB l with
    | false =>
      have hr' := Lib.hid hr
      clear hr
      go_wp2_with fail
      refine (see_no w2 l s _ (hS'.out.ext hE2) hr'.out hl1'.out).mono ?_
      rintro e w3 ⟨rfl, hE3⟩
      replace hE3 := hE2.trans hE3
      clear hE2
      go_wp2_with fail
      refine (lris_ok w3 l _ (hS'.out.ext hE3)).mono ?_
      rintro e w4 ⟨rfl, hE4⟩
      rw [hr'.out]
      go_wp2_with fail
      go_ret
      exact ⟨rfl, hE3.trans hE4⟩
    | true =>
      have hr' := Lib.hid hr
      have hR := Lib.hid ((risesB_iff l).1 hr)
      clear hr
      go_wp2_with fail
      refine (see_ok w2 l s _ (hS'.out.ext hE2) hr'.out hl1'.out).mono ?_
      rintro e w3 ⟨ra, rc, rn, rfl, hrn, hrw, hE3⟩
      replace hE3 := hE2.trans hE3
      clear hE2
      obtain ⟨R, hRR⟩ : ∃ R, R = seeL l s := ⟨_, rfl⟩
      rw [← hRR] at hrn hrw
      have hRh : Hid (R = hdL none (l.filter (pS s))) := Lib.hid (by rw [hRR]; exact see_heads hR.out s)
      have hRR' := Lib.hid hRR
      have hrw' := Lib.hid hrw
      clear hRR hrw
      go_wp2_with fail
      go_loopw [7, 8, 9, 10] (fun o nn la i wr => ∃ (k m c : Nat) (oa : Option Addr) (oc : Nat) (kk : ByteArray), k ≤ n ∧ i = .int .i64 k ∧ m ≤ k ∧ c ≤ m ∧ o = .slice oa m oc ∧ nn = .int .i64 c ∧ la = .string kk ∧ Hid (m = ((l.take k).filter (pS s)).length) ∧ Hid (c = (hdL none ((l.take k).filter (pS s))).length) ∧ Hid ((l.take k).filter (pS s) ≠ [] → lastK none ((l.take k).filter (pS s)) = some kk.toList) ∧ OwnC wr w3.heap.size 31 4 (.slice oa m oc) m (((l.take k).filter (pS s)).flatMap enL) ∧ Ext w3 wr) (fun _ _ _ i _ => n - (intOf i).toNat)
      case atStart => exact ⟨0, 0, 0, none, 0, ⟨#[]⟩, by omega, rfl, by omega, by omega, rfl, rfl, rfl, Lib.hid rfl, Lib.hid rfl, Lib.hid (fun h => absurd rfl h), OwnC.nil _ _ _ _, Ext.refl _⟩
      case round =>
        obtain ⟨k, m, c, oa, oc, kk, hk, rfl, hmk, hcm, rfl, rfl, rfl, hmm, hcc, hla, hown, hE⟩ := hrel
        by_cases hlt : k < n
        · have hlti : (k : Int) < (n : Int) := by omega
          obtain ⟨x, hx⟩ : ∃ x, l[k]? = some x := ⟨_, List.getElem?_eq_getElem (by rw [← hn'.out]; exact hlt)⟩
          obtain ⟨lb, lo, hat⟩ := ((hS'.out.ext (hE3.trans hE)).row).at
          obtain ⟨rfl, _, hd⟩ := hat (by rw [← hn'.out]; omega)
          have hrg := ens_range hd hx
          have p0 : wr.cell? ⟨lb, lo + k * 4, none⟩ = some (.string x.mark.key) := by have := hrg 0 (.string x.mark.key) rfl; simpa using this
          have p1 : wr.cell? ⟨lb, lo + k * 4 + 1, none⟩ = some (.int .u64 (x.mark.seq : Int)) := hrg 1 _ rfl
          have p2 : wr.cell? ⟨lb, lo + k * 4 + 2, none⟩ = some (.bool x.mark.gone) := hrg 2 _ rfl
          have p3 : wr.cell? ⟨lb, lo + k * 4 + 3, none⟩ = some (.string x.val) := hrg 3 _ rfl
          have htk : l.take (k + 1) = l.take k ++ [x] := by rw [List.take_add_one, hx]; rfl
          have hfk : (l.take (k + 1)).filter (pS s) = if pS s x then (l.take k).filter (pS s) ++ [x] else (l.take k).filter (pS s) := by
            rw [htk, List.filter_append]
            cases h : pS s x <;> simp [h]
          have hfk' := Lib.hid hfk
          have hx' := Lib.hid hx
          clear hat hd hx htk hfk
          by_cases hss : s < x.mark.seq
          · have hssi : (s : Int) < (x.mark.seq : Int) := by omega
            have hps : pS s x = false := decide_eq_false (by omega)
            have hfe : Hid ((l.take (k + 1)).filter (pS s) = (l.take k).filter (pS s)) := Lib.hid (by rw [hfk'.out, hps]; rfl)
            clear hps hrg p0 p2 p3
            go_wp2_with fail
            go_roundw
            case rel => exact ⟨k + 1, m, c, oa, oc, kk, by omega, by go_num, by omega, hcm, rfl, rfl, rfl, Lib.hid (by rw [hfe.out]; exact hmm.out), Lib.hid (by rw [hfe.out]; exact hcc.out), Lib.hid (by rw [hfe.out]; exact hla.out), by rw [hfe.out]; exact hown, hE⟩
            case measure => simp [intOf]; omega
          · have hssi : ¬ (s : Int) < (x.mark.seq : Int) := by omega
            have hps : pS s x = true := decide_eq_true (by omega)
            have hfe : Hid ((l.take (k + 1)).filter (pS s) = (l.take k).filter (pS s) ++ [x]) := Lib.hid (by rw [hfk'.out, hps]; rfl)
            obtain ⟨r, hr2⟩ := hdL_at (f := pS s) hx'.out hps
            have hRs : Hid (R = hdL none ((l.take k).filter (pS s)) ++ (hd1 (lastK none ((l.take k).filter (pS s))) x ++ r)) := Lib.hid (by rw [hRh.out]; exact hr2)
            have hhe : Hid (hdL none ((l.take (k + 1)).filter (pS s)) = hdL none ((l.take k).filter (pS s)) ++ hd1 (lastK none ((l.take k).filter (pS s))) x) := Lib.hid (by rw [hfe.out, hdL_snoc])
            have hle1 : Hid (lastK none ((l.take (k + 1)).filter (pS s)) = some x.mark.key.toList) := Lib.hid (by rw [hfe.out, lastK_snoc])
            obtain ⟨Bv, hBv⟩ : ∃ b, b = (lastK none ((l.take k).filter (pS s)) != some x.mark.key.toList && !x.mark.gone) := ⟨_, rfl⟩
            have hh1 : Hid (hd1 (lastK none ((l.take k).filter (pS s))) x = if Bv then [rowE x] else []) := Lib.hid (by unfold hd1; rw [← hBv])
            have hBv' := Lib.hid hBv
            clear hps hr2 hBv
            go_upto_region 13 with fail
            go_cut [75] from 40 to 121 (fun t wx => t = .bool Bv ∧ wx = wr)
            case first =>
              cases hgn : x.mark.gone with
              | true =>
                rw [hgn] at p2
                have hB2 : Hid (Bv = false) := Lib.hid (by rw [hBv'.out, hgn]; simp)
                clear hgn
                by_cases hm0 : m = 0
                · subst hm0
                  go_wp2_with fail
                  go_meet
                  exact ⟨by rw [hB2.out], rfl⟩
                · have hmi : ¬ (m : Int) = 0 := by omega
                  have hmd : decide ((m : Int) = 0) = false := decide_eq_false hmi
                  cases hkk : x.mark.key.toList == kk.toList
                  · go_wp2_with fail
                    go_meet
                    exact ⟨by rw [hB2.out], rfl⟩
                  · go_wp2_with fail
                    go_meet
                    exact ⟨by rw [hB2.out], rfl⟩
              | false =>
                rw [hgn] at p2
                have hB1 : Hid (Bv = (lastK none ((l.take k).filter (pS s)) != some x.mark.key.toList)) := Lib.hid (by rw [hBv'.out, hgn]; simp)
                clear hgn
                by_cases hm0 : m = 0
                · have hB2 : Hid (Bv = true) := Lib.hid (by
                    have hnil : (l.take k).filter (pS s) = [] := List.eq_nil_of_length_eq_zero (by rw [← hmm.out]; exact hm0)
                    rw [hB1.out, hnil]; rfl)
                  subst hm0
                  go_wp2_with fail
                  go_meet
                  exact ⟨by rw [hB2.out], rfl⟩
                · have hmi : ¬ (m : Int) = 0 := by omega
                  have hmd : decide ((m : Int) = 0) = false := decide_eq_false hmi
                  have hlk := hla.out (fun e => hm0 (by rw [hmm.out, e]; rfl))
                  cases hkk : x.mark.key.toList == kk.toList
                  · have hB2 : Hid (Bv = true) := Lib.hid (by rw [hB1.out, hlk, bne_iff_ne]; intro e; injection e with e; rw [e] at hkk; simp at hkk)
                    clear hlk
                    go_wp2_with fail
                    go_meet
                    exact ⟨by rw [hB2.out], rfl⟩
                  · have hB2 : Hid (Bv = false) := Lib.hid (by rw [hB1.out, hlk, beq_iff_eq.1 hkk]; simp)
                    clear hlk
                    go_wp2_with fail
                    go_meet
                    exact ⟨by rw [hB2.out], rfl⟩
            case rest =>
              obtain ⟨rfl, rfl⟩ := hcut
              obtain ⟨F, hF⟩ : ∃ z, z = (l.take k).filter (pS s) := ⟨_, rfl⟩
              obtain ⟨F2, hF2⟩ : ∃ z, z = (l.take (k + 1)).filter (pS s) := ⟨_, rfl⟩
              rw [← hF] at hmm hcc hown hRs hhe hh1
              rw [← hF, ← hF2] at hfe
              rw [← hF2] at hhe hle1
              clear hla
              have hF' := Lib.hid hF
              have hF2' := Lib.hid hF2
              have hown' := Lib.hid hown
              clear hF hF2 hown hBv' hfk'
              obtain ⟨c2, hc2⟩ : ∃ z, z = if Bv then c + 1 else c := ⟨_, rfl⟩
              have hcc2 : Hid (c2 = (hdL none F2).length) := Lib.hid (by rw [hc2, hhe.out, hh1.out, List.length_append, ← hcc.out]; cases Bv <;> rfl)
              have hc2' := Lib.hid hc2
              clear hc2
              go_upto_if 75 with fail
              go_cut [8] from 40 to 121 (fun t wx => t = .int .i64 c2 ∧ Ext wc wx)
              case first =>
                cases hb : Bv with
                | false =>
                  have hce : Hid (c2 = c) := Lib.hid (by rw [hc2'.out, hb]; rfl)
                  clear hb
                  go_wp2_with fail
                  go_meet
                  exact ⟨by rw [hce.out], Ext.refl _⟩
                | true =>
                  have hce : Hid (c2 = c + 1) := Lib.hid (by rw [hc2'.out, hb]; rfl)
                  have hRc : R[c]? = some (rowE x) := by
                    rw [hRs.out, hh1.out, hb, List.getElem?_append_right (by rw [← hcc.out]; exact Nat.le_refl _), ← hcc.out, Nat.sub_self]
                    rfl
                  clear hb
                  have hcr : c < rn := by rw [hrn.out]; exact (List.getElem?_eq_some_iff.1 hRc).1
                  obtain ⟨ra', rc', e1, hrr⟩ := hrw'.out.ext hE
                  rw [← hrn.out] at hrr
                  obtain ⟨qb, qo, hat⟩ := hrr.at
                  obtain ⟨rfl, _, hd⟩ := hat (by omega)
                  have hrg2 := rws_range (by rw [← hrn.out]; exact hd) hRc
                  have r0 : wc.cell? ⟨qb, qo + c * 2, none⟩ = some (.string x.mark.key) := by have := hrg2 0 (.string x.mark.key) rfl; simpa using this
                  have r1 : wc.cell? ⟨qb, qo + c * 2 + 1, none⟩ = some (.string x.val) := hrg2 1 _ rfl
                  have hcri : (c : Int) < (rn : Int) := by omega
                  have hcd : decide ((rn : Int) ≤ (c : Int)) = false := decide_eq_false (by omega)
                  clear hat hd hrg2 hRc hrr e1
                  go_upto_region 14 with fail
                  go_quiet (fail)
                  go_wp2_with fail
                  go_meet
                  exact ⟨by rw [hce.out]; go_num, ext_draws (Ext.refl _) _⟩
              case rest =>
                obtain ⟨rfl, hE5⟩ := hcut
                rename_i wb
                have p0 := hE5.cell p0
                have hrg2 : wc.rangeAt lb (lo + k * 4) (enRow x).toList := fun j v hv => hE5.cell (hrg j v hv)
                have hown5 := hown'.out.ext hE5
                have hbs : w3.heap.size ≤ wc.heap.size := (hE.trans hE5).size
                have hown5' := Lib.hid hown5
                clear hown5 hrg p1 p2 p3
                go_wp2_with (first | (refine wpList_load_mid (by rfl) 31 (.tmp 118) (by rfl) lb (lo + k * 4) (by rfl) (enRow x).toList _ hrg2 Try.underlying31 rfl (by exact info_entry) ?_) | (refine wpList_bs_entry (by rfl) (.tmp 119) (by rfl) x (by rfl) ?_) | (at_builtin; go_loud (refine wpList_append_c (by rfl) (.tmp 115) (.tmp 120) 22 31 (by rfl) Try.underlying22 el_entry wc w3.heap.size m _ (.slice oa m oc) (by rfl) hown5'.out (enRow x) (by rfl) (by rfl) (en_all x) (by omega) (by omega) hbs ?_); go_loud (intro v' w6 hA6; obtain ⟨oa4, oc4, rfl, _⟩ := hA6.own.form)) | fail)
                go_roundw
                case rel => exact ⟨k + 1, m + 1, c2, oa4, oc4, x.mark.key, by omega, by go_num, by omega, by have := hc2'.out; cases Bv <;> simp only [if_true, if_false, Bool.false_eq_true] at this <;> omega, rfl, rfl, rfl, Lib.hid (by rw [← hF2'.out, hfe.out, List.length_append, ← hmm.out]; rfl), Lib.hid (by rw [← hF2'.out]; exact hcc2.out), Lib.hid (fun _ => by rw [← hF2'.out]; exact hle1.out), by rw [← hF2'.out, hfe.out, List.flatMap_append, show List.flatMap enL [x] = (enRow x).toList from rfl]; exact hA6.own, Below.trans (hE.trans hE5) hA6.below⟩
                case measure => simp [intOf]; omega
        · have hkn : k = n := by omega
          have htk : (l.take k).filter (pS s) = l.filter (pS s) := by rw [hkn, hn'.out, List.take_length]
          rw [htk] at hmm hcc hown
          rw [← hRh.out] at hcc
          have hnn : ¬ (k : Int) < (n : Int) := by omega
          have hown' := Lib.hid hown
          have hm1 : Hid ((l.filter (pS s)).length ≤ 1000) := Lib.hid (by rw [← hmm.out]; omega)
          have hSo : SlIs wr (.slice oa m oc) (l.filter (pS s)) := ⟨oa, oc, by rw [← hmm.out], by rw [← hmm.out]; exact hown.row⟩
          have hris : Hid (risesB (l.filter (pS s)) = true) := Lib.hid ((risesB_iff _).2 (hR.out.sublist List.filter_sublist))
          have hag : Hid (seeL (l.filter (pS s)) 18446744073709551615 = R) := Lib.hid (by rw [hRR'.out]; exact see_again hR.out hsq'.out)
          have hSo' := Lib.hid hSo
          have hcn : Hid ((c : Int) = (rn : Int)) := Lib.hid (by rw [hcc.out, hrn.out])
          clear htk hown hSo hla hkn
          go_wp2_with fail
          refine (see_ok wr _ 18446744073709551615 _ hSo'.out hris.out hm1.out).mono ?_
          rintro e w6 ⟨xa, xc, xn, rfl, hxn, hx, hE6⟩
          rw [hag.out] at hx
          have hdc : decide ((c : Int) = (rn : Int)) = true := decide_eq_true hcn.out
          have hrw6 := (hrw'.out.ext hE).ext hE6
          have hEE := (hE3.trans hE).trans hE6
          go_wp2_with fail
          refine (al_sameR w6 _ _ _ hx hrw6).mono ?_
          rintro e w7 ⟨rfl, hE7⟩
          go_wp2_with fail
          go_ret
          exact ⟨rfl, hEE.trans hE7⟩
end Go.Proofs.Ytlgnpfchblgpoaa
