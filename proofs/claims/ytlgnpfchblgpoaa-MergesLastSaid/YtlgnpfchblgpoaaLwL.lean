/- MergesLast: the walk. No condition. -/
import Derived.Test.YtlgnpfchblgpoaaLw0
import Derived.Test.YtlgnpfchblgpoaaPm5
import Derived.Deep.CutRange
namespace Go.Proofs.Ytlgnpfchblgpoaa
open Go.RowKit
set_option maxRecDepth 100000
set_option maxHeartbeats 2000000
theorem ext_drawsL {a w : World} (h : Ext a w) (n : Nat) : Ext a (w.drewN n) := h.trans ⟨rfl, rfl, rfl, Nat.le_refl _, fun _ _ => rfl⟩
theorem mergesLast_walk (w : World) (v0 : Value) (o0 : ∃ n, OKC Try.prog w n 22 [v0]) (v1 : Value) (o1 : ∃ n, OKC Try.prog w n 37 [v1]) :
    Calls Try.prog 6 #[v0, v1] w fun e w' => e = .returned (.bool true) ∧ Ext w w' := by
  obtain ⟨l, a, cap, rfl, hg, h1, hby⟩ := okc_entries o0
  obtain ⟨ks, ka, kc, rfl, hks, hK⟩ := okc_nums o1
  have hS : SlIs w (.slice a l.length cap) l := ⟨a, cap, rfl, h1⟩
  obtain ⟨n, hn⟩ : ∃ n, n = l.length := ⟨_, rfl⟩
  obtain ⟨kn, hkn⟩ : ∃ n, n = ks.length := ⟨_, rfl⟩
  rw [← hn] at hS hby ⊢
  rw [← hkn] at hK ⊢
  have hn' := Lib.hid hn
  have hkn' := Lib.hid hkn
  have hK' := Lib.hid hK
  have hS' := Lib.hid hS
  have hsq' := Lib.hid (good_seq hg)
  have hg' := Lib.hid hg
  have hby' := Lib.hid (show l.length * 48 ≤ 140737488351232 by omega)
  clear o0 o1 hg h1 hby hn hkn hK hS hks
  go_enter Try.func6, Try.ntmps6
  go_wp2_with fail
  refine (alive_any w).mono ?_
  rintro e w1 ⟨rfl, hE1⟩
  go_wp2_with fail
  refine (many_ok w1 l _ (hS'.out.ext hE1) hg'.out hby'.out).mono ?_
  rintro e w2 ⟨rfl, hE2⟩
  replace hE2 := hE1.trans hE2
  clear hE1
  cases hm : manyB l with
  | true =>
    clear hm
    go_wp2_with fail
    refine (alive_any w2).mono ?_
    rintro e w3 ⟨rfl, hE3⟩
    go_wp2_with fail
    go_ret
    exact ⟨rfl, hE2.trans hE3⟩
  | false =>
    have hml := many_len hm
    have hl1' := Lib.hid (show l.length ≤ 1000 by omega)
    have hn150 : n ≤ 150 := by rw [hn'.out]; exact hml
    clear hm hml
    by_cases hk : 20 < kn
    · have hki : (20 : Int) < (kn : Int) := by omega
      go_wp2_with fail
      refine (alive_any w2).mono ?_
      rintro e w3 ⟨rfl, hE3⟩
      go_wp2_with fail
      go_ret
      exact ⟨rfl, hE2.trans hE3⟩
    · have hki : ¬ (20 : Int) < (kn : Int) := by omega
      go_wp2_with fail
      refine (lris_ok w2 l _ (hS'.out.ext hE2)).mono ?_
      rintro e w3 ⟨rfl, hE3⟩
      replace hE3 := hE2.trans hE3
      clear hE2
      cases hr : risesB l with
      | false =>
        clear hr
        go_wp2_with fail
        refine (alive_any w3).mono ?_
        rintro e w4 ⟨rfl, hE4⟩
        go_wp2_with fail
        go_ret
        exact ⟨rfl, hE3.trans hE4⟩
      | true =>
        have hr' := Lib.hid hr
        have hR := Lib.hid ((risesB_iff l).1 hr)
        clear hr
        go_wp2_with fail
        refine (thin_ok w3 l ks true _ ka kn kc (hS'.out.ext hE3) hkn'.out (hK'.out.ext hE3) hr'.out hl1'.out (by omega) hsq'.out).mono ?_
        rintro e w4 ⟨aa, ac, an, rfl, han, hA, hE4⟩
        replace hE4 := hE3.trans hE4
        clear hE3
        go_wp2_with fail
        refine (thin_ok w4 l ks false _ ka kn kc (hS'.out.ext hE4) hkn'.out (hK'.out.ext hE4) hr'.out hl1'.out (by omega) hsq'.out).mono ?_
        rintro e w5 ⟨ba, bc, bn, rfl, hbn, hB, hE5⟩
        have hA5 := hA.ext hE5
        replace hE5 := hE4.trans hE5
        clear hE4 hA
        obtain ⟨A, hAA⟩ : ∃ z, z = thinL l ks true := ⟨_, rfl⟩
        obtain ⟨B, hBB⟩ : ∃ z, z = thinL l ks false := ⟨_, rfl⟩
        rw [← hAA] at han hA5
        rw [← hBB] at hbn hB
        have hab : an ≤ bn := by rw [han.out, hbn.out, hAA, hBB]; exact thin_le hR.out ks
        have hbn2 : bn ≤ n := by rw [hbn.out, hBB, hn'.out]; exact (thin_sub hR.out).length_le
        have hend := Lib.hid (show endB A = true by rw [hAA]; exact thin_end hR.out)
        have hBr := Lib.hid (show Rises B by rw [hBB]; exact thin_rises hR.out)
        have hBB' := Lib.hid hBB
        have hA' := Lib.hid hA5
        have hB' := Lib.hid hB
        have habi : ¬ (bn : Int) < (an : Int) := by omega
        clear hAA hBB hA5 hB
        go_wp2_with fail
        go_loopw [9] (fun i wr => ∃ k : Nat, k ≤ an ∧ i = .int .i64 k ∧ Ext w5 wr) (fun i _ => an - (intOf i).toNat)
        case atStart => exact ⟨0, by omega, rfl, Ext.refl _⟩
        case round =>
          obtain ⟨k, hk2, rfl, hE⟩ := hrel
          by_cases hlt : k < an
          · have hlti : (k : Int) < (an : Int) := by omega
            obtain ⟨x, hx⟩ : ∃ x, A[k]? = some x := ⟨_, List.getElem?_eq_getElem (by rw [← han.out]; exact hlt)⟩
            obtain ⟨a1, c1, e1, hrr⟩ := hA'.out.ext hE
            rw [← han.out] at hrr
            obtain ⟨qb, qo, hat⟩ := hrr.at
            obtain ⟨rfl, _, hd⟩ := hat (by omega)
            have hrg := ens_range (by rw [← han.out]; exact hd) hx
            have p0 : wr.cell? ⟨qb, qo + k * 4, none⟩ = some (.string x.mark.key) := by have := hrg 0 (.string x.mark.key) rfl; simpa using this
            have p2 : wr.cell? ⟨qb, qo + k * 4 + 2, none⟩ = some (.bool x.mark.gone) := hrg 2 _ rfl
            have hd' := Lib.hid hd
            have hx' := Lib.hid hx
            clear hat hd hx hrg e1 hrr
            cases hgn : x.mark.gone with
            | false =>
              rw [hgn] at p2
              clear hgn
              go_upto_region 10 with fail
              go_quiet (fail)
              go_wp2_with fail
              go_roundw
              case rel => exact ⟨k + 1, by omega, by go_num, ext_drawsL hE _⟩
              case measure => simp [intOf]; omega
            | true =>
              rw [hgn] at p2
              obtain ⟨y, hy, hky⟩ := end_at hend.out hx'.out hgn
              have hk1 : k + 1 < an := by rw [han.out]; exact (List.getElem?_eq_some_iff.1 hy).1
              have hrg2 := ens_range (by rw [← han.out]; exact hd'.out) hy
              have q0 : wr.cell? ⟨qb, qo + (k + 1) * 4, none⟩ = some (.string y.mark.key) := by have := hrg2 0 (.string y.mark.key) rfl; simpa using this
              have hks : (y.mark.key.toList == x.mark.key.toList) = true := by rw [hky]; simp
              have hi1 : 0 ≤ (k : Int) + 1 := by omega
              have hi2 : (k : Int) + 1 < (an : Int) := by omega
              have hi3 : ((k : Int) + 1).toNat = k + 1 := by omega
              have hi4 : ((k : Int) + 1 == (an : Int)) = false := by rw [beq_eq_false_iff_ne]; omega
              have hwr : IntKind.i64.wrap ((k : Int) + 1) = (k : Int) + 1 := by rw [IntKind.wrap_i64]; omega
              clear hgn hy hrg2 hky
              go_upto_region 10 with fail
              go_quiet (fail)
              clear hwr hi1 hi2 hi3 hi4
              go_wp2_with fail
              go_roundw
              case rel => exact ⟨k + 1, by omega, by go_num, ext_drawsL hE _⟩
              case measure => simp [intOf]; omega
          · have hlti : ¬ (k : Int) < (an : Int) := by omega
            clear hA' hend
            go_wp2_with fail
            go_loopw [10, 11] (fun o i wx => ∃ (q j : Nat), j ≤ n ∧ i = .int .i64 j ∧ o = .int .i64 q ∧ q ≤ bn ∧ Hid (q = 0 ∨ ∃ j' y, j' < j ∧ l[j']? = some y ∧ B[q]? = some y) ∧ Ext w5 wx) (fun _ i _ => n - (intOf i).toNat)
            case atStart => exact ⟨0, 0, by omega, rfl, rfl, by omega, Lib.hid (.inl rfl), hE⟩
            case round =>
              clear hE
              obtain ⟨q, j, hj, rfl, rfl, hq, hqq, hE⟩ := hrel
              by_cases hjn : j < n
              · have hji : (j : Int) < (n : Int) := by omega
                obtain ⟨x, hx⟩ : ∃ x, l[j]? = some x := ⟨_, List.getElem?_eq_getElem (by rw [← hn'.out]; exact hjn)⟩
                obtain ⟨a1, c1, e1, hrr⟩ := hS'.out.ext (hE5.trans hE)
                rw [← hn'.out] at hrr
                obtain ⟨lb, lo, hat⟩ := hrr.at
                obtain ⟨rfl, _, hd⟩ := hat (by omega)
                have hrg := ens_range (by rw [← hn'.out]; exact hd) hx
                have p0 : wr.cell? ⟨lb, lo + j * 4, none⟩ = some (.string x.mark.key) := by have := hrg 0 (.string x.mark.key) rfl; simpa using this
                have hd' := Lib.hid hd
                have hx' := Lib.hid hx
                have hrgH := Lib.hid hrg
                obtain ⟨Dv, hDv⟩ : ∃ b : Bool, (b = true ↔ ∃ j' y, j = j' + 1 ∧ l[j']? = some y ∧ y.mark.key.toList = x.mark.key.toList) := by classical exact ⟨decide _, decide_eq_true_iff⟩
                have hDv' := Lib.hid hDv
                clear hat hd hx hrg e1 hrr hDv
                go_upto_region 16 with fail
                go_cut [112] from 89 to 133 (fun t wx => t = .bool Dv ∧ Ext wr wx)
                case first =>
                  by_cases hj0 : j = 0
                  · have hDf : Hid (Dv = false) := Lib.hid (by
                      cases hd2 : Dv with
                      | false => rfl
                      | true => obtain ⟨j', _, e, _⟩ := hDv'.out.1 hd2; omega)
                    subst hj0
                    go_quiet (fail)
                    go_wp2_with fail
                    go_meet
                    exact ⟨by rw [hDf.out], ext_drawsL (Ext.refl _) _⟩
                  · obtain ⟨y, hy⟩ : ∃ y, l[j - 1]? = some y := ⟨_, List.getElem?_eq_getElem (by rw [← hn'.out]; omega)⟩
                    have hrg2 := ens_range (by rw [← hn'.out]; exact hd'.out) hy
                    have q0 : wr.cell? ⟨lb, lo + (j - 1) * 4, none⟩ = some (.string y.mark.key) := by have := hrg2 0 (.string y.mark.key) rfl; simpa using this
                    have hk1 : (0 : Int) < (j : Int) := by omega
                    have hk4 : 0 ≤ (j : Int) - 1 := by omega
                    have hk5 : (j : Int) - 1 < (n : Int) := by omega
                    have hk6 : ((j : Int) - 1).toNat = j - 1 := by omega
                    have hk7 : (1 : Int) ≤ (j : Int) := by omega
                    have hk8 : (j : Int) ≤ (n : Int) := by omega
                    have hk9 : 0 < j := by omega
                    have hwr : IntKind.i64.wrap ((j : Int) - 1) = (j : Int) - 1 := by rw [IntKind.wrap_i64]; omega
                    have hy' := Lib.hid hy
                    clear hrg2 hy
                    cases hkk : x.mark.key.toList == y.mark.key.toList with
                    | true =>
                      have hDt : Hid (Dv = true) := Lib.hid (hDv'.out.2 ⟨j - 1, y, by omega, hy'.out, (beq_iff_eq.1 hkk).symm⟩)
                      go_quiet (fail)
                      go_wp2_with fail
                      go_meet
                      exact ⟨by rw [hDt.out], ext_drawsL (Ext.refl _) _⟩
                    | false =>
                      have hDf : Hid (Dv = false) := Lib.hid (by
                        cases hd2 : Dv with
                        | false => rfl
                        | true =>
                          obtain ⟨j', y', e, h1, h2⟩ := hDv'.out.1 hd2
                          obtain rfl : j - 1 = j' := by omega
                          rw [hy'.out] at h1
                          injection h1 with h1
                          rw [h1, h2] at hkk
                          simp at hkk)
                      go_quiet (fail)
                      go_wp2_with fail
                      go_meet
                      exact ⟨by rw [hDf.out], ext_drawsL (Ext.refl _) _⟩
                case rest =>
                  obtain ⟨rfl, hE6⟩ := hcut
                  have hE7 := hE.trans hE6
                  cases hdd : Dv with
                  | true =>
                    clear hdd
                    go_wp2_with fail
                    go_roundw
                    case rel => first | exact ⟨q, j + 1, by omega, by go_num, rfl, hq, Lib.hid (by rcases hqq.out with h | ⟨j', y, h1, h2⟩; exact .inl h; exact .inr ⟨j', y, by omega, h2⟩), hE7⟩ | ((repeat apply Exists.intro); exact ⟨⟨q, j + 1, by omega, by go_num, rfl, hq, Lib.hid (by rcases hqq.out with h | ⟨j', y, h1, h2⟩; exact .inl h; exact .inr ⟨j', y, by omega, h2⟩), hE7⟩, rfl⟩)
                    case measure => simp [intOf]; omega
                  | false =>
                    have hm : x ∈ B := by
                      rw [hBB'.out]
                      refine head_left hR.out hx'.out (fun j' y e h1 h2 => ?_)
                      have := hDv'.out.2 ⟨j', y, e, h1, h2⟩
                      rw [hdd] at this
                      cases this
                    obtain ⟨p, hp⟩ := List.mem_iff_getElem?.1 hm
                    have hqp : q ≤ p := by
                      rcases hqq.out with h | ⟨j', y, h1, h2, h3⟩
                      · omega
                      · exact at_le hBr.out hp h3 (rises_at hR.out h2 hx'.out h1)
                    have hpb : p < bn := by rw [hbn.out]; exact (List.getElem?_eq_some_iff.1 hp).1
                    have hp' := Lib.hid hp
                    clear hdd hm hp hqq p0
                    go_wp2_with fail
                    go_loopw [10] (fun o wx => ∃ q2 : Nat, o = .int .i64 q2 ∧ q2 ≤ p ∧ Ext w5 wx) (fun o _ => p - (intOf o).toNat)
                    case atStart => exact ⟨q, rfl, hqp, hE7⟩
                    case round =>
                      obtain ⟨q2, rfl, hq2, hE8⟩ := hrel
                      have hqb : (q2 : Int) < (bn : Int) := by omega
                      obtain ⟨z, hz⟩ : ∃ z, B[q2]? = some z := ⟨_, List.getElem?_eq_getElem (by rw [← hbn.out]; omega)⟩
                      obtain ⟨a2, c2, e2, hrb⟩ := hB'.out.ext hE8
                      rw [← hbn.out] at hrb
                      obtain ⟨bb, bo, hat⟩ := hrb.at
                      obtain ⟨rfl, _, hd⟩ := hat (by omega)
                      have pz := ens_range (by rw [← hbn.out]; exact hd) hz
                      obtain ⟨a3, c3, e3, hrl⟩ := hS'.out.ext (hE5.trans hE8)
                      rw [← hn'.out] at hrl
                      obtain ⟨lb2, lo2, hat2⟩ := hrl.at
                      obtain ⟨e4, _, hd2⟩ := hat2 (by omega)
                      injection e4 with e4
                      injection e4 with e5 e6
                      subst e5 e6
                      have px := ens_range (by rw [← hn'.out]; exact hd2) hx'.out
                      have hz' := Lib.hid hz
                      clear hat hd hat2 hd2 hz e2 e3 hrb hrl
                      go_upto_region 17 with fail
                      refine wp_region_class (Ext wr) (by kernel_rfl) (by kernel_rfl) (Ext.refl _).drew ?_
                      iterate 8 (refine wpQuiet_step (fun K hK => ?_); go_simp; first | (refine hK _ ?_; clear hK K) | (refine ⟨_, fun _ _ => rfl, hK _ ?_⟩; clear hK K))
                      refine wpQuiet_load_mid (by rfl) 31 _ (by rfl) bb (bo + q2 * 4) (by rfl) _ _ (fun w' h r u hu => h.cell (pz r u hu)) Try.underlying31 rfl (by exact info_entry) ?_
                      iterate 3 (refine wpQuiet_step (fun K hK => ?_); go_simp; first | (refine hK _ ?_; clear hK K) | (refine ⟨_, fun _ _ => rfl, hK _ ?_⟩; clear hK K))
                      refine wpQuiet_load_mid (by rfl) 31 _ (by rfl) lb (lo + j * 4) (by rfl) _ _ (fun w' h r u hu => h.cell (px r u hu)) Try.underlying31 rfl (by exact info_entry) ?_
                      refine wpQuiet_neq_en (by rfl) (.tmp 121) (.tmp 125) (by rfl) z x (by rfl) (by rfl) ?_
                      iterate 1 (refine wpQuiet_step (fun K hK => ?_); go_simp; first | (refine hK _ ?_; clear hK K) | (refine ⟨_, fun _ _ => rfl, hK _ ?_⟩; clear hK K))
                      refine wpQuiet_nil (fun w9 hE9 => ?_)
                      try simp only [Act.put, List.setIfInBounds_toArray, List.set_cons_zero, List.set_cons_succ]
                      have hE10 := hE8.trans hE9
                      cases hse : sameEB z x
                      all_goals (try simp only [Bool.not_true, Bool.not_false])
                      · have hql : q2 < p := by
                          rcases Nat.lt_or_ge q2 p with h | h
                          · exact h
                          · obtain rfl : q2 = p := by omega
                            have := hz'.out.symm.trans hp'.out
                            injection this with this
                            rw [sameE_iff.2 this] at hse
                            cases hse
                        clear hse
                        go_wp2_with fail
                        go_roundw
                        case rel => first | exact ⟨q2 + 1, by go_num, by omega, hE10⟩ | ((repeat apply Exists.intro); exact ⟨⟨q2 + 1, by go_num, by omega, hE10⟩, rfl⟩)
                        case measure => simp [intOf]; omega
                      · have hqe : Hid (q2 = p) := Lib.hid (by
                          have hzx := sameE_iff.1 hse
                          rcases Nat.lt_or_ge q2 p with h | h
                          · exact absurd hzx (rises_ne hBr.out hz'.out hp'.out h)
                          · omega)
                        have hqn : ((q2 : Int) == (bn : Int)) = false := by rw [beq_eq_false_iff_ne]; omega
                        have hqn2 : ¬ (q2 : Int) = (bn : Int) := by omega
                        clear hse
                        go_wp2_with fail
                        go_roundw
                        case rel => first | exact ⟨q2, j + 1, by omega, by go_num, rfl, by omega, Lib.hid (.inr ⟨j, x, by omega, hx'.out, by rw [hqe.out]; exact hp'.out⟩), hE10⟩ | ((repeat apply Exists.intro); exact ⟨⟨q2, j + 1, by omega, by go_num, rfl, by omega, Lib.hid (.inr ⟨j, x, by omega, hx'.out, by rw [hqe.out]; exact hp'.out⟩), hE10⟩, rfl⟩)
                        case measure => simp [intOf]; omega
              · have hji : ¬ (j : Int) < (n : Int) := by omega
                go_wp2_with fail
                go_ret
                exact ⟨rfl, hE5.trans hE⟩
end Go.Proofs.Ytlgnpfchblgpoaa
