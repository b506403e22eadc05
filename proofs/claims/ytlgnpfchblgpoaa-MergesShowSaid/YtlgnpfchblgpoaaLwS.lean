/- MergesShow: the walk. No condition. -/
import Derived.Test.YtlgnpfchblgpoaaLw0
namespace Go.Proofs.Ytlgnpfchblgpoaa
open Go.RowKit
set_option maxRecDepth 100000
set_option maxHeartbeats 2000000
theorem mergesShow_walk (w : World) (v0 : Value) (o0 : ∃ n, OKC Try.prog w n 22 [v0]) (v1 : Value) (o1 : ∃ n, OKC Try.prog w n 37 [v1]) (last : Bool) (_o2 : ∃ n, OKC Try.prog w n 4 [.bool last]) :
    Calls Try.prog 4 #[v0, v1, .bool last] w fun e w' => e = .returned (.bool true) ∧ Ext w w' := by
  obtain ⟨l, a, cap, rfl, hg, h1, hby⟩ := okc_entries o0
  obtain ⟨ks, ka, kc, rfl, hks, hK⟩ := okc_nums o1
  have hS : SlIs w (.slice a l.length cap) l := ⟨a, cap, rfl, h1⟩
  obtain ⟨n, hn⟩ : ∃ n, n = l.length := ⟨_, rfl⟩
  obtain ⟨kn, hkn⟩ : ∃ n, n = ks.length := ⟨_, rfl⟩
  rw [← hn] at hS hby ⊢
  rw [← hkn] at hK ⊢
  have hn' := Lib.hid hn
  have hkn' := Lib.hid hkn
  have hK' := Lib.hid hK
  have hS' := Lib.hid hS
  have hsq' := Lib.hid (good_seq hg)
  have hg' := Lib.hid hg
  have hks' := Lib.hid hks
  have hby' := Lib.hid (show l.length * 48 ≤ 140737488351232 by omega)
  clear o0 o1 _o2 hg h1 hby hn hkn hK hS hks
  go_enter Try.func4, Try.ntmps4
  go_wp2_with fail
  refine (alive_any w).mono ?_
  rintro e w1 ⟨rfl, hE1⟩
  go_wp2_with fail
  refine (many_ok w1 l _ (hS'.out.ext hE1) hg'.out hby'.out).mono ?_
  rintro e w2 ⟨rfl, hE2⟩
  replace hE2 := hE1.trans hE2
  clear hE1
  cases hm : manyB l with
  | true =>
    clear hm
    go_wp2_with fail
    refine (alive_any w2).mono ?_
    rintro e w3 ⟨rfl, hE3⟩
    go_wp2_with fail
    go_ret
    exact ⟨rfl, hE2.trans hE3⟩
  | false =>
    have hml := Lib.hid (many_len hm)
    clear hm
    by_cases hk : 20 < kn
    · have hki : (20 : Int) < (kn : Int) := by omega
      go_wp2_with fail
      refine (alive_any w2).mono ?_
      rintro e w3 ⟨rfl, hE3⟩
      go_wp2_with fail
      go_ret
      exact ⟨rfl, hE2.trans hE3⟩
    · have hki : ¬ (20 : Int) < (kn : Int) := by omega
      have hl1 : l.length ≤ 1000 := by have := hml.out; omega
      have hl1' := Lib.hid hl1
      clear hl1
      cases hr : risesB l with
      | false =>
        have hr' := Lib.hid hr
        clear hr
        go_wp2_with fail
        refine (thin_no w2 l ks last _ ka kn kc (hS'.out.ext hE2) hkn'.out (hK'.out.ext hE2) hr'.out hl1'.out (by omega) hsq'.out).mono ?_
        rintro e w3 ⟨rfl, hE3⟩
        replace hE3 := hE2.trans hE3
        clear hE2
        go_wp2_with fail
        refine (lris_ok w3 l _ (hS'.out.ext hE3)).mono ?_
        rintro e w4 ⟨rfl, hE4⟩
        rw [hr'.out]
        go_wp2_with fail
        go_ret
        exact ⟨rfl, hE3.trans hE4⟩
      | true =>
        have hr' := Lib.hid hr
        have hR := Lib.hid ((risesB_iff l).1 hr)
        clear hr
        go_wp2_with fail
        refine (thin_ok w2 l ks last _ ka kn kc (hS'.out.ext hE2) hkn'.out (hK'.out.ext hE2) hr'.out hl1'.out (by omega) hsq'.out).mono ?_
        rintro e w3 ⟨ta, tc, tn, rfl, htn, hT, hE3⟩
        replace hE3 := hE2.trans hE3
        clear hE2
        obtain ⟨T, hTT⟩ : ∃ T, T = thinL l ks last := ⟨_, rfl⟩
        rw [← hTT] at htn hT
        have hTT' := Lib.hid hTT
        have hTr : Hid (risesB T = true) := Lib.hid (by rw [hTT]; exact (risesB_iff _).2 (thin_rises hR.out))
        have hTl : Hid (T.length ≤ 1000) := Lib.hid (by rw [hTT]; have := (thin_sub (looks := ks) (last := last) hR.out).length_le; have := hl1'.out; omega)
        have hTs : Hid (∀ e ∈ T, e.mark.seq ≤ 18446744073709551615) := Lib.hid (fun e he => hsq'.out e ((thin_sub hR.out).mem (by rw [hTT] at he; exact he)))
        have htn2 : tn ≤ n := by rw [htn.out, hTT, hn'.out]; exact (thin_sub hR.out).length_le
        have htni : (tn : Int) ≤ (n : Int) := by omega
        clear hTT
        go_wp2_with fail
        have htw := twin_nums w3 ks ka kc (by have := hK'.out.ext hE3; rwa [hkn'.out] at this) (by have := hkn'.out; omega)
        rw [← hkn'.out] at htw
        refine htw.mono ?_
        clear htw
        rintro e w4 ⟨qa, qc, rfl, hq, hE4⟩
        have hq' := Lib.hid hq
        have hbs : w3.heap.size ≤ w4.heap.size := hE4.size
        clear hq
        go_wp2_with (first | (at_builtin; go_loud (refine wpList_append_c (by rfl) (.tmp 51) (.tmp 52) 37 27 (by rfl) Try.underlying37 el_u64 w4 w3.heap.size kn _ (.slice qa kn qc) (by rfl) hq'.out #[.int .u64 18446744073709551615] (by rfl) (by rfl) (by simp [Value.oneCell']) (by omega) (by omega) hbs ?_); go_loud (intro v' w5 hA5; obtain ⟨oa, oc, rfl, _⟩ := hA5.own.form)) | fail)
        obtain ⟨an, han⟩ : ∃ z, z = kn + 1 := ⟨_, rfl⟩
        have hE35 : Ext w3 w5 := Below.trans hE4 hA5.below
        have hEw := hE3.trans hE35
        have hT5 := hT.ext hE35
        obtain ⟨A, hAA⟩ : ∃ A, A = ks ++ [18446744073709551615] := ⟨_, rfl⟩
        have hAr : RowIs w5 1 (.slice oa an oc) an (nuL A) := by
          have := hA5.own.row
          rw [← han] at this
          rw [hAA, nuL, List.map_append]
          exact this
        have hAl : an = A.length := by rw [hAA, han, List.length_append, ← hkn'.out]; rfl
        have hAs : ∀ s ∈ A, s ∈ ks ∨ ∀ e ∈ l, e.mark.seq ≤ s := fun s hs => by
          rw [hAA] at hs
          rcases List.mem_append.1 hs with hs | hs
          · exact .inl hs
          · rw [List.mem_singleton.1 hs]; exact .inr hsq'.out
        rw [← han]
        have hT5' := Lib.hid hT5
        have hAr' := Lib.hid hAr
        have hAl' := Lib.hid hAl
        have hAs' := Lib.hid hAs
        have hann : an ≤ 21 := by omega
        clear hE4 hA5 hE3 hE35 hT5 hAr hAl hAs hAA han hT
        go_wp2_with fail
        go_loopw [10, 11, 12, 13, 14] (fun i _ _ _ _ wr => ∃ k : Nat, k ≤ an ∧ i = .int .i64 k ∧ Ext w5 wr) (fun i _ _ _ _ _ => an - (intOf i).toNat)
        case atStart => exact ⟨0, by omega, rfl, Ext.refl _⟩
        case round =>
          obtain ⟨k, hk2, rfl, hE⟩ := hrel
          have hS5 := hS'.out.ext (hEw.trans hE)
          have hT6 := hT5'.out.ext hE
          by_cases hlt : k < an
          · have hlti : (k : Int) < (an : Int) := by omega
            obtain ⟨s, hs⟩ : ∃ s, A[k]? = some s := ⟨_, List.getElem?_eq_getElem (by rw [← hAl'.out]; exact hlt)⟩
            obtain ⟨kb, kof, hat⟩ := (hAr'.out.ext hE).at
            obtain ⟨rfl, _, hd⟩ := hat (by omega)
            have hkc := hd k (by omega)
            rw [nuL, List.getElem?_map, hs] at hkc
            have hkc2 : wr.cell? ⟨kb, kof + k, none⟩ = some (.int .u64 (s : Int)) := hkc
            have hsm := Lib.hid (List.mem_of_getElem? hs)
            clear hat hd hkc hs
            go_wp2_with fail
            refine (see_ok wr l s _ hS5 hr'.out hl1'.out).mono ?_
            rintro e w6 ⟨xa, xc, xn, rfl, hxn, hx, hE6⟩
            have hkc3 := hE6.cell hkc2
            clear hkc2
            go_wp2_with fail
            refine (see_ok w6 T s _ (hT6.ext hE6) hTr.out hTl.out).mono ?_
            rintro e w7 ⟨ya, yc, yn, rfl, hyn, hy, hE7⟩
            rw [hTT'.out, thin_see hR.out (hAs'.out s hsm.out)] at hy
            have hx7 := hx.ext hE7
            clear hkc3 hx
            go_wp2_with fail
            refine (al_sameR w7 _ _ _ hx7 hy).mono ?_
            rintro e w8 ⟨rfl, hE8⟩
            have hE9 := ((hE.trans hE6).trans hE7).trans hE8
            clear hx7 hy hE hE6 hE7 hE8 hS5 hT6
            go_wp2_with fail
            go_roundw
            case rel => exact ⟨k + 1, by omega, by go_num, hE9⟩
            case measure => simp [intOf]; omega
          · have hlti : ¬ (k : Int) < (an : Int) := by omega
            have hKr := hK'.out.ext (hEw.trans hE)
            go_wp2_with fail
            refine (thin_ok wr T ks last _ ka kn kc hT6 hkn'.out hKr hTr.out hTl.out (by omega) hTs.out).mono ?_
            rintro e w6 ⟨ra, rc, rn, rfl, hrn, hr6, hE6⟩
            rw [show thinL T ks last = T by rw [hTT'.out]; exact thin_idem hR.out] at hr6
            go_wp2_with fail
            refine (al_same w6 T _ _ (hT6.ext hE6) hr6).mono ?_
            rintro e w7 ⟨rfl, hE7⟩
            go_wp2_with fail
            refine (lris_ok w7 T _ ((hT6.ext hE6).ext hE7)).mono ?_
            rintro e w8 ⟨rfl, hE8⟩
            rw [hTr.out]
            go_wp2_with fail
            go_ret
            exact ⟨rfl, ((hEw.trans hE).trans hE6).trans (hE7.trans hE8)⟩
end Go.Proofs.Ytlgnpfchblgpoaa
