/- MergesLooks: the walk. No condition. -/
import Derived.Test.YtlgnpfchblgpoaaLw0
import Derived.Test.YtlgnpfchblgpoaaPm5
import Derived.Test.YtlgnpfchblgpoaaOwnS
import Derived.Deep.CutRange
namespace Go.Proofs.Ytlgnpfchblgpoaa
open Go.RowKit
set_option maxRecDepth 100000
set_option maxHeartbeats 2000000
theorem ext_drawsK {a w : World} (h : Ext a w) (n : Nat) : Ext a (w.drewN n) := h.trans ⟨rfl, rfl, rfl, Nat.le_refl _, fun _ _ => rfl⟩
theorem wpQuiet_eql_en {ops : Array Oper} {C : World → Prop} {Q : Act → Prop} {o : Oper} {rest : List Oper} {a : Act} (hg : Region.wanted o (yielded ops a.tmps) = true) (x y : Operand) (ho : o.op = .binOp .eql 31 x y 31) (m n : En) (hx : a.eval x = .agg (enRow m)) (hy : a.eval y = .agg (enRow n))
    (k : wpQuiet Try.prog ops C Q rest (a.put o.dst (.bool (sameEB m n)))) : wpQuiet Try.prog ops C Q (o :: rest) a := by
  refine wpQuiet_value _ hg (fun w _ => ?_) k
  unfold execOp
  simp only [ho, hx, hy, enRow]
  have hs : ((m.mark.seq : Int) = (n.mark.seq : Int)) ↔ m.mark.seq = n.mark.seq := by omega
  go_simp
  unfold sameEB sameB
  by_cases h1 : m.mark.key.toList = n.mark.key.toList <;> by_cases h2 : m.mark.seq = n.mark.seq <;> by_cases h3 : m.mark.gone = n.mark.gone <;> by_cases h4 : m.val.toList = n.val.toList <;> simp [h1, h2, h3, h4]
theorem nu_one (l : List Nat) : ∀ u ∈ nuL l, u.oneCell' = true := fun u hu => by
  obtain ⟨s, _, rfl⟩ := List.mem_map.1 hu
  rfl
theorem mergesLooks_walk (w : World) (v0 : Value) (o0 : ∃ n, OKC Try.prog w n 22 [v0]) (v1 : Value) (o1 : ∃ n, OKC Try.prog w n 37 [v1]) (v2 : Value) (o2 : ∃ n, OKC Try.prog w n 37 [v2]) :
    Calls Try.prog 8 #[v0, v1, v2] w fun e w' => e = .returned (.bool true) ∧ Ext w w' := by
  obtain ⟨l, a, cap, rfl, hg, h1, hby⟩ := okc_entries o0
  obtain ⟨ks, ka, kc, rfl, hks, hK⟩ := okc_nums o1
  obtain ⟨ms, ma, mc, rfl, hms, hM⟩ := okc_nums o2
  have hS : SlIs w (.slice a l.length cap) l := ⟨a, cap, rfl, h1⟩
  obtain ⟨n, hn⟩ : ∃ n, n = l.length := ⟨_, rfl⟩
  obtain ⟨kn, hkn⟩ : ∃ n, n = ks.length := ⟨_, rfl⟩
  obtain ⟨mn, hmn⟩ : ∃ n, n = ms.length := ⟨_, rfl⟩
  rw [← hn] at hS hby ⊢
  rw [← hkn] at hK ⊢
  rw [← hmn] at hM ⊢
  have hn' := Lib.hid hn
  have hkn' := Lib.hid hkn
  have hmn' := Lib.hid hmn
  have hK' := Lib.hid hK
  have hM' := Lib.hid hM
  have hS' := Lib.hid hS
  have hsq' := Lib.hid (good_seq hg)
  have hg' := Lib.hid hg
  have hby' := Lib.hid (show l.length * 48 ≤ 140737488351232 by omega)
  clear o0 o1 o2 hg h1 hby hn hkn hmn hK hM hS hks hms
  go_enter Try.func8, Try.ntmps8
  go_wp2_with fail
  refine (alive_any w).mono ?_
  rintro e w1 ⟨rfl, hE1⟩
  go_wp2_with fail
  refine (many_ok w1 l _ (hS'.out.ext hE1) hg'.out hby'.out).mono ?_
  rintro e w2 ⟨rfl, hE2⟩
  replace hE2 := hE1.trans hE2
  clear hE1
  cases hm : manyB l with
  | true =>
    clear hm
    go_wp2_with fail
    refine (alive_any w2).mono ?_
    rintro e w3 ⟨rfl, hE3⟩
    go_wp2_with fail
    go_ret
    exact ⟨rfl, hE2.trans hE3⟩
  | false =>
    have hml := many_len hm
    have hl1' := Lib.hid (show l.length ≤ 1000 by omega)
    have hn150 : n ≤ 150 := by rw [hn'.out]; exact hml
    clear hm hml
    by_cases hk : 10 < kn
    · have hki : (10 : Int) < (kn : Int) := by omega
      go_wp2_with fail
      refine (alive_any w2).mono ?_
      rintro e w3 ⟨rfl, hE3⟩
      go_wp2_with fail
      go_ret
      exact ⟨rfl, hE2.trans hE3⟩
    have hki : ¬ (10 : Int) < (kn : Int) := by omega
    by_cases hk2 : 10 < mn
    · have hki : (10 : Int) < (mn : Int) := by omega
      go_wp2_with fail
      refine (alive_any w2).mono ?_
      rintro e w3 ⟨rfl, hE3⟩
      go_wp2_with fail
      go_ret
      exact ⟨rfl, hE2.trans hE3⟩
    · have hki2 : ¬ (10 : Int) < (mn : Int) := by omega
      go_wp2_with fail
      refine (lris_ok w2 l _ (hS'.out.ext hE2)).mono ?_
      rintro e w3 ⟨rfl, hE3⟩
      replace hE3 := hE2.trans hE3
      clear hE2
      cases hr : risesB l with
      | false =>
        clear hr
        go_wp2_with fail
        refine (alive_any w3).mono ?_
        rintro e w4 ⟨rfl, hE4⟩
        go_wp2_with fail
        go_ret
        exact ⟨rfl, hE3.trans hE4⟩
      | true =>
        have hr' := Lib.hid hr
        have hR := Lib.hid ((risesB_iff l).1 hr)
        clear hr
        go_wp2_with fail
        refine (thin_ok w3 l ks false _ ka kn kc (hS'.out.ext hE3) hkn'.out (hK'.out.ext hE3) hr'.out hl1'.out (by omega) hsq'.out).mono ?_
        rintro e w4 ⟨aa, ac, an, rfl, han, hA, hE4⟩
        replace hE4 := hE3.trans hE4
        clear hE3
        go_wp2_with fail
        refine (thin_ok w4 l ms false _ ma mn mc (hS'.out.ext hE4) hmn'.out (hM'.out.ext hE4) hr'.out hl1'.out (by omega) hsq'.out).mono ?_
        rintro e w5 ⟨ba, bc, bn, rfl, hbn, hB, hE5⟩
        have hA5 := hA.ext hE5
        replace hE5 := hE4.trans hE5
        clear hE4 hA
        have htw := twin_nums w5 ks ka kc (by have := hK'.out.ext hE5; rwa [hkn'.out] at this) (by have := hkn'.out; omega)
        rw [← hkn'.out] at htw
        have hA5' := Lib.hid hA5
        have hB5' := Lib.hid hB
        clear hA5 hB
        go_wp2_with fail
        refine htw.mono ?_
        clear htw
        rintro e w6 ⟨qa, qc, rfl, hq, hE6⟩
        have hq' := Lib.hid hq
        have hbs : w5.heap.size ≤ w6.heap.size := hE6.size
        have hM6 := Lib.hid (hM'.out.ext (hE5.trans hE6))
        clear hq
        go_wp2_with (first | (at_builtin; go_loud (refine wpList_append_cs (by rfl) (.tmp 55) (.tmp 56) 37 27 (by rfl) Try.underlying37 el_u64 w6 w5.heap.size kn _ (.slice qa kn qc) (by rfl) hq'.out _ mn _ (by rfl) hM6.out (nu_one ms) (by omega) (by omega) hbs ?_); go_loud (intro v' w7 hown7 hb7; obtain ⟨oa, oc, rfl, _⟩ := hown7.form)) | fail)
        have hE7 : Ext w5 w7 := Below.trans hE6 hb7
        have hKM : RowIs w7 1 (.slice oa (kn + mn) oc) (kn + mn) (nuL (ks ++ ms)) := by
          have := hown7.row
          rwa [nuL, List.map_append]
        have hkml : kn + mn = (ks ++ ms).length := by rw [List.length_append, ← hkn'.out, ← hmn'.out]
        obtain ⟨sn, hsn⟩ : ∃ z, z = kn + mn := ⟨_, rfl⟩
        rw [← hsn] at hKM hkml ⊢
        have hsn20 : sn ≤ 20 := by omega
        refine (thin_ok w7 l (ks ++ ms) false _ oa sn oc (hS'.out.ext (hE5.trans hE7)) hkml hKM hr'.out hl1'.out (by omega) hsq'.out).mono ?_
        rintro e w8 ⟨ca, cc, cn, rfl, hcn, hC, hE8⟩
        have hE58 := hE7.trans hE8
        have hA' := Lib.hid (hA5'.out.ext hE58)
        have hB' := Lib.hid (hB5'.out.ext hE58)
        have hEw := hE5.trans hE58
        clear hsn hkml hKM hown7 hb7 hE6 hE7 hE8 hM6 hq' hA5' hB5' hbs hE58 hE5
        obtain ⟨A, hAA⟩ : ∃ z, z = thinL l ks false := ⟨_, rfl⟩
        obtain ⟨B, hBB⟩ : ∃ z, z = thinL l ms false := ⟨_, rfl⟩
        obtain ⟨C, hCC⟩ : ∃ z, z = thinL l (ks ++ ms) false := ⟨_, rfl⟩
        rw [← hAA] at han hA'
        rw [← hBB] at hbn hB'
        rw [← hCC] at hcn hC
        have hCl : cn ≤ n := by rw [hcn.out, hCC, hn'.out]; exact (thin_sub hR.out).length_le
        obtain ⟨fa, hfa⟩ : ∃ f : En → Bool, f = fun e => decide (e ∈ A) := ⟨_, rfl⟩
        obtain ⟨fb, hfb⟩ : ∃ f : En → Bool, f = fun e => decide (e ∈ B) := ⟨_, rfl⟩
        have hAf : Hid (A = C.filter fa) := Lib.hid (by rw [hfa, hAA, hCC]; exact thin_of hR.out fun e he => (mem_both hR.out).2 (.inl he))
        have hBf : Hid (B = C.filter fb) := Lib.hid (by rw [hfb, hBB, hCC]; exact thin_of hR.out fun e he => (mem_both hR.out).2 (.inr he))
        have hor : Hid (∀ x ∈ C, fa x = true ∨ fb x = true) := Lib.hid (fun x hx => by
          rw [hfa, hfb, hAA, hBB]
          rw [hCC] at hx
          rcases (mem_both hR.out).1 hx with h | h
          · exact .inl (decide_eq_true h)
          · exact .inr (decide_eq_true h))
        have hC' := Lib.hid hC
        have hAl : Hid (an = (C.filter fa).length) := Lib.hid (by rw [han.out]; exact congrArg _ hAf.out)
        have hBl : Hid (bn = (C.filter fb).length) := Lib.hid (by rw [hbn.out]; exact congrArg _ hBf.out)
        have han2 : an ≤ cn := by rw [hAl.out, hcn.out]; exact List.length_filter_le _ _
        have hbn2 : bn ≤ cn := by rw [hBl.out, hcn.out]; exact List.length_filter_le _ _
        clear hAA hBB hCC hfa hfb hC
        go_wp2_with fail
        go_loopw [13, 14, 15, 16, 17] (fun at_ i k _ _ wr => ∃ p i' k' : Nat, at_ = .int .i64 p ∧ p ≤ cn ∧ i = .int .i64 i' ∧ k = .int .i64 k' ∧ Hid (i' = ((C.take p).filter fa).length) ∧ Hid (k' = ((C.take p).filter fb).length) ∧ i' ≤ an ∧ k' ≤ bn ∧ Ext w8 wr) (fun at_ _ _ _ _ _ => cn - (intOf at_).toNat)
        case atStart => exact ⟨0, 0, 0, rfl, by omega, rfl, rfl, Lib.hid rfl, Lib.hid rfl, by omega, by omega, Ext.refl _⟩
        case round =>
          obtain ⟨p, i, k, rfl, hp, rfl, rfl, hi, hkk, hia2, hkb2, hE⟩ := hrel
          by_cases hpc : p < cn
          · have hpi : (p : Int) < (cn : Int) := by omega
            obtain ⟨x, hx⟩ : ∃ x, C[p]? = some x := ⟨_, List.getElem?_eq_getElem (by rw [← hcn.out]; exact hpc)⟩
            have hx' := Lib.hid hx
            have hfA := Lib.hid (by have := flt_at hAf.out hx; rwa [← hi.out] at this : (fa x = true → A[i]? = some x) ∧ (fa x = false → A[i]? ≠ some x) ∧ (C.take (p + 1)).filter fa = if fa x then (C.take p).filter fa ++ [x] else (C.take p).filter fa)
            have hfB := Lib.hid (by have := flt_at hBf.out hx; rwa [← hkk.out] at this : (fb x = true → B[k]? = some x) ∧ (fb x = false → B[k]? ≠ some x) ∧ (C.take (p + 1)).filter fb = if fb x then (C.take p).filter fb ++ [x] else (C.take p).filter fb)
            have hox := Lib.hid (hor.out x (List.mem_of_getElem? hx))
            clear hx
            go_upto_region 12 with fail
            go_cut [16] from 71 to 118 (fun t wx => t = .bool (fa x) ∧ Ext wr wx)
            case first =>
              obtain ⟨qa, qc, e1, hrc⟩ := hC'.out.ext hE
              rw [← hcn.out] at hrc
              obtain ⟨cb, co, hatc⟩ := hrc.at
              obtain ⟨e4, _, hdc⟩ := hatc (by omega)
              subst e4
              have px := ens_range (by rw [← hcn.out]; exact hdc) hx'.out
              clear hatc hdc e1 hrc
              by_cases hia : i < an
              · have hii : (i : Int) < (an : Int) := by omega
                obtain ⟨z, hz⟩ : ∃ z, A[i]? = some z := ⟨_, List.getElem?_eq_getElem (by rw [← han.out]; exact hia)⟩
                obtain ⟨qa2, qc2, e2, hra⟩ := hA'.out.ext hE
                rw [← han.out] at hra
                obtain ⟨ab, ao, hata⟩ := hra.at
                obtain ⟨e5, _, hda⟩ := hata (by omega)
                subst e5
                have pz := ens_range (by rw [← han.out]; exact hda) hz
                have hf : sameEB z x = fa x := by
                  cases hfx : fa x with
                  | true =>
                    have := hfA.out.1 hfx
                    rw [hz] at this
                    injection this with this
                    exact sameE_iff.2 this
                  | false =>
                    have h2 := hfA.out.2.1 hfx
                    cases hs : sameEB z x with
                    | false => rfl
                    | true => exact absurd (by rw [hz, sameE_iff.1 hs]) h2
                have hf' := Lib.hid hf
                clear hata hda hz e2 hra hf
                refine wp_region_class (Ext wr) (by kernel_rfl) (by kernel_rfl) (Ext.refl _).drew ?_
                iterate 8 (refine wpQuiet_step (fun K hK => ?_); go_simp; first | (refine hK _ ?_; clear hK K) | (refine ⟨_, fun _ _ => rfl, hK _ ?_⟩; clear hK K))
                refine wpQuiet_load_mid (by rfl) 31 _ (by rfl) ab (ao + i * 4) (by rfl) _ _ (fun w' h r u hu => h.cell (pz r u hu)) Try.underlying31 rfl (by exact info_entry) ?_
                iterate 3 (refine wpQuiet_step (fun K hK => ?_); go_simp; first | (refine hK _ ?_; clear hK K) | (refine ⟨_, fun _ _ => rfl, hK _ ?_⟩; clear hK K))
                refine wpQuiet_load_mid (by rfl) 31 _ (by rfl) cb (co + p * 4) (by rfl) _ _ (fun w' h r u hu => h.cell (px r u hu)) Try.underlying31 rfl (by exact info_entry) ?_
                refine wpQuiet_eql_en (by rfl) (.tmp 83) (.tmp 87) (by rfl) z x (by rfl) (by rfl) ?_
                iterate 2 (refine wpQuiet_step (fun K hK => ?_); go_simp; first | (refine hK _ ?_; clear hK K) | (refine ⟨_, fun _ _ => rfl, hK _ ?_⟩; clear hK K))
                refine wpQuiet_nil (fun w9 hE9 => ?_)
                go_wp2_with fail
                go_meet
                exact ⟨by rw [hf'.out], hE9⟩
              · have hii : ¬ (i : Int) < (an : Int) := by omega
                have hf' : Hid (fa x = false) := Lib.hid (by
                  cases hfx : fa x with
                  | false => rfl
                  | true =>
                    have := (List.getElem?_eq_some_iff.1 (hfA.out.1 hfx)).1
                    rw [← han.out] at this
                    omega)
                clear px
                go_quiet (fail)
                go_wp2_with fail
                go_meet
                exact ⟨by rw [hf'.out], ext_drawsK (Ext.refl _) _⟩
            case rest =>
              obtain ⟨rfl, hE9⟩ := hcut
              replace hE9 := hE.trans hE9
              rename_i wb
              go_upto_region 13 with fail
              go_cut [17] from 71 to 118 (fun t wx => t = .bool (fb x) ∧ Ext wc wx)
              case first =>
                obtain ⟨qa, qc, e1, hrc⟩ := hC'.out.ext hE9
                rw [← hcn.out] at hrc
                obtain ⟨cb, co, hatc⟩ := hrc.at
                obtain ⟨e4, _, hdc⟩ := hatc (by omega)
                subst e4
                have px := ens_range (by rw [← hcn.out]; exact hdc) hx'.out
                clear hatc hdc e1 hrc
                by_cases hia : k < bn
                · have hii : (k : Int) < (bn : Int) := by omega
                  obtain ⟨z, hz⟩ : ∃ z, B[k]? = some z := ⟨_, List.getElem?_eq_getElem (by rw [← hbn.out]; exact hia)⟩
                  obtain ⟨qa2, qc2, e2, hra⟩ := hB'.out.ext hE9
                  rw [← hbn.out] at hra
                  obtain ⟨bb, bo, hata⟩ := hra.at
                  obtain ⟨e5, _, hda⟩ := hata (by omega)
                  subst e5
                  have pz := ens_range (by rw [← hbn.out]; exact hda) hz
                  have hf : sameEB z x = fb x := by
                    cases hfx : fb x with
                    | true =>
                      have := hfB.out.1 hfx
                      rw [hz] at this
                      injection this with this
                      exact sameE_iff.2 this
                    | false =>
                      have h2 := hfB.out.2.1 hfx
                      cases hs : sameEB z x with
                      | false => rfl
                      | true => exact absurd (by rw [hz, sameE_iff.1 hs]) h2
                  have hf' := Lib.hid hf
                  clear hata hda hz e2 hra hf
                  refine wp_region_class (Ext wc) (by kernel_rfl) (by kernel_rfl) (Ext.refl _).drew ?_
                  iterate 8 (refine wpQuiet_step (fun K hK => ?_); go_simp; first | (refine hK _ ?_; clear hK K) | (refine ⟨_, fun _ _ => rfl, hK _ ?_⟩; clear hK K))
                  refine wpQuiet_load_mid (by rfl) 31 _ (by rfl) bb (bo + k * 4) (by rfl) _ _ (fun w' h r u hu => h.cell (pz r u hu)) Try.underlying31 rfl (by exact info_entry) ?_
                  iterate 3 (refine wpQuiet_step (fun K hK => ?_); go_simp; first | (refine hK _ ?_; clear hK K) | (refine ⟨_, fun _ _ => rfl, hK _ ?_⟩; clear hK K))
                  refine wpQuiet_load_mid (by rfl) 31 _ (by rfl) cb (co + p * 4) (by rfl) _ _ (fun w' h r u hu => h.cell (px r u hu)) Try.underlying31 rfl (by exact info_entry) ?_
                  refine wpQuiet_eql_en (by rfl) (.tmp 98) (.tmp 102) (by rfl) z x (by rfl) (by rfl) ?_
                  iterate 2 (refine wpQuiet_step (fun K hK => ?_); go_simp; first | (refine hK _ ?_; clear hK K) | (refine ⟨_, fun _ _ => rfl, hK _ ?_⟩; clear hK K))
                  refine wpQuiet_nil (fun w9 hE9 => ?_)
                  go_wp2_with fail
                  go_meet
                  exact ⟨by rw [hf'.out], hE9⟩
                · have hii : ¬ (k : Int) < (bn : Int) := by omega
                  have hf' : Hid (fb x = false) := Lib.hid (by
                    cases hfx : fb x with
                    | false => rfl
                    | true =>
                      have := (List.getElem?_eq_some_iff.1 (hfB.out.1 hfx)).1
                      rw [← hbn.out] at this
                      omega)
                  clear px
                  go_quiet (fail)
                  go_wp2_with fail
                  go_meet
                  exact ⟨by rw [hf'.out], ext_drawsK (Ext.refl _) _⟩
              case rest =>
                obtain ⟨rfl, hE10⟩ := hcut
                replace hE10 := hE9.trans hE10
                have hc1 : ∀ g : En → Bool, ((C.take (p + 1)).filter g).length ≤ (C.filter g).length := fun g => flt_le (p + 1)
                have hca : Hid (((C.take (p + 1)).filter fa).length ≤ an) := Lib.hid (by rw [hAl.out]; exact hc1 fa)
                have hcb : Hid (((C.take (p + 1)).filter fb).length ≤ bn) := Lib.hid (by rw [hBl.out]; exact hc1 fb)
                clear hc1
                cases h1 : fa x with
                | false =>
                  cases h2 : fb x with
                  | false => exact absurd hox.out (by rw [h1, h2]; simp)
                  | true =>
                    have hi2 : Hid (i = ((C.take (p + 1)).filter fa).length) := Lib.hid (by rw [hfA.out.2.2, h1, if_neg (by simp)]; exact hi.out)
                    have hk2 : Hid (k + 1 = ((C.take (p + 1)).filter fb).length) := Lib.hid (by rw [hfB.out.2.2, h2, if_pos rfl, List.length_append, ← hkk.out]; rfl)
                    have hkb3 : k + 1 ≤ bn := by rw [hk2.out]; exact hcb.out
                    clear h1 h2
                    go_wp2_with fail
                    go_roundw
                    case rel => first | exact ⟨p + 1, i, k + 1, by go_num, by omega, by go_num, by go_num, hi2, hk2, hia2, hkb3, hE10⟩ | ((repeat apply Exists.intro); exact ⟨⟨p + 1, i, k + 1, by go_num, by omega, by go_num, by go_num, hi2, hk2, hia2, hkb3, hE10⟩, rfl⟩)
                    case measure => simp [intOf]; omega
                | true =>
                  have hi2 : Hid (i + 1 = ((C.take (p + 1)).filter fa).length) := Lib.hid (by rw [hfA.out.2.2, h1, if_pos rfl, List.length_append, ← hi.out]; rfl)
                  have hia3 : i + 1 ≤ an := by rw [hi2.out]; exact hca.out
                  clear h1
                  cases h2 : fb x with
                  | false =>
                    have hk2 : Hid (k = ((C.take (p + 1)).filter fb).length) := Lib.hid (by rw [hfB.out.2.2, h2, if_neg (by simp)]; exact hkk.out)
                    clear h2
                    go_wp2_with fail
                    go_roundw
                    case rel => first | exact ⟨p + 1, i + 1, k, by go_num, by omega, by go_num, by go_num, hi2, hk2, hia3, hkb2, hE10⟩ | ((repeat apply Exists.intro); exact ⟨⟨p + 1, i + 1, k, by go_num, by omega, by go_num, by go_num, hi2, hk2, hia3, hkb2, hE10⟩, rfl⟩)
                    case measure => simp [intOf]; omega
                  | true =>
                    have hk2 : Hid (k + 1 = ((C.take (p + 1)).filter fb).length) := Lib.hid (by rw [hfB.out.2.2, h2, if_pos rfl, List.length_append, ← hkk.out]; rfl)
                    have hkb3 : k + 1 ≤ bn := by rw [hk2.out]; exact hcb.out
                    clear h2
                    go_wp2_with fail
                    go_roundw
                    case rel => first | exact ⟨p + 1, i + 1, k + 1, by go_num, by omega, by go_num, by go_num, hi2, hk2, hia3, hkb3, hE10⟩ | ((repeat apply Exists.intro); exact ⟨⟨p + 1, i + 1, k + 1, by go_num, by omega, by go_num, by go_num, hi2, hk2, hia3, hkb3, hE10⟩, rfl⟩)
                    case measure => simp [intOf]; omega
          · have hpi : ¬ (p : Int) < (cn : Int) := by omega
            have hpe : p = cn := by omega
            have htk : C.take p = C := by rw [hpe, hcn.out, List.take_length]
            obtain rfl : i = an := by
              have h1 := hi.out
              rw [htk, ← hAl.out] at h1
              exact h1
            obtain rfl : k = bn := by
              have h1 := hkk.out
              rw [htk, ← hBl.out] at h1
              exact h1
            clear htk hpe
            go_wp2_with fail
            go_ret
            exact ⟨rfl, hEw.trans hE⟩
end Go.Proofs.Ytlgnpfchblgpoaa
