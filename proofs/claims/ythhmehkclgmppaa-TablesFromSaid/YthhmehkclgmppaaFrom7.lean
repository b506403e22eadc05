/- The law TablesFrom. No condition. -/
import Derived.Test.YthhmehkclgmppaaPre7b
namespace Go.Proofs.Ythhmehkclgmppaa
open Go.RowKit
theorem rest_drop {L : List En} (m : Mk) : L.drop (L.length - (restL L m).length) = restL L m ∧ (restL L m).length ≤ L.length := by
  have h := ahead_rest L m
  generalize aheadL L m = A at *
  generalize restL L m = R at *
  subst h
  rw [List.length_append, show A.length + R.length - R.length = A.length by omega]
  exact ⟨List.drop_left .., by omega⟩
theorem rest_lt {L : List En} (hr : Rises L) (m : Mk) {k : Nat} {c : En} (hc : L[k]? = some c) : c.mark.ltB m = decide (k < L.length - (restL L m).length) := by
  have h := ahead_rest L m
  have hn := congrArg List.length h
  rw [List.length_append] at hn
  rw [← h] at hc
  by_cases hk : k < (aheadL L m).length
  · rw [List.getElem?_append_left hk] at hc
    rw [decide_eq_true (by omega)]
    exact ahead_lt (List.mem_of_getElem? hc)
  · rw [List.getElem?_append_right (by omega)] at hc
    rw [decide_eq_false (by omega)]
    exact rest_ge hr (List.mem_of_getElem? hc)
set_option maxRecDepth 100000 in
set_option maxHeartbeats 2000000 in
theorem tablesFrom_walk (w : World) (v : Value) (o0 : ∃ n, OKC Try.prog w n 36 [v]) (mc : Array Value) (o1 : ∃ n, OKC Try.prog w n 24 mc.toList) (most : Int) (_o2 : ∃ n, OKC Try.prog w n 3 [.int .i64 most]) :
    Calls Try.prog 6 #[v, .agg mc, .int .i64 most] w fun e w' => e = .returned (.bool true) ∧ Ext w w' := by
  obtain ⟨l, a, cap, rfl, hg, h1, hby⟩ := okc_entries o0
  obtain ⟨n1, o1⟩ := o1
  obtain ⟨m, hmc, hmk, _⟩ := okc_mark o1
  obtain rfl : mc = #[.string m.key, .int .u64 (m.seq : Int), .bool m.gone] := by rw [← Array.toList_inj]; exact hmc
  have hgs : ∀ x ∈ l, x.small := fun x hx => (hg x hx).1
  have hgs' := Lib.hid hgs
  obtain ⟨W, hW⟩ : ∃ W, W = w.alloc (.cells #[.string m.key, .int .u64 (m.seq : Int), .bool m.gone] 24) := ⟨_, rfl⟩
  have hE0 : Ext w W := by rw [hW]; exact (Ext.refl _).alloc _
  have hM : MkAt W w.heap.size m := by rw [hW]; exact heap_alloc_new w _
  have hW' := Lib.hid hW
  have h1' := Lib.hid (h1.ext hE0)
  have hll : l.length ≤ 140737488351232 := by omega
  clear o0 o1 _o2 hg hgs h1 hby hmc hW
  go_enter Try.func6, Try.ntmps6
  go_wp2_with fail
  rw [← hW'.out]
  clear hW'
  refine (alive_any W).mono ?_
  rintro e w1 ⟨rfl, hE1⟩
  go_wp2_with fail
  refine (many_any w1 l a cap hgs'.out hll (h1'.out.ext hE1)).mono ?_
  rintro e w2 ⟨rfl, hE2⟩
  replace hE2 := hE1.trans hE2
  clear hE1
  obtain ⟨bm, hbm⟩ : ∃ bm, bm = w.heap.size := ⟨_, rfl⟩
  rw [← hbm] at hM ⊢
  clear hbm
  have hm0 := (hM.ext hE2).cells.1
  cases hm : manyB l
  · have hml := many_false hm
    have hm' := Lib.hid hm
    clear hm
    by_cases hk : 1000 < m.key.size
    · have hki : (1000 : Int) < (m.key.size : Int) := by omega
      go_wp2_with fail
      refine (alive_any w2).mono ?_
      rintro e w3 ⟨rfl, hE3⟩
      go_wp2_with fail
      go_ret
      exact ⟨rfl, hE0.trans (hE2.trans hE3)⟩
    · have hki : ¬ (1000 : Int) < (m.key.size : Int) := by omega
      go_wp2_with fail
      refine (putl_nil w2 l a cap hgs'.out (by omega) (h1'.out.ext hE2)).mono ?_
      rintro e w3 ⟨rfl, hT⟩
      have hLr := tabL_rises l
      have hLn := tabL_length l
      have hLf : ∀ e ∈ tabL l, fineB e = true := fun _ h => (tabL_fine h).2
      generalize w2.heap.size + 1 = tb at *
      generalize tabL l = L at *
      have hE3 := hE2.trans hT.1
      clear hm0
      go_wp2_with fail
      refine (tx_all hT (by omega) hLf).mono ?_
      rintro e w4 ⟨ra, rc, rfl, hR, hE4⟩
      replace hT := hT.ext hE4
      replace hE4 := hE3.trans hE4
      have hrg := (hM.ext hE4).range
      clear hE3 hE2 hLf
      have hrest := rest_drop (L := L) m
      have hlts : ∀ (k : Nat) (c : En), L[k]? = some c → c.mark.ltB m = decide (k < L.length - (restL L m).length) := fun k c h => rest_lt hLr m h
      have hfrom : ∀ (w' : World) (x : Int), TabX w2 w' tb L → Calls Try.prog 12 #[.pointer (some ⟨tb, 0, none⟩), .agg #[.string m.key, .int .u64 (m.seq : Int), .bool m.gone], .int .i64 x] w' (FromE ((restL L m).take x.toNat) w') := fun w' x h => tx_from h (by omega) m x
      generalize restL L m = R at *
      obtain ⟨hrd, hrl⟩ := hrest
      have hrd' := Lib.hid hrd
      have hlts' := Lib.hid hlts
      have hfrom' := Lib.hid hfrom
      clear hrd hlts hfrom hLr
      go_wp2_with (first | (refine wpList_load_mid (by rfl) 24 (.tmp 4) (by rfl) bm 0 (by rfl) (mkRow m) _ hrg Try.underlying24 rfl (by exact info_mark) ?_) | fail)
      refine (hfrom'.out w4 1000 hT).mono ?_
      intro e w5 hf5
      obtain ⟨fa, fc, rfl, hF, hE5⟩ := from_row hf5
      rw [show (1000 : Int).toNat = 1000 from rfl, List.take_of_length_le (by omega)] at hF ⊢
      clear hf5 hrg
      replace hT := hT.ext hE5
      replace hR := hR.ext hE5
      replace hE5 := hE4.trans hE5
      clear hE4
      have hcut : ∀ w' : World, (Instr.slice 36 (.slice ra L.length rc) (some (.int .i64 ((L.length : Int) - (R.length : Int)))) none none).run Try.prog w' = .ok (.slice (tailAddr ra rc (L.length - R.length) 4) R.length (rc - (L.length - R.length))) w' := fun w' => by
        have := run_cut_back Try.underlying36 (by exact info_entry) ra L.length rc (L.length - R.length) (by omega) w'
        rw [show L.length - (L.length - R.length) = R.length by omega, show ((L.length - R.length : Nat) : Int) = (L.length : Int) - (R.length : Int) by omega] at this
        exact this
      have hcr : RowIs w5 4 (.slice (tailAddr ra rc (L.length - R.length) 4) R.length (rc - (L.length - R.length))) R.length (R.flatMap enL) := by
        have := hR.drop (L.length - R.length)
        rw [ens_drop, hrd'.out, show L.length - (L.length - R.length) = R.length by omega] at this
        exact this
      have hgt : ¬ (L.length : Int) < (R.length : Int) := by omega
      have hL9 : (L.length : Int) ≤ 200 := by omega
      have hR9 : (R.length : Int) ≤ (L.length : Int) := by omega
      have hsame := same_any w5 R R fa (tailAddr ra rc (L.length - R.length) 4) fc (rc - (L.length - R.length)) hF hcr
      rw [decide_eq_true rfl] at hsame
      have hsame' := Lib.hid hsame
      clear hsame hcr hrl
      go_wp2_with fail
      refine hsame'.out.mono ?_
      clear hsame' hcut
      rintro e w6 ⟨rfl, hE6⟩
      replace hT := hT.ext hE6
      replace hR := hR.ext hE6
      replace hF := hF.ext hE6
      replace hE6 := hE5.trans hE6
      clear hE5
      go_wp2_with fail
      go_loopw [10] (fun i wr => ∃ k : Nat, k ≤ L.length ∧ i = .int .i64 k ∧ Ext w6 wr) (fun i _ => L.length - (intOf i).toNat)
      case atStart => exact ⟨0, by omega, rfl, Ext.refl _⟩
      case round =>
        obtain ⟨k, hk2, rfl, hE⟩ := hrel
        by_cases hlt : k < L.length
        · have hli : (k : Int) < (L.length : Int) := by omega
          obtain ⟨c, hc⟩ : ∃ c, L[k]? = some c := ⟨_, List.getElem?_eq_getElem hlt⟩
          have hcl := hlts'.out k c hc
          obtain ⟨b, off, hat⟩ := (hR.ext hE).at
          obtain ⟨rfl, _, hd⟩ := hat (by omega)
          have pm := ens_mark hd hc
          have pb := (hM.ext (hE6.trans hE)).range
          have hcm := fun w' => cmp_any w' c.mark m
          have hz : (cmpM c.mark m < 0 ∧ (k : Int) < (L.length : Int) - (R.length : Int)) ∨ (¬ cmpM c.mark m < 0 ∧ ¬ (k : Int) < (L.length : Int) - (R.length : Int)) := by
            by_cases h9 : c.mark.ltB m = true
            · left
              refine ⟨cmpM_neg.2 h9, ?_⟩
              rw [hcl, decide_eq_true_eq] at h9; omega
            · right
              refine ⟨fun h => h9 (cmpM_neg.1 h), ?_⟩
              rw [hcl, decide_eq_true_eq] at h9; omega
          generalize cmpM c.mark m = z at *
          have hcm' := Lib.hid hcm
          clear hcm hd hat hc hcl
          rcases hz with ⟨hz1, hz2⟩ | ⟨hz1, hz2⟩
          all_goals
            have hwr : IntKind.i64.wrap ((L.length : Int) - (R.length : Int)) = (L.length : Int) - (R.length : Int) := by rw [IntKind.wrap_i64]; omega
            go_upto_region 13 with fail
            refine wp_region_class (Ext wr) (by kernel_rfl) (by kernel_rfl) (Ext.refl _).drew ?_
            iterate 4 (refine wpQuiet_step (fun K hK => ?_); go_simp; first | (refine hK _ ?_; clear hK K) | (refine ⟨_, fun _ _ => rfl, hK _ ?_⟩; clear hK K))
            refine wpQuiet_load_mid (by rfl) 24 _ (by rfl) b (off + k * 4) (by rfl) _ _ (fun w' h r v hv => h.cell (pm r v hv)) Try.underlying24 rfl (by exact info_mark) ?_
            refine wpQuiet_load_mid (by rfl) 24 _ (by rfl) bm 0 (by rfl) _ _ (fun w' h r v hv => h.cell (pb r v hv)) Try.underlying24 rfl (by exact info_mark) ?_
            refine wpQuiet_step (fun K hK => ?_); go_simp
            refine ⟨_, fun w' hw => calls_ext hw (hcm'.out w'), hK _ ?_⟩; clear hK K
            iterate 9 (refine wpQuiet_step (fun K hK => ?_); go_simp; first | (refine hK _ ?_; clear hK K) | (refine ⟨_, fun _ _ => rfl, hK _ ?_⟩; clear hK K))
            refine wpQuiet_nil (fun w7 hE7 => ?_)
            clear hwr
            go_wp2_with fail
            go_roundw
            case rel => exact ⟨k + 1, by omega, by go_num, hE.trans hE7⟩
            case measure => simp [intOf]; omega
        · have hli : ¬ (k : Int) < (L.length : Int) := by omega
          have pb := (hM.ext (hE6.trans hE)).range
          replace hT := hT.ext hE
          replace hF := hF.ext hE
          replace hE := hE6.trans hE
          clear hR hE6 hR9 hgt hL9
          go_wp2_with (first | (refine wpList_load_mid (by rfl) 24 (.tmp 4) (by rfl) bm 0 (by rfl) (mkRow m) _ pb Try.underlying24 rfl (by exact info_mark) ?_) | fail)
          refine (hfrom'.out wr most hT).mono ?_
          intro e w7 hf7
          obtain ⟨ga, gc, rfl, hG, hE7⟩ := from_row hf7
          replace hF := hF.ext hE7
          replace hE7 := hE.trans hE7
          clear hf7 hE pb hfrom' hlts' hrd'
          obtain ⟨n, hn1, hn2, hn3⟩ : ∃ n : Nat, n ≤ R.length ∧ R.take most.toNat = R.take n ∧ max 0 (min most (R.length : Int)) = (n : Int) := by
            refine ⟨min most.toNat R.length, by omega, ?_, by omega⟩
            rcases Nat.le_total most.toNat R.length with h | h
            · rw [Nat.min_eq_left h]
            · rw [Nat.min_eq_right h, List.take_of_length_le h, List.take_of_length_le (Nat.le_refl _)]
          have hln : (R.take most.toNat).length = n := by rw [hn2, List.length_take]; omega
          have hK := hF.take hn1
          rw [ens_take] at hK
          rw [hln, hn2] at hG
          rw [hln]
          have hsame := same_any w7 (R.take n) (R.take n) ga fa gc fc
          have hlt2 : (R.take n).length = n := by rw [List.length_take]; omega
          rw [hlt2, decide_eq_true rfl] at hsame
          have hsame' := Lib.hid (hsame hG hK)
          have hcut : ∀ w' : World, (Instr.slice 36 (.slice fa R.length fc) none (some (.int .i64 (n : Int))) none).run Try.prog w' = .ok (.slice fa n fc) w' := fun w' => by
            obtain ⟨b, off, hat⟩ := hF.at
            refine run_cut_front Try.underlying36 (by exact info_entry) fa R.length fc n ?_ w'
            rcases Nat.eq_zero_or_pos R.length with h | h
            · omega
            · have := (hat h).2.1; omega
          have hn3' := Lib.hid hn3
          clear hF hK hG hsame hln hlt2 hn2 hn3
          have hx : (if (0 : Int) < (if (R.length : Int) < most then (R.length : Int) else most) then (if (R.length : Int) < most then (R.length : Int) else most) else 0) = (n : Int) := by
            have h9 := hn3'.out
            by_cases h1 : (R.length : Int) < most
            · rw [if_pos h1]; split <;> omega
            · rw [if_neg h1]; split <;> omega
          have hx' := Lib.hid hx
          clear hx
          have hn1i : (n : Int) ≤ (R.length : Int) := by omega
          go_upto_region 17 with fail
          rw [hx'.out]
          clear hx' hn3'
          go_wp2_with fail
          all_goals
            refine hsame'.out.mono ?_
            rintro e w8 ⟨rfl, hE8⟩
            go_wp2_with fail
            go_ret
            exact ⟨rfl, hE0.trans (hE7.trans hE8)⟩
  · have hm' := Lib.hid hm
    clear hm
    go_wp2_with fail
    refine (alive_any w2).mono ?_
    rintro e w3 ⟨rfl, hE3⟩
    go_wp2_with fail
    go_ret
    exact ⟨rfl, hE0.trans (hE2.trans hE3)⟩
end Go.Proofs.Ythhmehkclgmppaa
