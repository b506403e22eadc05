/- The law TablesOrder. No condition. -/
import Derived.Test.YthhmehkclgmppaaOrd7a
import Derived.Test.YthhmehkclgmppaaKit4
import Derived.BigQuiet
import Derived.Deep.CutRange
import Derived.Deep.RegionHeld3
namespace Go.Proofs.Ythhmehkclgmppaa
open Go.RowKit
theorem wpQuiet_neq_mark {ops : Array Oper} {C : World → Prop} {Q : Act → Prop} {o : Oper} {rest : List Oper} {a : Act} (hg : Region.wanted o (yielded ops a.tmps) = true) (x y : Operand) (ho : o.op = .binOp .neq 24 x y 24) (m n : Mk) (hx : a.eval x = .agg (mkRow m).toArray) (hy : a.eval y = .agg (mkRow n).toArray)
    (k : wpQuiet Try.prog ops C Q rest (a.put o.dst (.bool (!sameB m n)))) : wpQuiet Try.prog ops C Q (o :: rest) a := by
  refine wpQuiet_value _ hg (fun w _ => ?_) k
  unfold execOp
  simp only [ho, hx, hy, mkRow]
  have hs : ((m.seq : Int) = (n.seq : Int)) ↔ m.seq = n.seq := by omega
  go_simp
  unfold sameB
  by_cases h1 : m.key.toList = n.key.toList <;> by_cases h2 : m.seq = n.seq <;> by_cases h3 : m.gone = n.gone <;> simp [h1, h2, h3]
theorem first_step {l : List En} {c y : En} {j : Nat} (h : l[j]? = some y) : (fineB c && !thF (l.take (j + 1)) c.mark) = ((fineB c && !thF (l.take j) c.mark) && (!sameB y.mark c.mark || !fineB y)) := by
  rw [thF_take h]
  cases fineB c <;> cases thF (l.take j) c.mark <;> cases sameB y.mark c.mark <;> cases fineB y <;> rfl
def Rot (n : Nat) (v : Value) : Prop := ∃ r : Nat, v = .int .i64 (r : Int) ∧ r ≤ n
def NewT (wr : World) (L : List En) (s : Value) (wx : World) : Prop := ∃ t2 w0, s = .pointer (some ⟨t2, 0, none⟩) ∧ TabX w0 wx t2 L ∧ Ext wr wx
theorem ens_one (l : List En) : ∀ u ∈ l.flatMap enL, u.oneCell' = true := fun u hu => by
  obtain ⟨e, _, h⟩ := List.mem_flatMap.1 hu
  exact Array.all_eq_true_iff_forall_mem.1 (en_one e) u (by simpa [enL] using h)
set_option maxRecDepth 100000 in
set_option maxHeartbeats 8000000 in
theorem tablesOrder_walk (w : World) (v : Value) (o0 : ∃ n, OKC Try.prog w n 36 [v]) (v1 : Value) (o1 : ∃ n, OKC Try.prog w n 40 [v1]) (fr : Int) (o2 : ∃ n, OKC Try.prog w n 5 [.int .u8 fr]) :
    Calls Try.prog 4 #[v, v1, .int .u8 fr] w fun e w' => e = .returned (.bool true) ∧ Ext w w' := by
  obtain ⟨l, a, cap, rfl, hg, h1, hby⟩ := okc_entries o0
  obtain ⟨tl, ta, tcap, rfl, ht, h2⟩ := okc_u8row Try.underlying40 Try.underlying5 (by kernel_rfl) o1
  obtain ⟨fr, rfl, hfr⟩ := okc_nat Try.underlying5 (fun _ h => wf_u8 h) o2
  have hgs : ∀ x ∈ l, x.small := fun x hx => (hg x hx).1
  have hgs' := Lib.hid hgs
  have h1' := Lib.hid h1
  have h2' := Lib.hid h2
  have ht' := Lib.hid ht
  have hll : l.length ≤ 140737488351232 := by omega
  clear o0 o1 o2 hg hgs h1 hby h2 ht
  go_enter Try.func4, Try.ntmps4
  go_wp2_with fail
  refine (alive_any w).mono ?_
  rintro e w1 ⟨rfl, hE1⟩
  go_wp2_with fail
  refine (many_any w1 l a cap hgs'.out hll (h1'.out.ext hE1)).mono ?_
  rintro e w2 ⟨rfl, hE2⟩
  replace hE2 := hE1.trans hE2
  clear hE1
  cases hm : manyB l
  · have hml := many_false hm
    have hm' := Lib.hid hm
    clear hm
    by_cases hk : 1000 < tl.length
    · have hki : (1000 : Int) < (tl.length : Int) := by omega
      go_wp2_with fail
      refine (alive_any w2).mono ?_
      rintro e w3 ⟨rfl, hE3⟩
      go_wp2_with fail
      go_ret
      exact ⟨rfl, hE2.trans hE3⟩
    · have hki : ¬ (1000 : Int) < (tl.length : Int) := by omega
      go_wp2_with fail
      refine (putl_any w2 l a cap hgs'.out (by omega) (h1'.out.ext hE2) tl ta tcap ht'.out (h2'.out.ext hE2)).mono ?_
      rintro e w3 ⟨rfl, hT⟩
      have hLn := tabL_length l
      have hLf : ∀ e ∈ tabL l, fineB e = true := fun _ h => (tabL_fine h).2
      generalize w2.heap.size + 1 = tb at *
      have hE3 := hE2.trans hT.1
      go_wp2_with fail
      refine (tx_all hT (by omega) hLf).mono ?_
      rintro e w4 ⟨ra, rc, rfl, hR, hE4⟩
      replace hT := hT.ext hE4
      replace hE4 := hE3.trans hE4
      have hTh := Lib.hid hT
      have hRh := Lib.hid hR
      have hLfh := Lib.hid hLf
      clear hE3 hE2 hT hR hLf
      obtain ⟨L, hL⟩ : ∃ L, L = tabL l := ⟨_, rfl⟩
      rw [← hL] at hTh hRh hLfh hLn ⊢
      have hL' := Lib.hid hL
      clear hL
      go_wp2_with fail
      go_loopw [9, 10] (fun n i wr => ∃ k : Nat, k ≤ l.length ∧ i = .int .i64 k ∧ n = .int .i64 ((tabL (l.take k)).length : Nat) ∧ Ext w4 wr) (fun _ i _ => l.length - (intOf i).toNat)
      case atStart => exact ⟨0, by omega, rfl, rfl, Ext.refl _⟩
      case round =>
        obtain ⟨k, hk2, rfl, rfl, hE⟩ := hrel
        by_cases hlt : k < l.length
        · have hli : (k : Int) < (l.length : Int) := by omega
          obtain ⟨c, hc⟩ : ∃ c, l[k]? = some c := ⟨_, List.getElem?_eq_getElem hlt⟩
          have hcs := hgs'.out c (List.mem_of_getElem? hc)
          have hcnt := Lib.hid (first_count (by omega) hc)
          have hfm := Lib.hid (fun h => first_mem (by omega) hc h)
          have hcl : (tabL (l.take k)).length ≤ k := by have := tabL_length (l.take k); rw [List.length_take] at this; omega
          have hcc := Lib.hid hc
          clear hc
          obtain ⟨b, off, hat⟩ := h1'.out.at
          obtain ⟨rfl, _, hd⟩ := hat (by omega)
          have hd' := Lib.hid hd
          have hpe0 : ∀ w', Ext w w' → w'.rangeAt b (off + k * 4) (enRow c).toList := fun w' he => ens_range (fun i hi => row_cell he h1'.out.1 hd'.out i hi) hcc.out
          have hpe := Lib.hid hpe0
          have pe := hpe0 wr (hE4.trans hE)
          clear hat hd hpe0
          go_wp2_with (first | (refine wpList_load_mid (by rfl) 26 (.tmp 46) (by rfl) b (off + k * 4) (by rfl) (enRow c).toList _ pe Try.underlying26 rfl (by exact info_entry) ?_) | fail)
          refine (fine_any wr c hcs).mono ?_
          rintro e w5 ⟨rfl, hE5⟩
          replace hE5 := hE.trans hE5
          clear hE pe
          go_wp2_with fail
          go_loopw [11, 12] (fun f q wr2 => ∃ j : Nat, j ≤ k ∧ q = .int .i64 j ∧ f = .bool (fineB c && !thF (l.take j) c.mark) ∧ Ext w4 wr2) (fun _ q _ => k - (intOf q).toNat)
          case atStart => exact ⟨0, by omega, rfl, by simp [thF], hE5⟩
          case round =>
            clear hE5
            obtain ⟨j, hj, rfl, rfl, hE⟩ := hrel
            by_cases hjk : j < k
            · have hji : (j : Int) < (k : Int) := by omega
              have hjl : (j : Int) < (l.length : Int) := by omega
              obtain ⟨y, hy⟩ : ∃ y, l[j]? = some y := ⟨_, List.getElem?_eq_getElem (by omega)⟩
              have hys := hgs'.out y (List.mem_of_getElem? hy)
              have hdr : ∀ i, i < l.length * 4 → wr.cell? ⟨b, off + i, none⟩ = (l.flatMap enL)[i]? := fun i hi => row_cell (hE4.trans hE) h1'.out.1 hd'.out i hi
              have py := ens_mark hdr hy
              have pye := ens_range hdr hy
              have pc := ens_mark hdr hcc.out
              have hst := Lib.hid (first_step (c := c) hy)
              have hyy := Lib.hid hy
              clear hdr hy
              go_upto_region 15 with fail
              cases hB : (fineB c && !thF (l.take j) c.mark)
              · go_quiet (fail)
                have hB' := Lib.hid hB
                clear hB
                go_wp2_with fail
                go_roundw
                case rel => exact ⟨j + 1, by omega, by go_num, by rw [hst.out, hB'.out]; rfl, hE.trans (ext_draws (Ext.refl _) _)⟩
                case measure => simp [intOf]; omega
              · refine wp_region_class (Ext wr) (by kernel_rfl) (by kernel_rfl) (Ext.refl _).drew ?_
                iterate 6 (refine wpQuiet_step (fun K hK => ?_); go_simp; first | (refine hK _ ?_; clear hK K) | (refine ⟨_, fun _ _ => rfl, hK _ ?_⟩; clear hK K))
                refine wpQuiet_load_mid (by rfl) 24 _ (by rfl) b (off + j * 4) (by rfl) _ _ (fun w' h r v hv => h.cell (py r v hv)) Try.underlying24 rfl (by exact info_mark) ?_
                iterate 4 (refine wpQuiet_step (fun K hK => ?_); go_simp; first | (refine hK _ ?_; clear hK K) | (refine ⟨_, fun _ _ => rfl, hK _ ?_⟩; clear hK K))
                refine wpQuiet_load_mid (by rfl) 24 _ (by rfl) b (off + k * 4) (by rfl) _ _ (fun w' h r v hv => h.cell (pc r v hv)) Try.underlying24 rfl (by exact info_mark) ?_
                refine wpQuiet_neq_mark (by rfl) (.tmp 60) (.tmp 65) (by rfl) y.mark c.mark (by rfl) (by rfl) ?_
                simp only [Act.put, List.setIfInBounds_toArray, List.set_cons_zero, List.set_cons_succ]
                cases hS : sameB y.mark c.mark
                · simp only [Bool.not_false]
                  iterate 10 (refine wpQuiet_step (fun K hK => ?_); go_simp; first | (refine hK _ ?_; clear hK K) | (refine ⟨_, fun _ _ => rfl, hK _ ?_⟩; clear hK K))
                  refine wpQuiet_nil (fun w6 hE6 => ?_)
                  have hB' := Lib.hid hB
                  have hS' := Lib.hid hS
                  clear hB hS
                  go_wp2_with fail
                  go_roundw
                  case rel => exact ⟨j + 1, by omega, by go_num, by rw [hst.out, hB'.out, hS'.out]; rfl, hE.trans hE6⟩
                  case measure => simp [intOf]; omega
                · simp only [Bool.not_true]
                  iterate 4 (refine wpQuiet_step (fun K hK => ?_); go_simp; first | (refine hK _ ?_; clear hK K) | (refine ⟨_, fun _ _ => rfl, hK _ ?_⟩; clear hK K))
                  refine wpQuiet_load_mid (by rfl) 26 _ (by rfl) b (off + j * 4) (by rfl) _ _ (fun w' h r v hv => h.cell (pye r v hv)) Try.underlying26 rfl (by exact info_entry) ?_
                  refine wpQuiet_step (fun K hK => ?_); go_simp
                  refine ⟨_, fun w' hw => calls_ext hw (fine_any w' y hys), hK _ ?_⟩; clear hK K
                  iterate 4 (refine wpQuiet_step (fun K hK => ?_); go_simp; first | (refine hK _ ?_; clear hK K) | (refine ⟨_, fun _ _ => rfl, hK _ ?_⟩; clear hK K))
                  refine wpQuiet_nil (fun w6 hE6 => ?_)
                  have hB' := Lib.hid hB
                  have hS' := Lib.hid hS
                  clear hB hS
                  go_wp2_with fail
                  go_roundw
                  case rel => exact ⟨j + 1, by omega, by go_num, by rw [hst.out, hB'.out, hS'.out]; simp, hE.trans hE6⟩
                  case measure => simp [intOf]; omega
            · obtain rfl : j = k := by omega
              have hji : ¬ (j : Int) < (j : Int) := by omega
              go_wp2_with fail
              go_loopw [13, 14] (fun is q wr2 => ∃ i : Nat, i ≤ L.length ∧ q = .int .i64 i ∧ is = .bool (hasB (L.take i) c) ∧ Ext w4 wr2) (fun _ q _ => L.length - (intOf q).toNat)
              case atStart => exact ⟨0, by omega, rfl, rfl, hE⟩
              case round =>
                clear hE
                obtain ⟨i, hi, rfl, rfl, hE⟩ := hrel
                by_cases hil : i < L.length
                · have hii : (i : Int) < (L.length : Int) := by omega
                  obtain ⟨y, hy⟩ : ∃ y, L[i]? = some y := ⟨_, List.getElem?_eq_getElem hil⟩
                  obtain ⟨b2, off2, hat2⟩ := (hRh.out.ext hE).at
                  obtain ⟨rfl, _, hd2⟩ := hat2 (by omega)
                  have py := ens_range hd2 hy
                  have pc := hpe.out wr (hE4.trans hE)
                  have hst := Lib.hid (hasB_take (c := c) hy)
                  clear hat2 hd2 hy
                  go_upto_region 20 with fail
                  cases hB : hasB (L.take i) c
                  · refine wp_region_class (Ext wr) (by kernel_rfl) (by kernel_rfl) (Ext.refl _).drew ?_
                    iterate 5 (refine wpQuiet_step (fun K hK => ?_); go_simp; first | (refine hK _ ?_; clear hK K) | (refine ⟨_, fun _ _ => rfl, hK _ ?_⟩; clear hK K))
                    refine wpQuiet_load_mid (by rfl) 26 _ (by rfl) b2 (off2 + i * 4) (by rfl) _ _ (fun w' h r v hv => h.cell (py r v hv)) Try.underlying26 rfl (by exact info_entry) ?_
                    iterate 3 (refine wpQuiet_step (fun K hK => ?_); go_simp; first | (refine hK _ ?_; clear hK K) | (refine ⟨_, fun _ _ => rfl, hK _ ?_⟩; clear hK K))
                    refine wpQuiet_load_mid (by rfl) 26 _ (by rfl) b (off + j * 4) (by rfl) _ _ (fun w' h r v hv => h.cell (pc r v hv)) Try.underlying26 rfl (by exact info_entry) ?_
                    refine wpQuiet_eql_en (by rfl) (.tmp 87) (.tmp 91) (by rfl) y c (by rfl) (by rfl) ?_
                    simp only [Act.put, List.setIfInBounds_toArray, List.set_cons_zero, List.set_cons_succ]
                    iterate 2 (refine wpQuiet_step (fun K hK => ?_); go_simp; first | (refine hK _ ?_; clear hK K) | (refine ⟨_, fun _ _ => rfl, hK _ ?_⟩; clear hK K))
                    refine wpQuiet_nil (fun w6 hE6 => ?_)
                    have hB' := Lib.hid hB
                    clear hB
                    go_wp2_with fail
                    go_roundw
                    case rel => exact ⟨i + 1, by omega, by go_num, by rw [hst.out, hB'.out]; simp, hE.trans hE6⟩
                    case measure => simp [intOf]; omega
                  · go_quiet (fail)
                    have hB' := Lib.hid hB
                    clear hB
                    go_wp2_with fail
                    go_roundw
                    case rel => exact ⟨i + 1, by omega, by go_num, by rw [hst.out, hB'.out]; rfl, hE.trans (ext_draws (Ext.refl _) _)⟩
                    case measure => simp [intOf]; omega
                · obtain rfl : i = L.length := by omega
                  have hii : ¬ (L.length : Int) < (L.length : Int) := by omega
                  rw [List.take_of_length_le (Nat.le_refl _)]
                  have hct := hcnt.out
                  unfold firstB at hct
                  cases hF : (fineB c && !thF (l.take j) c.mark)
                  · rw [hF] at hct
                    have hct' := Lib.hid hct
                    clear hct hF
                    generalize hasB L c = isb at *
                    go_wp2_with fail
                    go_roundw
                    case rel => exact ⟨j + 1, by omega, by go_num, by rw [hct'.out]; rfl, hE⟩
                    case measure => simp [intOf]; omega
                  · have hmm : hasB L c = true := hasB_iff.2 (by rw [hL'.out]; exact hfm.out hF)
                    rw [hF] at hct
                    rw [hmm]
                    have hct' := Lib.hid hct
                    clear hct hF hmm
                    go_wp2_with fail
                    go_roundw
                    case rel => exact ⟨j + 1, by omega, by go_num, by rw [hct'.out]; go_num, hE⟩
                    case measure => simp [intOf]; omega
        · have hli : ¬ (k : Int) < (l.length : Int) := by omega
          have hfin : (tabL (l.take k)).length = L.length := by rw [hL'.out, List.take_of_length_le (by omega)]
          rw [hfin]
          clear hfin
          have hLr' := Lib.hid (show Rises L by rw [hL'.out]; exact tabL_rises l)
          go_wp2_with fail
          go_loopw [15] (fun i wr2 => ∃ k : Nat, 1 ≤ k ∧ i = .int .i64 k ∧ Ext w4 wr2) (fun i _ => L.length + 1 - (intOf i).toNat)
          case atStart => exact ⟨1, by omega, rfl, hE⟩
          case round =>
            clear hE
            obtain ⟨i, hi1, rfl, hE⟩ := hrel
            by_cases hil : i < L.length
            · have hii : (i : Int) < (L.length : Int) := by omega
              obtain ⟨y, hy⟩ : ∃ y, L[i]? = some y := ⟨_, List.getElem?_eq_getElem hil⟩
              obtain ⟨x, hx⟩ : ∃ x, L[i - 1]? = some x := ⟨_, List.getElem?_eq_getElem (by omega)⟩
              have hxy : x.mark.ltB y.mark = true := by
                obtain ⟨q1, rfl⟩ := List.getElem?_eq_some_iff.1 hx
                obtain ⟨q2, rfl⟩ := List.getElem?_eq_some_iff.1 hy
                exact List.pairwise_iff_getElem.1 hLr'.out (i - 1) i q1 q2 (by omega)
              have hz := cmpM_neg.2 hxy
              have hcm := fun w' => cmp_any w' x.mark y.mark
              generalize cmpM x.mark y.mark = z at *
              obtain ⟨b2, off2, hat2⟩ := (hRh.out.ext hE).at
              obtain ⟨rfl, _, hd2⟩ := hat2 (by omega)
              have px := ens_mark hd2 hx
              have py := ens_mark hd2 hy
              have hcm' := Lib.hid hcm
              have hz0 : ¬ 0 ≤ z := by omega
              have hk4 : 0 ≤ (i : Int) - 1 := by omega
              have hk5 : (i : Int) - 1 < (L.length : Int) := by omega
              have hk6 : ((i : Int) - 1).toNat = i - 1 := by omega
              have hk7 : (1 : Int) ≤ (i : Int) := by omega
              have hk8 : (i : Int) ≤ (L.length : Int) := by omega
              have hk9 : 0 < i := by omega
              clear hat2 hd2 hx hy hcm hxy
              have hwr : IntKind.i64.wrap ((i : Int) - 1) = (i : Int) - 1 := by rw [IntKind.wrap_i64]; omega
              go_upto_region 28 with fail
              refine wp_region_class (Ext wr) (by kernel_rfl) (by kernel_rfl) (Ext.refl _).drew ?_
              iterate 5 (refine wpQuiet_step (fun K hK => ?_); go_simp; first | (refine hK _ ?_; clear hK K) | (refine ⟨_, fun _ _ => rfl, hK _ ?_⟩; clear hK K))
              refine wpQuiet_load_mid (by rfl) 24 _ (by rfl) b2 (off2 + (i - 1) * 4) (by rfl) _ _ (fun w' h r v hv => h.cell (px r v hv)) Try.underlying24 rfl (by exact info_mark) ?_
              iterate 4 (refine wpQuiet_step (fun K hK => ?_); go_simp; first | (refine hK _ ?_; clear hK K) | (refine ⟨_, fun _ _ => rfl, hK _ ?_⟩; clear hK K))
              refine wpQuiet_load_mid (by rfl) 24 _ (by rfl) b2 (off2 + i * 4) (by rfl) _ _ (fun w' h r v hv => h.cell (py r v hv)) Try.underlying24 rfl (by exact info_mark) ?_
              refine wpQuiet_step (fun K hK => ?_); go_simp
              refine ⟨_, fun w' hw => calls_ext hw (hcm'.out w'), hK _ ?_⟩; clear hK K
              iterate 1 (refine wpQuiet_step (fun K hK => ?_); go_simp; first | (refine hK _ ?_; clear hK K) | (refine ⟨_, fun _ _ => rfl, hK _ ?_⟩; clear hK K))
              refine wpQuiet_nil (fun w7 hE7 => ?_)
              clear hwr hk4 hk5 hk6
              go_wp2_with fail
              go_roundw
              case rel => exact ⟨i + 1, by omega, by go_num, hE.trans hE7⟩
              case measure => simp [intOf]; omega
            · have hii : ¬ (i : Int) < (L.length : Int) := by omega
              have hT := hTh.out.ext hE
              have hR := hRh.out.ext hE
              have hE0 := hE4.trans hE
              have hL1 : L.length ≤ 200 := by omega
              clear hE hE4
              go_wp2_with fail
              refine (tx_len hT).mono ?_
              rintro e w5 ⟨rfl, rfl⟩
              go_upto_if 132 with fail
              go_cut [16] from 131 to 136 (fun s wx => Rot L.length s ∧ wx = wr)
              case first =>
                by_cases h0 : 0 < L.length
                · have h0i : (0 : Int) < (L.length : Int) := by omega
                  have hml2 := Nat.mod_lt fr h0
                  have em0 : 0 ≤ (fr : Int) % (L.length : Int) := by omega
                  go_wp2_with fail
                  go_meet
                  refine ⟨⟨fr % L.length, ?_, by omega⟩, rfl⟩
                  congr 1
                · have h0i : ¬ (0 : Int) < (L.length : Int) := by omega
                  go_wp2_with fail
                  go_meet
                  exact ⟨⟨0, rfl, by omega⟩, rfl⟩
              case rest =>
              obtain ⟨⟨r, rfl, hr⟩, rfl⟩ := hcut
              have hcut1 : ∀ w' : World, (Instr.slice 36 (.slice ra L.length rc) (some (.int .i64 (r : Int))) none none).run Try.prog w' = .ok (.slice (tailAddr ra rc r 4) (L.length - r) (rc - r)) w' := fun w' => run_cut_back Try.underlying36 (by exact info_entry) ra L.length rc r hr w'
              have hcut2 : ∀ w' : World, (Instr.slice 36 (.slice ra L.length rc) none (some (.int .i64 (r : Int))) none).run Try.prog w' = .ok (.slice ra r rc) w' := fun w' => by
                obtain ⟨b, off, hat⟩ := hR.at
                refine run_cut_front Try.underlying36 (by exact info_entry) ra L.length rc r ?_ w'
                rcases Nat.eq_zero_or_pos L.length with h | h
                · omega
                · have := (hat h).2.1; omega
              have hA := hR.drop r
              rw [ens_drop] at hA
              have hB := hR.take hr
              rw [ens_take] at hB
              have hputl : ∀ (w' : World) (a' : Option Addr) (c' : Nat), RowIs w' 4 (.slice a' L.length c') L.length ((L.drop r).flatMap enL ++ (L.take r).flatMap enL) → Calls Try.prog 17 #[.slice a' L.length c', .slice none 0 0] w' fun e w'' => e = .returned (.pointer (some ⟨w'.heap.size + 1, 0, none⟩)) ∧ TabX w' w'' (w'.heap.size + 1) L := fun w' a' c' hrow => by
                have hlen : (L.drop r ++ L.take r).length = L.length := by rw [List.length_append, List.length_drop, List.length_take]; omega
                have := putl_nil w' (L.drop r ++ L.take r) a' c' (fun x hx => ?_) (by rw [hlen]; omega) (by rw [hlen, List.flatMap_append]; exact hrow)
                · rw [hlen, tabL_rot hLr'.out hLfh.out (by omega)] at this
                  exact this
                · have hx2 : x ∈ L := by
                    rcases List.mem_append.1 hx with h | h
                    · exact List.mem_of_mem_drop h
                    · exact List.mem_of_mem_take h
                  have h1 := hLfh.out x hx2
                  have h2 := fine_key h1
                  unfold fineB at h1
                  simp only [Bool.and_eq_true, decide_eq_true_eq] at h1
                  exact ⟨by omega, by omega⟩
              have hone1 := ens_one (L.drop r)
              have hone2 := ens_one (L.take r)
              have hsum : L.length - r + r = L.length := by omega
              have hsum' := Lib.hid hsum
              have hputl' := Lib.hid hputl
              have hone1' := Lib.hid hone1
              have hone2' := Lib.hid hone2
              have hA' := Lib.hid hA
              have hB' := Lib.hid hB
              have hT' := Lib.hid hT
              have hR' := Lib.hid hR
              have hri : (r : Int) ≤ (L.length : Int) := by omega
              clear hsum hputl hone1 hone2 hA hB hT hR
              go_upto_region 35 with fail
              go_cut [17] from 137 to 145 (fun s wx => NewT wc L s wx)
              case first =>
                go_region_held3 (fun w' => Ext wc w') (first | exact (Ext.refl wc).drew | assumption) (first | (refine step_append_row rfl _ (.tmp 139) 36 26 rfl Try.underlying36 el_entry wc.drew wc.heap.size 0 [] _ rfl (World.ownsRow_nil _ _ _ _) (.slice (tailAddr ra rc r 4) (L.length - r) (rc - r)) (L.length - r) ((L.drop r).flatMap enL) rfl (hA'.out.ext (Ext.refl _).drew) hone1'.out (by omega) (by omega) (by simp) ?_; intro v' w5 hown hb5; simp only [Nat.zero_add, List.nil_append] at hown; have hX5 : Ext wc w5 := Below.trans (Ext.refl wc).drew.below hb5) | (refine step_append_row rfl _ (.tmp 143) 36 26 rfl Try.underlying36 el_entry w5 wc.heap.size (L.length - r) _ _ rfl hown (.slice ra r rc) r ((L.take r).flatMap enL) rfl (hB'.out.ext hX5) hone2'.out (by omega) (by omega) hX5.size ?_; intro v' w6 hown2 hb6; have hX6 : Ext wc w6 := Below.trans hX5 hb6; rw [hsum'.out] at hown2; obtain ⟨na, nc, rfl, _⟩ := own_slice hown2) | (go_at_call 17; refine (hputl'.out w6 na nc (RowIs.of_own hown2)).mono ?_; rintro e w7 ⟨rfl, hT7⟩; have hX7 : Ext wc w7 := hX6.trans hT7.1) | fail)
                all_goals (go_wp2_with fail; go_meet; exact ⟨_, _, rfl, hT7, hX7⟩)
              case rest =>
              obtain ⟨t2, w0', rfl, hT7, hX⟩ := hcut
              have hT8 := Lib.hid (hT'.out.ext hX)
              have hR8 := Lib.hid (hR'.out.ext hX)
              clear hcut1 hcut2 hA' hB' hT' hR'
              go_wp2_with fail
              refine (tx_all hT7 (by omega) hLfh.out).mono ?_
              rintro e w8 ⟨sa, sc, rfl, hR9, hE8⟩
              have hsame := same_any w8 L L sa ra sc rc hR9 (hR8.out.ext hE8)
              rw [decide_eq_true rfl] at hsame
              have hT9 := hT8.out.ext hE8
              replace hT7 := hT7.ext hE8
              replace hE8 := hX.trans hE8
              clear hR9 hR8 hT8 hX
              go_wp2_with fail
              refine hsame.mono ?_
              clear hsame
              rintro e w9 ⟨rfl, hE9⟩
              replace hT9 := hT9.ext hE9
              replace hT7 := hT7.ext hE9
              replace hE9 := hE8.trans hE9
              clear hE8
              go_wp2_with fail
              refine (tx_bytes hT9).mono ?_
              rintro e w10 ⟨rfl, rfl⟩
              go_wp2_with fail
              refine (tx_bytes hT7).mono ?_
              rintro e w10 ⟨rfl, rfl⟩
              go_wp2_with fail
              go_ret
              exact ⟨rfl, hE0.trans hE9⟩
  · have hm' := Lib.hid hm
    clear hm
    go_wp2_with fail
    refine (alive_any w2).mono ?_
    rintro e w3 ⟨rfl, hE3⟩
    go_wp2_with fail
    go_ret
    exact ⟨rfl, hE2.trans hE3⟩
end Go.Proofs.Ythhmehkclgmppaa
