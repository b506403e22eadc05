/- MergesAll: the walk. No condition. -/
import Derived.Test.YtlgnpfchblgpoaaLw2
import Derived.Deep.CutRange
import Derived.Deep.RegionLaw
namespace Go.Proofs.Ytlgnpfchblgpoaa
open Go.RowKit
set_option maxRecDepth 100000
set_option maxHeartbeats 4000000
theorem mergesAll_walk (w : World) (v0 : Value) (o0 : ∃ n, OKC Try.prog w n 22 [v0]) (v1 : Value) (o1 : ∃ n, OKC Try.prog w n 23 [v1]) (f0 : Int) (o2 : ∃ n, OKC Try.prog w n 5 [.int .u8 f0]) :
    Calls Try.prog 3 #[v0, v1, .int .u8 f0] w fun e w' => e = .returned (.bool true) ∧ Ext w w' := by
  obtain ⟨l, a, cap, rfl, hg, h1, hby⟩ := okc_entries o0
  obtain ⟨ts, ta, tc, rfl, htb, hT⟩ := okc_u8row Try.underlying23 Try.underlying5 (by kernel_rfl) o1
  obtain ⟨fr, rfl, hfr⟩ := okc_nat Try.underlying5 (fun _ h => wf_u8 h) o2
  have hS : SlIs w (.slice a l.length cap) l := ⟨a, cap, rfl, h1⟩
  obtain ⟨n, hn⟩ : ∃ n, n = l.length := ⟨_, rfl⟩
  obtain ⟨tn, htn⟩ : ∃ n, n = ts.length := ⟨_, rfl⟩
  rw [← hn] at hS hby ⊢
  rw [← htn] at hT ⊢
  have hn' := Lib.hid hn
  have htn' := Lib.hid htn
  have hT' := Lib.hid hT
  have hS' := Lib.hid hS
  have hg' := Lib.hid hg
  have htb' := Lib.hid htb
  have hby' := Lib.hid (show l.length * 48 ≤ 140737488351232 by omega)
  have hmk : ∀ w, (Instr.makeSlice 26 (.int .i64 4) (.int .i64 4)).run Try.prog w = .ok (.slice (some ⟨w.heap.size, 0, none⟩) 4 4) (w.alloc (.cells #[.slice none 0 0, .slice none 0 0, .slice none 0 0, .slice none 0 0] 22)) := fun _ => by kernel_rfl
  clear o0 o1 o2 hg h1 hby hn htn hT hS htb
  go_enter Try.func3, Try.ntmps3
  go_wp2_with fail
  refine (alive_any w).mono ?_
  rintro e w1 ⟨rfl, hE1⟩
  go_wp2_with fail
  refine (many_ok w1 l _ (hS'.out.ext hE1) hg'.out hby'.out).mono ?_
  rintro e w2 ⟨rfl, hE2⟩
  replace hE2 := hE1.trans hE2
  clear hE1
  cases hm : manyB l with
  | true =>
    clear hm
    go_wp2_with fail
    refine (alive_any w2).mono ?_
    rintro e w3 ⟨rfl, hE3⟩
    go_wp2_with fail
    go_ret
    exact ⟨rfl, hE2.trans hE3⟩
  | false =>
    have hml := many_len hm
    have hl1' := Lib.hid (show l.length ≤ 1000 by omega)
    have hn150 : n ≤ 150 := by rw [hn'.out]; exact hml
    clear hm hml
    by_cases hk : tn = n
    · subst hk
      go_wp2_with fail
      refine (lris_ok w2 l _ (hS'.out.ext hE2)).mono ?_
      rintro e w3 ⟨rfl, hE3⟩
      replace hE3 := hE2.trans hE3
      clear hE2
      cases hr : risesB l with
      | false =>
        clear hr
        go_wp2_with fail
        refine (alive_any w3).mono ?_
        rintro e w4 ⟨rfl, hE4⟩
        go_wp2_with fail
        go_ret
        exact ⟨rfl, hE3.trans hE4⟩
      | true =>
        have hr' := Lib.hid hr
        have hR := Lib.hid ((risesB_iff l).1 hr)
        clear hr
        go_wp2_with fail
        obtain ⟨W, hW⟩ : ∃ W, W = w3.alloc (.cells #[.slice none 0 0, .slice none 0 0, .slice none 0 0, .slice none 0 0] 22) := ⟨_, rfl⟩
        obtain ⟨b, hb⟩ : ∃ b, b = w3.heap.size := ⟨_, rfl⟩
        have hD0 : DL w3 W b 4 [.slice none 0 0, .slice none 0 0, .slice none 0 0, .slice none 0 0] [[], [], [], []] := by rw [hW, hb]; exact DL.start w3 4
        rw [← hb]
        first | rw [← hW] | skip
        have hb' := Lib.hid hb
        clear hW hb
        go_wp2_with fail
        go_loopw [8, 9] (fun i _ wr => ∃ (j : Nat) (vs : List Value) (ls : List (List En)), i = .int .i64 j ∧ j ≤ tn ∧ Hid (DL w3 wr b 4 vs ls) ∧ Hid (Dealt (l.take j) ls)) (fun i _ _ => tn - (intOf i).toNat)
        case atStart => exact ⟨0, _, _, rfl, by omega, Lib.hid hD0, Lib.hid (Dealt.start 4)⟩
        case round =>
          clear hD0
          obtain ⟨j, vs, ls, rfl, hj, hD, hdl⟩ := hrel
          by_cases hjn : j < tn
          · have hji : (j : Int) < (tn : Int) := by omega
            obtain ⟨x, hx⟩ : ∃ x, l[j]? = some x := ⟨_, List.getElem?_eq_getElem (by rw [← hn'.out]; exact hjn)⟩
            obtain ⟨t, ht⟩ : ∃ t, ts[j]? = some t := ⟨_, List.getElem?_eq_getElem (by rw [← htn'.out]; exact hjn)⟩
            obtain ⟨k, hk⟩ : ∃ k, k = (t + fr) % 4 := ⟨_, rfl⟩
            have hk3 : k < 4 := by rw [hk]; exact Nat.mod_lt _ (by decide)
            obtain ⟨v, hv⟩ : ∃ v, vs[k]? = some v := ⟨_, List.getElem?_eq_getElem (by rw [hD.out.nv]; exact hk3)⟩
            obtain ⟨m, hm⟩ : ∃ m, ls[k]? = some m := ⟨_, List.getElem?_eq_getElem (by rw [hD.out.nl]; exact hk3)⟩
            obtain ⟨lb, lo, e2, hcap, hrd⟩ := hD.out.read hE3 hS'.out hn'.out hx
            subst e2
            obtain ⟨tb, tof, e3, hrt⟩ := hD.out.read8 hE3 hT'.out htn'.out ht
            subst e3
            obtain ⟨M, hM⟩ : ∃ M, M = m.length := ⟨_, rfl⟩
            have hM' := Lib.hid hM
            have hMb : M ≤ 150 := by
              have h1 := (hdl.out.sub m (List.mem_of_getElem? hm)).length_le
              rw [List.length_take] at h1
              omega
            have hDd := hD.out.past (Ext.refl wr).drew
            have hown : Hid (OwnC wr.drew (b + 1) 31 4 v M (m.flatMap enL)) := Lib.hid (by rw [hM]; exact hDd.own k v m hv hm)
            have happ := Lib.hid (hD.out.app (x := x) hv hm hM)
            have hdl2 : Hid (Dealt (l.take (j + 1)) (ls.set k (m ++ [x]))) := Lib.hid (by rw [List.take_add_one, hx]; exact hdl.out.step x hm)
            have hbw : b + 1 ≤ wr.drew.heap.size := (Array.getElem?_eq_some_iff.1 hD.out.row).1
            have hbr : Hid (∀ w', Ext wr w' → Below b wr w') := Lib.hid (fun w' h => h.mono (by show b ≤ wr.heap.size; exact Nat.le_of_lt hbw))
            have hrdt : Hid (∀ w', Below b wr w' → w'.cell? ⟨lb, lo + j * 4, none⟩ = some (.string x.mark.key) ∧ w'.cell? ⟨lb, lo + j * 4 + 1, none⟩ = some (.int .u64 (x.mark.seq : Int)) ∧ w'.cell? ⟨lb, lo + j * 4 + 2, none⟩ = some (.bool x.mark.gone) ∧ w'.cell? ⟨lb, lo + j * 4 + 3, none⟩ = some (.string x.val) ∧ w'.cell? ⟨tb, tof + j, none⟩ = some (.int .u8 (t : Int))) := Lib.hid (fun w' h => ⟨(hrd w' h).1, (hrd w' h).2.1, (hrd w' h).2.2.1, (hrd w' h).2.2.2, hrt w' h⟩)
            have hvA : wr.drew.cell? ⟨b, k, none⟩ = some v := (hDd.cell hv).1
            have hvB : (wr.drew.alloc (.cells #[.string x.mark.key, .int .u64 (x.mark.seq : Int), .bool x.mark.gone, .string x.val] 31)).cell? ⟨b, k, none⟩ = some v := (((Ext.refl wr.drew).alloc _).cell hvA)
            have hvC : (wr.alloc (.cells #[.string x.mark.key, .int .u64 (x.mark.seq : Int), .bool x.mark.gone, .string x.val] 31)).drew.cell? ⟨b, k, none⟩ = some v := hvB
            have em1 : (k : Int) < 4 := by omega
            have em0 : 0 ≤ (k : Int) := by omega
            have ht256 : t < 256 := htb'.out t (List.mem_of_getElem? ht)
            obtain ⟨pf0, pf1, pf2, pf3, pf4⟩ := hrdt.out _ (hbr.out _ (Ext.refl _))
            have hkk : Hid (k = (t + fr) % 4) := Lib.hid hk
            have hk' := Lib.hid hk
            have hD' := hD
            clear hrd hrt hM hDd hx ht hv hm hk hD hk'
            go_upto_region 7 with fail
            go_cut [9] from 37 to 64 (fun z wx => z = .int .i64 k ∧ wx = wr)
            case first =>
              clear hvA hvB hvC em0 em1 hk3
              have em3 : ((t : Int) + (fr : Int)) % 4 = (k : Int) := by have := hkk.out; omega
              have em2 : ((t : Int) + (fr : Int)).tmod 4 = (k : Int) := by rw [Int.tmod_eq_emod_of_nonneg (by omega)]; exact em3
              have em5 : IntKind.i64.wrap ((t : Int) + (fr : Int)) = (t : Int) + (fr : Int) := by rw [IntKind.wrap_i64]; omega
              have em4 : IntKind.i64.wrap (k : Int) = (k : Int) := by rw [IntKind.wrap_i64]; have := hkk.out; omega
              have em6 : IntKind.i64.wrap (t : Int) = (t : Int) := by rw [IntKind.wrap_i64]; omega
              have em7 : IntKind.i64.wrap (fr : Int) = (fr : Int) := by rw [IntKind.wrap_i64]; omega
              go_wp2_with fail
              go_meet
              exact ⟨rfl, rfl⟩
            case rest =>
            obtain ⟨rfl, rfl⟩ := hcut
            clear pf0 pf1 pf2 pf3 pf4
            go_upto_region 8 with fail
            obtain ⟨pa0, pa1, pa2, pa3, pa4⟩ := hrdt.out _ (hbr.out _ (Ext.refl _).drew)
            obtain ⟨pb0, pb1, pb2, pb3, pb4⟩ := hrdt.out _ (hbr.out _ ((Ext.refl _).drew.alloc (.cells #[.string x.mark.key, .int .u64 (x.mark.seq : Int), .bool x.mark.gone, .string x.val] 31)))
            obtain ⟨pc0, pc1, pc2, pc3, pc4⟩ := hrdt.out _ (hbr.out _ ((Ext.refl _).alloc (.cells #[.string x.mark.key, .int .u64 (x.mark.seq : Int), .bool x.mark.gone, .string x.val] 31)).drew)
            go_region_law (first | ((refine step_append_c rfl (.tmp 57) (.tmp 62) 22 31 rfl Try.underlying22 el_entry wc.drew (b + 1) M _ v (by rfl) hown.out (enRow x) (by rfl) (by rfl) (en_all x) (by omega) (by omega) hbw ?_); (intro v' w6 hA; obtain ⟨oa4, oc4, rfl, _⟩ := hA.own.form; obtain ⟨hB6, hB7, hc6, hz6, hD6⟩ := happ.out _ w6 hA; obtain ⟨pd0, pd1, pd2, pd3, pd4⟩ := hrdt.out _ hB6; obtain ⟨pe0, pe1, pe2, pe3, pe4⟩ := hrdt.out _ hB7; clear hA)) | fail)
            all_goals
              clear hvA hvB hvC pa0 pa1 pa2 pa3 pa4 pb0 pb1 pb2 pb3 pb4 pc0 pc1 pc2 pc3 pc4 pd0 pd1 pd2 pd3 pd4 pe0 pe1 pe2 pe3 pe4 hc6 hz6
              go_wp2_with fail
              go_roundw
              case rel => first | exact ⟨j + 1, _, _, by go_num, by omega, hD6, hdl2⟩ | ((repeat apply Exists.intro); exact ⟨⟨j + 1, _, _, by go_num, by omega, hD6, hdl2⟩, rfl⟩)
              case measure => simp [intOf]; omega
          · have hji : ¬ (j : Int) < (tn : Int) := by omega
            have hje : j = tn := by omega
            have hdl3 : Dealt l ls := by have := hdl.out; rwa [hje, hn'.out, List.take_length] at this
            obtain ⟨q0, q1, q2, q3, rfl⟩ : ∃ a b c d, vs = [a, b, c, d] := by
              have := hD.out.nv
              match vs, this with
              | [a, b, c, d], _ => exact ⟨a, b, c, d, rfl⟩
            obtain ⟨L0, L1, L2, L3, rfl⟩ : ∃ a b c d, ls = [a, b, c, d] := by
              have := hD.out.nl
              match ls, this with
              | [a, b, c, d], _ => exact ⟨a, b, c, d, rfl⟩
            have hsub : Hid (∀ q ∈ [L0, L1, L2, L3], Rises q) := Lib.hid (fun q hq => hR.out.sublist (hdl3.sub q hq))
            have hperm : Hid ((L0 ++ (L1 ++ (L2 ++ L3))).Perm l) := Lib.hid (by have := hdl3.perm; simpa using this)
            have hsl : Hid (∀ p ∈ [(q0, L0), (q1, L1), (q2, L2), (q3, L3)], SlIs wr p.1 p.2) := Lib.hid hD.out.lists
            have hrow : Hid (RowIs wr 1 (.slice (some ⟨b, 0, none⟩) 4 4) 4 [q0, q1, q2, q3]) := Lib.hid (hD.out.slice (by decide))
            have hcells : Hid (∀ w', Ext wr w' → ∀ (j : Nat) (u : Value), [q0, q1, q2, q3][j]? = some u → w'.cell? ((⟨b, 0, none⟩ : Addr).add j) = some u) := Lib.hid (fun w' h j u hu => by
              rw [Addr.add_mid, Nat.zero_add]
              exact h.cell (hD.out.cell hu).1)
            have hsubp : Hid (∀ p ∈ [(q0, L0), (q1, L1), (q2, L2), (q3, L3)], Rises p.2) := Lib.hid (fun p hp => hsub.out p.2 (by
              have : p.2 ∈ [(q0, L0), (q1, L1), (q2, L2), (q3, L3)].map (·.2) := List.mem_map_of_mem hp
              exact this))
            have hEr := Lib.hid (hE3.trans hD.out.ext)
            clear hje hdl3 hD hdl
            go_wp2_with fail
            refine (merge_ok wr [(q0, L0), (q1, L1), (q2, L2), (q3, L3)] l 4 tn _ 4 rfl hn'.out hrow.out hsl.out (by show 4 ≤ 1000; decide) hsubp.out hR.out (by show (L0 ++ (L1 ++ (L2 ++ (L3 ++ [])))).Perm l; rw [List.append_nil]; exact hperm.out) (by have := hl1'.out; omega)).mono ?_
            rintro e w5 ⟨aa, ac, rfl, hA, hE5⟩
            have hA' : Hid (SlIs w5 (.slice aa tn ac) l) := Lib.hid ⟨aa, ac, by rw [hn'.out], by rw [← hn'.out]; exact hA.row⟩
            have hE5' := Lib.hid hE5
            clear hA hE5
            go_wp2_with (first | (at_builtin; go_loud (refine wpList_append_full (by rfl) (.tmp 71) (.tmp 72) 26 22 (by rfl) Try.underlying26 el_sl1 w5 ⟨b, 0, none⟩ 4 [q0, q1, q2, q3] (by rfl) (hcells.out w5 hE5'.out) #[.slice none 0 0] (by rfl) (by omega) (by omega) (by rfl) (by rfl) ?_); go_loud (intro c6 w6 hE6 hR6)) | fail)
            have hE6' := Lib.hid (hE5'.out.trans hE6)
            have hA6 := Lib.hid (hA'.out.ext hE6)
            clear hE6 hA'
            refine (merge_ok w6 [(q0, L0), (q1, L1), (q2, L2), (q3, L3), (.slice none 0 0, [])] l 5 tn _ c6 rfl hn'.out hR6 (fun p hp => ?_) (by show 5 ≤ 1000; decide) (fun p hp => ?_) hR.out (by show (L0 ++ (L1 ++ (L2 ++ (L3 ++ ([] ++ []))))).Perm l; rw [List.append_nil, List.append_nil]; exact hperm.out) (by have := hl1'.out; omega)).mono ?_
            · rcases List.mem_append.1 (show p ∈ [(q0, L0), (q1, L1), (q2, L2), (q3, L3)] ++ [(.slice none 0 0, [])] from hp) with hp | hp
              · exact (hsl.out p hp).ext hE6'.out
              · rw [List.mem_singleton.1 hp]; exact ⟨none, 0, rfl, RowIs.nil _ _ _ _ (fun _ => rfl)⟩
            · rcases List.mem_append.1 (show p ∈ [(q0, L0), (q1, L1), (q2, L2), (q3, L3)] ++ [(.slice none 0 0, [])] from hp) with hp | hp
              · exact hsubp.out p hp
              · rw [List.mem_singleton.1 hp]; exact List.Pairwise.nil
            rintro e w7 ⟨ba, bc, rfl, hB, hE7⟩
            have hB' : Hid (SlIs w7 (.slice ba tn bc) l) := Lib.hid ⟨ba, bc, by rw [hn'.out], by rw [← hn'.out]; exact hB.row⟩
            have hA7 := hA6.out.ext hE7
            have hE7' := Lib.hid (hE6'.out.trans hE7)
            clear hB hE7 hA6 hR6
            go_wp2_with fail
            refine (al_same w7 l _ _ hA7 (hS'.out.ext (hEr.out.trans hE7'.out))).mono ?_
            rintro e w8 ⟨rfl, hE8⟩
            have hB8 := hB'.out.ext hE8
            have hE8' := Lib.hid (hE7'.out.trans hE8)
            clear hE8 hA7 hB'
            go_wp2_with fail
            refine (al_same w8 l _ _ hB8 (hS'.out.ext (hEr.out.trans hE8'.out))).mono ?_
            rintro e w9 ⟨rfl, hE9⟩
            have hE9' := Lib.hid (hE8'.out.trans hE9)
            clear hE9 hB8
            by_cases h0 : tn = 0
            · have hEw := hEr.out.trans hE9'.out
              subst h0
              go_wp2_with fail
              go_ret
              exact ⟨rfl, hEw⟩
            · have h0i : ¬ (tn : Int) = 0 := by omega
              obtain ⟨k0, hk0⟩ : ∃ z, z = fr % tn := ⟨_, rfl⟩
              have hk0l : k0 < tn := by rw [hk0]; exact Nat.mod_lt _ (by omega)
              obtain ⟨y, hy⟩ : ∃ y, l[k0]? = some y := ⟨_, List.getElem?_eq_getElem (by rw [← hn'.out]; exact hk0l)⟩
              obtain ⟨a1, c1, e1, hrr⟩ := hS'.out.ext (hEr.out.trans hE9'.out)
              rw [← hn'.out] at hrr
              obtain ⟨lb, lo, hat⟩ := hrr.at
              obtain ⟨e2, _, hd⟩ := hat (by omega)
              subst e2
              have hrg := ens_range (by rw [← hn'.out]; exact hd) hy
              have em0 : 0 ≤ (fr : Int) % (tn : Int) := by omega
              have em3 : (fr : Int) % (tn : Int) = (k0 : Int) := by omega
              have em2 : (fr : Int).tmod (tn : Int) = (k0 : Int) := by rw [Int.tmod_eq_emod_of_nonneg (by omega)]; exact em3
              have em1 : (k0 : Int) < (tn : Int) := by omega
              have em4 : IntKind.i64.wrap (k0 : Int) = (k0 : Int) := by rw [IntKind.wrap_i64]; omega
              have em6 : IntKind.i64.wrap (fr : Int) = (fr : Int) := by rw [IntKind.wrap_i64]; omega
              obtain ⟨W10, hW10⟩ : ∃ W, W = w9.alloc (.cells (enRow y) 31) := ⟨_, rfl⟩
              obtain ⟨z, hz⟩ : ∃ z : En, z = ⟨y.mark, ⟨#[111, 116, 104, 101, 114]⟩⟩ := ⟨_, rfl⟩
              have hg10 : W10.heap[w9.heap.size]? = some (.cells (enRow y) 31 (0, 0)) := by rw [hW10]; exact heap_alloc_new w9 _
              have hE10 : Ext w9 W10 := by rw [hW10]; exact (Ext.refl _).alloc _
              have d3 := (en_cells hg10).2.2.2
              have z3 : W10.frozen? ⟨w9.heap.size, 3, none⟩ = false := by unfold World.frozen?; rw [hg10]; simp
              obtain ⟨W11, hW11⟩ : ∃ W, W = W10.setCell ⟨w9.heap.size, 3, none⟩ (.string ⟨#[111, 116, 104, 101, 114]⟩) := ⟨_, rfl⟩
              have hg11 : W11.heap[w9.heap.size]? = some (.cells (enRow z) 31 (0, 0)) := by
                rw [hW11, setCell_eq_setRow _ _ _ _ _ _ _ hg10, setRow_heap _ _ _ _ _ _ hg10, hz]
                rfl
              have hE11 : Ext w9 W11 := by rw [hW11]; exact Ext.setCell hE10 (p := ⟨w9.heap.size, 3, none⟩) (Nat.le_refl _) _
              have hr11 : W11.rangeAt w9.heap.size 0 (enRow z).toList := fun i v hv => by
                rw [Nat.zero_add, cell_of_row _ _ i _ 31 (0, 0) hg11]
                simpa using hv
              have hW10' := Lib.hid hW10
              have hW11' := Lib.hid hW11
              have hy' := Lib.hid hy
              have hz' := Lib.hid hz
              have hE11' := Lib.hid (hE9'.out.trans hE11)
              clear hat hd hrr e1 hy hz hk0 hW10 hW11 hE10 hE11 hg10 hg11
              go_upto_region 16 with (first | (refine wpList_load_mid (by rfl) 31 (.tmp 104) (by rfl) lb (lo + k0 * 4) (by rfl) (enRow y).toList _ hrg Try.underlying31 rfl (by exact info_entry) ?_) | (refine wpList_store_whole (by rfl) 31 (.tmp 14) (.tmp 105) (by rfl) w9 _ (enRow y) w9.heap.size (by rfl) rfl (by rfl) (by exact info_entry) (by rfl) (en_one y) ?_; rw [← hW10'.out]) | fail)
              go_upto_region 17 with fail
              rw [← hW11'.out]
              clear hrg d3 z3 em0 em1 em2 em3 em4 em6
              have hsz12 : Hid ((W11.alloc (.cells (enRow z) 31)).heap.size = W11.heap.size + 1) := Lib.hid (by simp)
              have hcz := Lib.hid (hcells.out (W11.alloc (.cells (enRow z) 31)) (hE11'.out.alloc _))
              go_wp2_with (first | (refine wpList_load_mid (by rfl) 31 (.tmp 14) (by rfl) w9.heap.size 0 (by rfl) (enRow z).toList _ hr11 Try.underlying31 rfl (by exact info_entry) ?_) | (refine wpList_bs_entry (by rfl) (.tmp 109) (by rfl) z (by rfl) ?_) | (at_builtin; go_loud (refine wpList_append_full (by rfl) (.tmp 108) (.tmp 111) 26 22 (by rfl) Try.underlying26 el_sl1 (W11.alloc (.cells (enRow z) 31)) ⟨b, 0, none⟩ 4 [q0, q1, q2, q3] (by rfl) hcz.out #[.slice (some ⟨W11.heap.size, 0, none⟩) 1 1] (by rfl) (by omega) (by omega) (by rfl) (by rw [hsz12.out]; rfl) ?_); go_loud (intro c12 w12 hE12 hR12)) | fail)
              rw [hsz12.out] at hR12
              have hb12 : w12.heap[W11.heap.size]? = some (.cells (enRow z) 31 (0, 0)) := hE12.row (heap_alloc_new W11 _)
              have hEl : Ext wr w12 := (hE11'.out.alloc _).trans hE12
              refine (merge_no w12 [(q0, L0), (q1, L1), (q2, L2), (q3, L3), (.slice (some ⟨W11.heap.size, 0, none⟩) 1 1, [z])] 5 _ c12 rfl hR12 (fun p hp => ?_) (by show 5 ≤ 1000; decide) (fun p hp => ?_) ?_ ?_).mono ?_
              · rcases List.mem_append.1 (show p ∈ [(q0, L0), (q1, L1), (q2, L2), (q3, L3)] ++ [(.slice (some ⟨W11.heap.size, 0, none⟩) 1 1, [z])] from hp) with hp | hp
                · exact (hsl.out p hp).ext hEl
                · rw [List.mem_singleton.1 hp]
                  exact sl_row [z] 1 (enRow z) hb12 (by simp [enRow, enL]) rfl (by decide) (by show 1 ≤ 1000; decide)
              · rcases List.mem_append.1 (show p ∈ [(q0, L0), (q1, L1), (q2, L2), (q3, L3)] ++ [(.slice (some ⟨W11.heap.size, 0, none⟩) 1 1, [z])] from hp) with hp | hp
                · exact hsubp.out p hp
                · rw [List.mem_singleton.1 hp]; exact List.pairwise_singleton _ _
              · show ¬ ((L0 ++ (L1 ++ (L2 ++ (L3 ++ ([z] ++ []))))).map En.mark).Nodup
                rw [List.append_nil, show L0 ++ (L1 ++ (L2 ++ (L3 ++ [z]))) = (L0 ++ (L1 ++ (L2 ++ L3))) ++ [z] by simp only [List.append_assoc]]
                intro hnd
                have h2 := (((List.Perm.append_right [z] hperm.out).map En.mark).nodup_iff).1 hnd
                rw [List.map_append, List.nodup_append] at h2
                exact h2.2.2 y.mark (List.mem_map_of_mem (List.mem_of_getElem? hy'.out)) z.mark (by simp) (by rw [hz'.out])
              · show (L0 ++ (L1 ++ (L2 ++ (L3 ++ ([z] ++ []))))).length ≤ 1000000
                have h1 := hperm.out.length_eq
                have h2 := hl1'.out
                simp only [List.length_append, List.length_cons, List.length_nil] at h1 ⊢
                omega
              rintro e w13 ⟨rfl, hE13⟩
              have hEw := hEr.out.trans (hEl.trans hE13)
              go_wp2_with fail
              go_ret
              exact ⟨rfl, hEw⟩
    · have hki : ¬ (tn : Int) = (n : Int) := by omega
      go_wp2_with fail
      refine (alive_any w2).mono ?_
      rintro e w3 ⟨rfl, hE3⟩
      go_wp2_with fail
      go_ret
      exact ⟨rfl, hE2.trans hE3⟩
end Go.Proofs.Ytlgnpfchblgpoaa
