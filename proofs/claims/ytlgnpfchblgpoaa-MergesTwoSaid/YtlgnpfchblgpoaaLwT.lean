/- MergesTwo: the walk. No condition. -/
import Derived.Test.YtlgnpfchblgpoaaLw2
import Derived.Deep.CutRange
import Derived.Deep.RegionLaw
namespace Go.Proofs.Ytlgnpfchblgpoaa
open Go.RowKit
set_option maxRecDepth 100000
set_option maxHeartbeats 4000000
theorem mergesTwo_walk (w : World) (v0 : Value) (o0 : ∃ n, OKC Try.prog w n 22 [v0]) (v1 : Value) (o1 : ∃ n, OKC Try.prog w n 23 [v1]) :
    Calls Try.prog 9 #[v0, v1] w fun e w' => e = .returned (.bool true) ∧ Ext w w' := by
  obtain ⟨l, a, cap, rfl, hg, h1, hby⟩ := okc_entries o0
  obtain ⟨ts, ta, tc, rfl, htb, hT⟩ := okc_u8row Try.underlying23 Try.underlying5 (by kernel_rfl) o1
  have hS : SlIs w (.slice a l.length cap) l := ⟨a, cap, rfl, h1⟩
  obtain ⟨n, hn⟩ : ∃ n, n = l.length := ⟨_, rfl⟩
  obtain ⟨tn, htn⟩ : ∃ n, n = ts.length := ⟨_, rfl⟩
  rw [← hn] at hS hby ⊢
  rw [← htn] at hT ⊢
  have hn' := Lib.hid hn
  have htn' := Lib.hid htn
  have hT' := Lib.hid hT
  have hS' := Lib.hid hS
  have hg' := Lib.hid hg
  have htb' := Lib.hid htb
  have hby' := Lib.hid (show l.length * 48 ≤ 140737488351232 by omega)
  have hmk : ∀ w, (Instr.makeSlice 26 (.int .i64 3) (.int .i64 3)).run Try.prog w = .ok (.slice (some ⟨w.heap.size, 0, none⟩) 3 3) (w.alloc (.cells #[.slice none 0 0, .slice none 0 0, .slice none 0 0] 22)) := fun _ => by kernel_rfl
  clear o0 o1 hg h1 hby hn htn hT hS htb
  go_enter Try.func9, Try.ntmps9
  go_wp2_with fail
  refine (alive_any w).mono ?_
  rintro e w1 ⟨rfl, hE1⟩
  go_wp2_with fail
  refine (many_ok w1 l _ (hS'.out.ext hE1) hg'.out hby'.out).mono ?_
  rintro e w2 ⟨rfl, hE2⟩
  replace hE2 := hE1.trans hE2
  clear hE1
  cases hm : manyB l with
  | true =>
    clear hm
    go_wp2_with fail
    refine (alive_any w2).mono ?_
    rintro e w3 ⟨rfl, hE3⟩
    go_wp2_with fail
    go_ret
    exact ⟨rfl, hE2.trans hE3⟩
  | false =>
    have hml := many_len hm
    have hl1' := Lib.hid (show l.length ≤ 1000 by omega)
    have hn150 : n ≤ 150 := by rw [hn'.out]; exact hml
    clear hm hml
    by_cases hk : tn = n
    · subst hk
      go_wp2_with fail
      refine (lris_ok w2 l _ (hS'.out.ext hE2)).mono ?_
      rintro e w3 ⟨rfl, hE3⟩
      replace hE3 := hE2.trans hE3
      clear hE2
      cases hr : risesB l with
      | false =>
        clear hr
        go_wp2_with fail
        refine (alive_any w3).mono ?_
        rintro e w4 ⟨rfl, hE4⟩
        go_wp2_with fail
        go_ret
        exact ⟨rfl, hE3.trans hE4⟩
      | true =>
        have hr' := Lib.hid hr
        have hR := Lib.hid ((risesB_iff l).1 hr)
        clear hr
        go_wp2_with fail
        obtain ⟨W, hW⟩ : ∃ W, W = w3.alloc (.cells #[.slice none 0 0, .slice none 0 0, .slice none 0 0] 22) := ⟨_, rfl⟩
        obtain ⟨b, hb⟩ : ∃ b, b = w3.heap.size := ⟨_, rfl⟩
        have hD0 : DL w3 W b 3 [.slice none 0 0, .slice none 0 0, .slice none 0 0] [[], [], []] := by rw [hW, hb]; exact DL.start w3 3
        rw [← hb]
        first | rw [← hW] | skip
        have hb' := Lib.hid hb
        clear hW hb
        go_wp2_with fail
        go_loopw [6] (fun i wr => ∃ (j : Nat) (vs : List Value) (ls : List (List En)), i = .int .i64 j ∧ j ≤ tn ∧ Hid (DL w3 wr b 3 vs ls) ∧ Hid (Dealt (l.take j) ls)) (fun i _ => tn - (intOf i).toNat)
        case atStart => exact ⟨0, _, _, rfl, by omega, Lib.hid hD0, Lib.hid (Dealt.start 3)⟩
        case round =>
          clear hD0
          obtain ⟨j, vs, ls, rfl, hj, hD, hdl⟩ := hrel
          by_cases hjn : j < tn
          · have hji : (j : Int) < (tn : Int) := by omega
            obtain ⟨x, hx⟩ : ∃ x, l[j]? = some x := ⟨_, List.getElem?_eq_getElem (by rw [← hn'.out]; exact hjn)⟩
            obtain ⟨t, ht⟩ : ∃ t, ts[j]? = some t := ⟨_, List.getElem?_eq_getElem (by rw [← htn'.out]; exact hjn)⟩
            obtain ⟨k, hk⟩ : ∃ k, k = t % 3 := ⟨_, rfl⟩
            have hk3 : k < 3 := by rw [hk]; exact Nat.mod_lt _ (by decide)
            obtain ⟨v, hv⟩ : ∃ v, vs[k]? = some v := ⟨_, List.getElem?_eq_getElem (by rw [hD.out.nv]; exact hk3)⟩
            obtain ⟨m, hm⟩ : ∃ m, ls[k]? = some m := ⟨_, List.getElem?_eq_getElem (by rw [hD.out.nl]; exact hk3)⟩
            obtain ⟨lb, lo, e2, hcap, hrd⟩ := hD.out.read hE3 hS'.out hn'.out hx
            subst e2
            obtain ⟨tb, tof, e3, hrt⟩ := hD.out.read8 hE3 hT'.out htn'.out ht
            subst e3
            obtain ⟨M, hM⟩ : ∃ M, M = m.length := ⟨_, rfl⟩
            have hM' := Lib.hid hM
            have hMb : M ≤ 150 := by
              have h1 := (hdl.out.sub m (List.mem_of_getElem? hm)).length_le
              rw [List.length_take] at h1
              omega
            have hDd := hD.out.past (Ext.refl wr).drew
            have hown : Hid (OwnC wr.drew (b + 1) 31 4 v M (m.flatMap enL)) := Lib.hid (by rw [hM]; exact hDd.own k v m hv hm)
            have happ := Lib.hid (hD.out.app (x := x) hv hm hM)
            have hdl2 : Hid (Dealt (l.take (j + 1)) (ls.set k (m ++ [x]))) := Lib.hid (by rw [List.take_add_one, hx]; exact hdl.out.step x hm)
            have hbw : b + 1 ≤ wr.drew.heap.size := (Array.getElem?_eq_some_iff.1 hD.out.row).1
            have hbr : Hid (∀ w', Ext wr w' → Below b wr w') := Lib.hid (fun w' h => h.mono (by show b ≤ wr.heap.size; exact Nat.le_of_lt hbw))
            have hrdt : Hid (∀ w', Below b wr w' → w'.cell? ⟨lb, lo + j * 4, none⟩ = some (.string x.mark.key) ∧ w'.cell? ⟨lb, lo + j * 4 + 1, none⟩ = some (.int .u64 (x.mark.seq : Int)) ∧ w'.cell? ⟨lb, lo + j * 4 + 2, none⟩ = some (.bool x.mark.gone) ∧ w'.cell? ⟨lb, lo + j * 4 + 3, none⟩ = some (.string x.val) ∧ w'.cell? ⟨tb, tof + j, none⟩ = some (.int .u8 (t : Int))) := Lib.hid (fun w' h => ⟨(hrd w' h).1, (hrd w' h).2.1, (hrd w' h).2.2.1, (hrd w' h).2.2.2, hrt w' h⟩)
            have hvA : wr.drew.cell? ⟨b, k, none⟩ = some v := (hDd.cell hv).1
            have hvB : (wr.drew.alloc (.cells #[.string x.mark.key, .int .u64 (x.mark.seq : Int), .bool x.mark.gone, .string x.val] 31)).cell? ⟨b, k, none⟩ = some v := (((Ext.refl wr.drew).alloc _).cell hvA)
            have hvC : (wr.alloc (.cells #[.string x.mark.key, .int .u64 (x.mark.seq : Int), .bool x.mark.gone, .string x.val] 31)).drew.cell? ⟨b, k, none⟩ = some v := hvB
            have em1 : (k : Int) < 3 := by omega
            have em2 : (t : Int).tmod 3 = (k : Int) := by rw [Int.tmod_eq_emod_of_nonneg (by omega)]; omega
            have em3 : (t : Int) % 3 = (k : Int) := by omega
            have em4 : IntKind.u8.wrap (k : Int) = (k : Int) := by rw [IntKind.wrap_u8]; omega
            have hk' := Lib.hid hk
            have hD' := hD
            clear hrd hrt hM hDd hx ht hv hm hk hD
            go_upto_region 7 with fail
            obtain ⟨pa0, pa1, pa2, pa3, pa4⟩ := hrdt.out _ (hbr.out _ (Ext.refl _).drew)
            obtain ⟨pb0, pb1, pb2, pb3, pb4⟩ := hrdt.out _ (hbr.out _ ((Ext.refl _).drew.alloc (.cells #[.string x.mark.key, .int .u64 (x.mark.seq : Int), .bool x.mark.gone, .string x.val] 31)))
            obtain ⟨pc0, pc1, pc2, pc3, pc4⟩ := hrdt.out _ (hbr.out _ ((Ext.refl _).alloc (.cells #[.string x.mark.key, .int .u64 (x.mark.seq : Int), .bool x.mark.gone, .string x.val] 31)).drew)
            go_region_law (first | ((refine step_append_c rfl (.tmp 54) (.tmp 59) 22 31 rfl Try.underlying22 el_entry wr.drew (b + 1) M _ v (by rfl) hown.out (enRow x) (by rfl) (by rfl) (en_all x) (by omega) (by omega) hbw ?_); (intro v' w6 hA; obtain ⟨oa4, oc4, rfl, _⟩ := hA.own.form; obtain ⟨hB6, hB7, hc6, hz6, hD6⟩ := happ.out _ w6 hA; obtain ⟨pd0, pd1, pd2, pd3, pd4⟩ := hrdt.out _ hB6; obtain ⟨pe0, pe1, pe2, pe3, pe4⟩ := hrdt.out _ hB7; clear hA)) | fail)
            all_goals
              clear hvA hvB hvC pa0 pa1 pa2 pa3 pa4 pb0 pb1 pb2 pb3 pb4 pc0 pc1 pc2 pc3 pc4 pd0 pd1 pd2 pd3 pd4 pe0 pe1 pe2 pe3 pe4 em2 em3 em4 hc6 hz6
              go_wp2_with fail
              go_roundw
              case rel => exact ⟨j + 1, _, _, by go_num, by omega, hD6, hdl2⟩
              case measure => simp [intOf]; omega
          · have hji : ¬ (j : Int) < (tn : Int) := by omega
            have hje : j = tn := by omega
            have hdl3 : Dealt l ls := by have := hdl.out; rwa [hje, hn'.out, List.take_length] at this
            obtain ⟨q0, q1, q2, rfl⟩ : ∃ a b c, vs = [a, b, c] := by
              have := hD.out.nv
              match vs, this with
              | [a, b, c], _ => exact ⟨a, b, c, rfl⟩
            obtain ⟨L0, L1, L2, rfl⟩ : ∃ a b c, ls = [a, b, c] := by
              have := hD.out.nl
              match ls, this with
              | [a, b, c], _ => exact ⟨a, b, c, rfl⟩
            have hsub : Hid (∀ q ∈ [L0, L1, L2], Rises q) := Lib.hid (fun q hq => hR.out.sublist (hdl3.sub q hq))
            have hperm : Hid ((L0 ++ (L1 ++ L2)).Perm l) := Lib.hid (by have := hdl3.perm; simpa using this)
            obtain ⟨L, hL⟩ : ∃ z, z = l.filter fun e => decide (e ∈ L0 ++ L1) := ⟨_, rfl⟩
            have hnd : Hid ((L0 ++ L1).Nodup) := Lib.hid (by
              have h1 : (L0 ++ (L1 ++ L2)).Nodup := hperm.out.nodup_iff.2 hR.out.nodup
              rw [← List.append_assoc] at h1
              exact h1.sublist (List.sublist_append_left _ _))
            have hLp : Hid ((L0 ++ L1).Perm L) := Lib.hid (by
              rw [hL]
              refine (List.perm_ext_iff_of_nodup hnd.out (hR.out.nodup.sublist List.filter_sublist)).2 fun e => ?_
              rw [List.mem_filter]
              constructor
              · intro he
                refine ⟨hperm.out.mem_iff.1 ?_, decide_eq_true he⟩
                rw [← List.append_assoc]
                exact List.mem_append_left _ he
              · exact fun h => of_decide_eq_true h.2)
            have hLr : Hid (Rises L) := Lib.hid (by rw [hL]; exact hR.out.sublist List.filter_sublist)
            have hLl : Hid (L.length ≤ 1000) := Lib.hid (by rw [hL]; have := List.length_filter_le (fun e => decide (e ∈ L0 ++ L1)) l; have := hl1'.out; omega)
            obtain ⟨Ln, hLn⟩ : ∃ z, z = L.length := ⟨_, rfl⟩
            have hLn' := Lib.hid hLn
            have hsl : Hid (∀ p ∈ [(q0, L0), (q1, L1), (q2, L2)], SlIs wr p.1 p.2) := Lib.hid hD.out.lists
            have hrow : Hid (RowIs wr 1 (.slice (some ⟨b, 0, none⟩) 3 3) 3 [q0, q1, q2]) := Lib.hid (hD.out.slice (by decide))
            have hEr := hE3.trans hD.out.ext
            obtain ⟨x1, y1, e1, _⟩ : SlIs wr q1 L1 := hsl.out (q1, L1) (by simp)
            obtain ⟨x2, y2, e2, _⟩ : SlIs wr q2 L2 := hsl.out (q2, L2) (by simp)
            obtain ⟨n1, hn1⟩ : ∃ z, z = L1.length := ⟨_, rfl⟩
            obtain ⟨n2, hn2⟩ : ∃ z, z = L2.length := ⟨_, rfl⟩
            rw [← hn1] at e1
            rw [← hn2] at e2
            subst e1 e2
            have hn1' := Lib.hid hn1
            clear hn1 hn2
            have c1 := (hD.out.cell (k := 1) rfl).1
            have c2 := (hD.out.cell (k := 2) rfl).1
            clear hje hdl3 hL hLn hD hdl
            go_wp2_with fail
            have hr2 : RowIs wr 1 (.slice (some ⟨b, 0, none⟩) 2 3) 2 [q0, .slice x1 n1 y1] := by have := hrow.out.take (k := 2) (by decide); simpa using this
            refine (merge_ok wr [(q0, L0), (.slice x1 n1 y1, L1)] L 2 Ln _ 3 rfl hLn'.out hr2 (fun p hp => hsl.out p (by rcases List.mem_cons.1 hp with rfl | hp; exact List.mem_cons_self ..; rw [List.mem_singleton.1 hp]; simp)) (by show 2 ≤ 1000; decide) (fun p hp => hsub.out p.2 (by rcases List.mem_cons.1 hp with rfl | hp; exact List.mem_cons_self ..; rw [List.mem_singleton.1 hp]; simp)) hLr.out (by show (L0 ++ (L1 ++ [])).Perm L; rw [List.append_nil]; exact hLp.out) (by have := hLl.out; omega)).mono ?_
            rintro e w5 ⟨aa, ac, rfl, hA, hE5⟩
            have hA' : Hid (SlIs w5 (.slice aa Ln ac) L) := Lib.hid ⟨aa, ac, by rw [hLn'.out], by rw [← hLn'.out]; exact hA.row⟩
            have c1 := hE5.cell c1
            have c2 := hE5.cell c2
            have hsl5 : Hid (∀ p ∈ [(q0, L0), (.slice x1 n1 y1, L1), (.slice x2 n2 y2, L2)], SlIs w5 p.1 p.2) := Lib.hid (fun p hp => (hsl.out p hp).ext hE5)
            have hrow5 := Lib.hid (hrow.out.ext hE5)
            replace hE5 := hEr.trans hE5
            clear hr2 hA hsl hrow hEr
            go_wp2_with fail
            obtain ⟨W6, hW6⟩ : ∃ W, W = w5.alloc (.cells #[.slice aa Ln ac, .slice x2 n2 y2] 22) := ⟨_, rfl⟩
            have hE6 : Ext w5 W6 := by rw [hW6]; exact (Ext.refl _).alloc _
            have hr6 : W6.heap[w5.heap.size]? = some (.cells #[.slice aa Ln ac, .slice x2 n2 y2] 22 (0, 0)) := by rw [hW6]; exact heap_alloc_new w5 _
            rw [← hW6]
            clear hW6
            refine (merge_ok W6 [(.slice aa Ln ac, L), (.slice x2 n2 y2, L2)] l 2 tn _ 2 rfl hn'.out (two_row _ _ hr6) (fun p hp => ?_) (by show 2 ≤ 1000; decide) (fun p hp => ?_) hR.out ?_ (by have := hl1'.out; omega)).mono ?_
            · rcases List.mem_cons.1 hp with rfl | hp
              · exact hA'.out.ext hE6
              · rw [List.mem_singleton.1 hp]; exact (hsl5.out (.slice x2 n2 y2, L2) (by simp)).ext hE6
            · rcases List.mem_cons.1 hp with rfl | hp
              · exact hLr.out
              · rw [List.mem_singleton.1 hp]; exact hsub.out L2 (by simp)
            · show (L ++ (L2 ++ [])).Perm l
              rw [List.append_nil]
              refine (List.Perm.append_right _ hLp.out.symm).trans ?_
              rw [List.append_assoc]
              exact hperm.out
            rintro e w7 ⟨ba, bc, rfl, hB, hE7⟩
            have hE57 := hE6.trans hE7
            have hB' : Hid (SlIs w7 (.slice ba tn bc) l) := Lib.hid ⟨ba, bc, by rw [hn'.out], by rw [← hn'.out]; exact hB.row⟩
            have c1 := hE57.cell c1
            have hsl7 : Hid (∀ p ∈ [(q0, L0), (.slice x1 n1 y1, L1), (.slice x2 n2 y2, L2)], SlIs w7 p.1 p.2) := Lib.hid (fun p hp => (hsl5.out p hp).ext hE57)
            have hrow7 := Lib.hid (hrow5.out.ext hE57)
            replace hE57 := hE5.trans hE57
            clear hr6 hA' hB hsl5 hrow5 hE5 hE6 hE7 c2 hLp hLr hLl hnd
            go_wp2_with fail
            refine (merge_ok w7 [(q0, L0), (.slice x1 n1 y1, L1), (.slice x2 n2 y2, L2)] l 3 tn _ 3 rfl hn'.out hrow7.out hsl7.out (by show 3 ≤ 1000; decide) (fun p hp => hsub.out p.2 (by
              have : p.2 ∈ [(q0, L0), (.slice x1 n1 y1, L1), (.slice x2 n2 y2, L2)].map (·.2) := List.mem_map_of_mem hp
              exact this)) hR.out (by show (L0 ++ (L1 ++ (L2 ++ []))).Perm l; rw [List.append_nil]; exact hperm.out) (by have := hl1'.out; omega)).mono ?_
            rintro e w8 ⟨ca, cc, rfl, hC, hE8⟩
            have hB8 := hB'.out.ext hE8
            have hC' : Hid (SlIs w8 (.slice ca tn cc) l) := Lib.hid ⟨ca, cc, by rw [hn'.out], by rw [← hn'.out]; exact hC.row⟩
            have c1 := hE8.cell c1
            have hs8 := Lib.hid ((hsl7.out (.slice x1 n1 y1, L1) (by simp)).ext hE8)
            have hB8' := Lib.hid hB8
            replace hE8 := hE57.trans hE8
            clear hB' hC hsl7 hrow7 hE57 hB8
            go_wp2_with fail
            obtain ⟨W9, hW9⟩ : ∃ W, W = w8.alloc (.cells #[.slice none 0 0, .slice x1 n1 y1] 22) := ⟨_, rfl⟩
            have hE9 : Ext w8 W9 := by rw [hW9]; exact (Ext.refl _).alloc _
            have hr9 : W9.heap[w8.heap.size]? = some (.cells #[.slice none 0 0, .slice x1 n1 y1] 22 (0, 0)) := by rw [hW9]; exact heap_alloc_new w8 _
            rw [← hW9]
            clear hW9
            have hL1r : Rises L1 := hsub.out L1 (by simp)
            have hL1l : L1.length ≤ 1000000 := by
              have h1 := hperm.out.length_eq
              rw [List.length_append, List.length_append] at h1
              have := hl1'.out
              omega
            refine (merge_ok W9 [(.slice none 0 0, []), (.slice x1 n1 y1, L1)] L1 2 n1 _ 2 rfl hn1'.out (two_row _ _ hr9) (fun p hp => ?_) (by show 2 ≤ 1000; decide) (fun p hp => ?_) hL1r (by show ([] ++ (L1 ++ [])).Perm L1; rw [List.append_nil, List.nil_append]) hL1l).mono ?_
            · rcases List.mem_cons.1 hp with rfl | hp
              · exact ⟨none, 0, rfl, RowIs.nil _ _ _ _ (fun _ => rfl)⟩
              · rw [List.mem_singleton.1 hp]; exact hs8.out.ext hE9
            · rcases List.mem_cons.1 hp with rfl | hp
              · exact List.Pairwise.nil
              · rw [List.mem_singleton.1 hp]; exact hL1r
            rintro e w10 ⟨da, dc, rfl, hDd, hE10⟩
            have hE810 := hE9.trans hE10
            have hD' : Hid (SlIs w10 (.slice da n1 dc) L1) := Lib.hid ⟨da, dc, by rw [hn1'.out], by rw [← hn1'.out]; exact hDd.row⟩
            have c1 := hE810.cell c1
            have hs10 := Lib.hid (hs8.out.ext hE810)
            have hB10 := hB8'.out.ext hE810
            have hC10 := hC'.out.ext hE810
            replace hE810 := hE8.trans hE810
            clear hr9 hDd hE8 hE9 hE10 hs8 hB8' hC' hL1r hL1l
            go_wp2_with fail
            refine (al_same w10 l _ _ hB10 hC10).mono ?_
            rintro e w11 ⟨rfl, hE11⟩
            have c1 := hE11.cell c1
            have hs11 := hs10.out.ext hE11
            have hD11 := hD'.out.ext hE11
            clear hs10 hD' hB10 hC10
            go_wp2_with fail
            refine (al_same w11 L1 _ _ hD11 hs11).mono ?_
            rintro e w12 ⟨rfl, hE12⟩
            go_wp2_with fail
            go_ret
            exact ⟨rfl, (hE810.trans hE11).trans hE12⟩
    · have hki : ¬ (tn : Int) = (n : Int) := by omega
      go_wp2_with fail
      refine (alive_any w2).mono ?_
      rintro e w3 ⟨rfl, hE3⟩
      go_wp2_with fail
      go_ret
      exact ⟨rfl, hE2.trans hE3⟩
end Go.Proofs.Ytlgnpfchblgpoaa
