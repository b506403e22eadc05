/- PastsRise: the walk. No condition. -/
import Derived.Test.YtgbiifefpidebaaPaR0
import Derived.Test.YtgbiifefpidebaaBq
import Derived.Deep.CutRange
namespace Go.Proofs.Ytgbiifefpidebaa
open Go.RowKit
set_option maxRecDepth 100000
set_option maxHeartbeats 4000000
theorem ask_inf : (Try.prog.info? 32).map (·.size) = some 8 := by kernel_rfl
theorem ask_in_ev {w : World} {g : Nat} {x : Ev} (h : w.heap[g]? = some (.cells x.row 40 (0, 0))) : w.rangeAt g 4 (x.ask.row (.slice x.ad x.ask.chs.length x.cap)).toList := by
  obtain ⟨_, _, _, _, x4, x5, x6, x7, x8, x9, x10, x11, _⟩ := ev_cells h
  intro r u hu
  match r, hu with
  | 0, hu => injection hu with hu; subst hu; exact x4
  | 1, hu => injection hu with hu; subst hu; exact x5
  | 2, hu => injection hu with hu; subst hu; exact x6
  | 3, hu => injection hu with hu; subst hu; exact x7
  | 4, hu => injection hu with hu; subst hu; exact x8
  | 5, hu => injection hu with hu; subst hu; exact x9
  | 6, hu => injection hu with hu; subst hu; exact x10
  | 7, hu => injection hu with hu; subst hu; exact x11
  | n + 8, hu => exact absurd (List.getElem?_eq_some_iff.1 hu).1 (by show ¬ n + 8 < 8; omega)
theorem ask_in_item {w : World} {b o : Nat} {y : Ev} (h : w.rangeAt b o y.itc) : w.rangeAt b (o + 3) (y.ask.row (.slice y.ad y.ask.chs.length y.cap)).toList := fun r u hu => by
  have := h (r + 3) u hu
  rwa [Nat.add_assoc, Nat.add_comm 3 r]
def maxE (l : List Ev) : Int := l.foldl (fun m x => max m x.ep) 0
theorem maxE_snoc (l : List Ev) (x : Ev) : maxE (l ++ [x]) = max (maxE l) x.ep := by unfold maxE; rw [List.foldl_append]; rfl
theorem foldmax_ge : ∀ (l : List Ev) (m : Int), m ≤ l.foldl (fun m x => max m x.ep) m ∧ ∀ x ∈ l, x.ep ≤ l.foldl (fun m x => max m x.ep) m
  | [], m => ⟨Int.le_refl _, fun _ h => by cases h⟩
  | y :: l, m => by
    obtain ⟨h1, h2⟩ := foldmax_ge l (max m y.ep)
    refine ⟨Int.le_trans (Int.le_max_left ..) h1, fun x hx => ?_⟩
    rcases List.mem_cons.1 hx with rfl | hx
    · exact Int.le_trans (Int.le_max_right ..) h1
    · exact h2 x hx
theorem maxE_ge (l : List Ev) : 0 ≤ maxE l ∧ ∀ x ∈ l, x.ep ≤ maxE l := foldmax_ge l 0
theorem foldmax_le {B : Int} : ∀ (l : List Ev) (m : Int), m ≤ B → (∀ x ∈ l, x.ep ≤ B) → l.foldl (fun m x => max m x.ep) m ≤ B
  | [], _, h, _ => h
  | y :: l, m, h, hx => foldmax_le l (max m y.ep) (Int.max_le.2 ⟨h, hx y (List.mem_cons_self ..)⟩) (fun x hm => hx x (List.mem_cons_of_mem _ hm))
theorem chain_good (w : World) {e : Int} (he : 0 ≤ e ∧ e < 4294967296) {c : Nat} (hc : c < 256) : (chainE e c).good w where
  kind := by show (0 : Int) ≤ 3 ∧ (3 : Int) < 256; decide
  ep := he
  cl := by show (0 : Int) ≤ 0 ∧ (0 : Int) < 256; decide
  num := by show (0 : Int) ≤ 0 ∧ (0 : Int) < 4294967296; decide
  chs := sm_chs w
  ask := show zA.small from ⟨⟨by decide, by decide⟩, by decide, by decide, by decide, by decide, by decide, by decide⟩
  lvl := by show (0 : Int) ≤ 0 ∧ (0 : Int) < 256; decide
  rows := sm_rps w
  idx := ⟨by show (0 : Int) ≤ (c : Int); omega, by show (c : Int) < 18446744073709551616; omega⟩
theorem run_build_chain (e : Int) (c : Nat) (w : World) : (Instr.build 40 #[(0, .int .u8 3), (1, .int .u32 e), (7, .int .u64 (c : Int))]).run Try.prog w = .ok (.agg (chainE e c).row) w := by kernel_rfl
theorem matchB_eq (x y : Ev) : matchB x y = ((x.kind == 5) && ((x.idx == y.idx) && ((x.cl == y.cl) && ((x.num == y.num) && x.ask.sameB y.ask)))) := rfl
theorem pastsRise_walk (w : World) (v : Value) (o0 : ∃ n, OKC Try.prog w n 22 [v]) (ct : Int) (o1 : ∃ n, OKC Try.prog w n 5 [.int .u8 ct]) : Calls Try.prog 4 #[v, .int .u8 ct] w fun e w' => e = .returned (.bool true) ∧ Ext w w' := by
  obtain ⟨cut, rfl, hcut⟩ := okc_nat (top := 256) Try.underlying5 (fun _ h => wf_u8 h) o1
  obtain ⟨l, a, cap, rfl, hev⟩ := okc_events o0
  have hgr := great_ev w l a cap hev
  obtain ⟨ln, hln⟩ : ∃ n, n = l.length := ⟨_, rfl⟩
  rw [← hln] at hgr ⊢
  have hln' := Lib.hid hln
  have hev' := Lib.hid hev
  clear hln hev o0 o1
  go_enter Try.func4, Try.ntmps4
  go_wp2_with fail
  refine hgr.mono ?_
  clear hgr
  rintro e w1 ⟨b, rfl, hb, hE1⟩
  cases b with
  | true =>
    go_wp2_with fail
    refine (lives_any w1).mono ?_
    rintro e w2 ⟨rfl, hE2⟩
    go_wp2_with fail
    go_ret
    exact ⟨rfl, hE1.trans hE2⟩
  | false =>
    have hn : ln ≤ 120 := hb rfl
    clear hb
    have hck := pcheck_any w1 l a cap (hev'.out.1.ext hE1) (by rw [← hln'.out]; omega) (fun x hx => (hev'.out.2.2 x hx).ext hE1)
    unfold CkE at hck
    obtain ⟨C, hC⟩ : ∃ C, C = (ckL l).isSome := ⟨_, rfl⟩
    rw [← hC, ← hln'.out] at hck
    have hC' := Lib.hid hC
    clear hC
    go_wp2_with fail
    refine hck.mono ?_
    clear hck
    rintro e w2 ⟨rfl, hE2⟩
    have hE := hE1.trans hE2
    clear hE1 hE2
    cases C with
    | false =>
      go_wp2_with fail
      refine (lives_any w2).mono ?_
      rintro e w3 ⟨rfl, hE3⟩
      go_wp2_with fail
      go_ret
      exact ⟨rfl, hE.trans hE3⟩
    | true =>
      have hl0 := log_any w2 l a cap (hev'.out.1.ext hE) (by rw [← hln'.out]; omega) (fun x hx => (hev'.out.2.2 x hx).ext hE) hC'.out.symm
      rw [← hln'.out] at hl0
      go_wp2_with fail
      refine hl0.mono ?_
      clear hl0
      rintro e w3 ⟨os, ga, rfl, hL⟩
      have hE3 := hE.trans hL.ext
      have hL' := Lib.hid hL
      obtain ⟨N, hN⟩ : ∃ N, N = os.length := ⟨_, rfl⟩
      rw [← hN]
      have hN' := Lib.hid hN
      clear hL hN hE
      go_wp2_with fail
      go_loopw [6, 7] (fun m i wr => ∃ (k : Nat) (M : Int), k ≤ ln ∧ i = .int .i64 k ∧ m = .int .u32 M ∧ Hid (M = maxE (l.take k)) ∧ w3 = wr) (fun _ i _ => ln - (intOf i).toNat)
      case atStart => exact ⟨0, 0, by omega, rfl, rfl, Lib.hid rfl, rfl⟩
      case round =>
        obtain ⟨k, M, hk, rfl, rfl, hM, rfl⟩ := hrel
        by_cases hlt : k < ln
        · have hli : (k : Int) < (ln : Int) := by omega
          obtain ⟨x, hx⟩ : ∃ c, l[k]? = some c := ⟨_, List.getElem?_eq_getElem (by rw [← hln'.out]; exact hlt)⟩
          have hR := hev'.out.1.ext hE3
          rw [← hln'.out] at hR
          obtain ⟨b, off, hat⟩ := hR.at
          obtain ⟨rfl, _, hd⟩ := hat (by omega)
          have hrg := ev_range (by rw [← hln'.out]; exact hd) hx
          have htk : Hid (max M x.ep = maxE (l.take (k + 1))) := Lib.hid (by rw [List.take_add_one, hx]; show _ = maxE (l.take k ++ [x]); rw [maxE_snoc, ← hM.out])
          have x1 := hrg 1 _ rfl
          clear hat hd hx hR hrg
          go_wp2_with fail
          go_roundw
          case rel => exact ⟨k + 1, if M < x.ep then x.ep else M, by omega, by go_num, rfl, Lib.hid (by rw [← htk.out]; split <;> omega), trivial⟩
          case measure => simp [intOf]; omega
        · have hli : ¬ (k : Int) < (ln : Int) := by omega
          have hNb : N ≤ 9223372036854775807 := by have := hL'.out.row.2.1; rw [← hN'.out] at this; exact this
          have hM2 : Hid (M = maxE l) := Lib.hid (by rw [hM.out, List.take_of_length_le (by rw [← hln'.out]; omega)])
          have hMb : 0 ≤ M ∧ M ≤ 4294967295 := by
            rw [hM2.out]
            refine ⟨(maxE_ge l).1, foldmax_le l 0 (by decide) (fun x hx => ?_)⟩
            have := (hev'.out.2.2 x hx).ep
            omega
          clear hM hlt
          go_wp2_with fail
          clear hli
          go_loopw [8, 9, 10, 11] (fun i _ _ _ wr => ∃ i0 : Nat, i0 ≤ N ∧ i = .int .i64 i0 ∧ Ext w3 wr) (fun i _ _ _ _ => N - (intOf i).toNat)
          case atStart => exact ⟨0, by omega, rfl, Ext.refl _⟩
          case round =>
            obtain ⟨i, hi, rfl, hEr⟩ := hrel
            by_cases hlt : i < N
            · have hli : (i : Int) < (N : Int) := by omega
              obtain ⟨y, hy⟩ : ∃ c, os[i]? = some c := ⟨_, List.getElem?_eq_getElem (by rw [← hN'.out]; exact hlt)⟩
              obtain ⟨htaken, hyi⟩ := taken_any hL'.out.same hy
              have hR := hL'.out.row
              rw [← hN'.out] at hR
              obtain ⟨gb, go, hat⟩ := hR.at
              obtain ⟨rfl, _, hd⟩ := hat (by omega)
              have hry := Lib.hid (itc_range (by rw [← hN'.out]; exact hd) hy)
              have hyok := Lib.hid ((hL'.out.ok y (List.mem_of_getElem? hy)).chs)
              have htaken' := Lib.hid htaken
              have hyi' := Lib.hid hyi
              clear hat hd hR hy htaken hyi
              go_wp2_with fail
              go_loopw [9, 10, 11] (fun tk kk _ wr => ∃ (k : Nat) (tb : Bool), k ≤ ln ∧ tk = .bool tb ∧ kk = .int .i64 k ∧ Hid (tb = (l.take k).any (fun x => matchB x y)) ∧ Ext w3 wr) (fun _ kk _ _ => ln - (intOf kk).toNat)
              case atStart => exact ⟨0, false, by omega, rfl, rfl, Lib.hid rfl, hEr⟩
              case round =>
                obtain ⟨k, tb, hk, rfl, rfl, htb, hEk⟩ := hrel
                clear hEr
                by_cases hlt2 : k < ln
                · have hlk : (k : Int) < (ln : Int) := by omega
                  obtain ⟨x, hx⟩ : ∃ c, l[k]? = some c := ⟨_, List.getElem?_eq_getElem (by rw [← hln'.out]; exact hlt2)⟩
                  have hR := (hev'.out.1.ext hE3).ext hEk
                  rw [← hln'.out] at hR
                  obtain ⟨b, off, hat⟩ := hR.at
                  obtain ⟨rfl, _, hd⟩ := hat (by omega)
                  have hrg := ev_range (by rw [← hln'.out]; exact hd) hx
                  have hst : Hid ((l.take (k + 1)).any (fun x => matchB x y) = (tb || matchB x y)) := Lib.hid (by rw [List.take_add_one, hx, List.any_append, ← htb.out]; show (tb || ([x].any fun x => matchB x y)) = _; simp)
                  have hxc := Lib.hid ((hev'.out.2.2 x (List.mem_of_getElem? hx)).chs.1.ext (hE3.trans hEk))
                  clear hat hd hx hR
                  have hz := heap_alloc_new wr (.cells zEv 40)
                  have hEz := (Ext.refl wr).alloc (.cells zEv 40)
                  have hset : ((wr.alloc (.cells zEv 40)).setRow wr.heap.size x.row).heap[wr.heap.size]? = some (.cells x.row 40 (0, 0)) := by rw [setRow_heap _ _ _ _ _ _ hz]
                  have hEs := hEz.setRow (Nat.le_refl _) x.row
                  go_upto_region 17 with (first | (refine wpList_store_row (by rfl) 40 (.tmp 11) (.tmp 52) (by rfl) wr.heap.size x.row (by rfl) (by rfl) 40 zEv hz (by exact ev_inf) (by rfl) (ev_one x) ?_) | (refine wpList_load_mid (by rfl) 40 (.tmp 51) (by rfl) b (off + k * 17) (by rfl) x.cells _ hrg Try.underlying40 rfl (by exact ev_inf) ?_) | fail)
                  unfold zEv at hset hEs
                  clear hz hEz hrg
                  generalize (wr.alloc _).setRow _ _ = W3 at *
                  have hE6 := hEk.trans hEs
                  have hxc2 := Lib.hid (hxc.out.ext hEs)
                  have hyc2 := Lib.hid (hyok.out.1.ext hE6)
                  obtain ⟨g11, hg11⟩ : ∃ g, g = wr.heap.size := ⟨_, rfl⟩
                  rw [← hg11] at hset ⊢
                  clear hg11 hEk hEs hxc
                  obtain ⟨x0, _, x2, x3, _, _, _, _, _, _, _, _, _, _, _, _, x16⟩ := ev_cells hset
                  have xa := ask_in_ev hset
                  have hyr : W3.rangeAt gb (go + i * 11) y.itc := fun r u hu => hE6.cell (hry.out r u hu)
                  have ya := ask_in_item hyr
                  have y0 := hyr 0 _ rfl
                  have y1 := hyr 1 _ rfl
                  have y2 := hyr 2 _ rfl
                  rw [Nat.add_zero] at y0
                  have hsa := fun w' (hw : Ext W3 w') => sask_any w' x.ask y.ask x.ad y.ad x.cap y.cap (hxc2.out.ext hw) (hyc2.out.ext hw)
                  clear hset hyr
                  unfold Ak.row at hsa
                  obtain ⟨tn, htn⟩ : ∃ tn, tn = (tb || matchB x y) := ⟨_, rfl⟩
                  rw [← htn] at hst
                  have htn' := Lib.hid htn
                  clear htn
                  cases tb with
                    | true =>
                      refine bqRegion (Ext W3) (by kernel_rfl) (by kernel_rfl) (Ext.refl _).drew ?_
                      iterate 2 (refine bqStep (fun K hK => ?_); go_simp; first | (refine hK _ ?_; clear hK K) | (refine ⟨_, fun _ _ => rfl, hK _ ?_⟩; clear hK K))
                      iterate 43 (refine bqSkip (by rfl) ?_; simp only [Act.put, List.setIfInBounds_toArray, List.set_cons_zero, List.set_cons_succ])
                      iterate 2 (refine bqStep (fun K hK => ?_); go_simp; first | (refine hK _ ?_; clear hK K) | (refine ⟨_, fun _ _ => rfl, hK _ ?_⟩; clear hK K))
                      refine bqNil (fun W5 hE5 => ?_)
                      try simp only [Act.put, List.setIfInBounds_toArray, List.set_cons_zero, List.set_cons_succ]
                      have hfv : Hid (tn = true) := Lib.hid (by rw [htn'.out]; rfl)
                      have hE8 := hE6.trans hE5
                      clear hsa xa ya y0 y1 y2 x0 x2 x3 x16
                      go_wp2_with fail
                      go_roundw
                      case rel => first | exact ⟨k + 1, true, by omega, rfl, by go_num, Lib.hid (by rw [hst.out, hfv.out]), hE8⟩ | ((repeat apply Exists.intro); exact ⟨⟨k + 1, true, by omega, rfl, by go_num, Lib.hid (by rw [hst.out, hfv.out]), hE8⟩, rfl⟩)
                      case measure => simp [intOf]; omega
                    | false =>
                      cases k5 : (x.kind == 5) with
                      | false =>
                        refine bqRegion (Ext W3) (by kernel_rfl) (by kernel_rfl) (Ext.refl _).drew ?_
                        iterate 3 (refine bqStep (fun K hK => ?_); go_simp; first | (refine hK _ ?_; clear hK K) | (refine ⟨_, fun _ _ => rfl, hK _ ?_⟩; clear hK K))
                        refine bqCell (by rfl) 5 _ (by rfl) g11 (0) (by rfl) _ (fun w' hw => hw.cell x0) _ Try.underlying5 rfl ?_
                        simp only [Act.put, List.setIfInBounds_toArray, List.set_cons_zero, List.set_cons_succ]
                        iterate 2 (refine bqStep (fun K hK => ?_); go_simp; first | (refine hK _ ?_; clear hK K) | (refine ⟨_, fun _ _ => rfl, hK _ ?_⟩; clear hK K))
                        iterate 8 (refine bqSkip (by rfl) ?_; simp only [Act.put, List.setIfInBounds_toArray, List.set_cons_zero, List.set_cons_succ])
                        iterate 2 (refine bqStep (fun K hK => ?_); go_simp; first | (refine hK _ ?_; clear hK K) | (refine ⟨_, fun _ _ => rfl, hK _ ?_⟩; clear hK K))
                        iterate 8 (refine bqSkip (by rfl) ?_; simp only [Act.put, List.setIfInBounds_toArray, List.set_cons_zero, List.set_cons_succ])
                        iterate 2 (refine bqStep (fun K hK => ?_); go_simp; first | (refine hK _ ?_; clear hK K) | (refine ⟨_, fun _ _ => rfl, hK _ ?_⟩; clear hK K))
                        iterate 8 (refine bqSkip (by rfl) ?_; simp only [Act.put, List.setIfInBounds_toArray, List.set_cons_zero, List.set_cons_succ])
                        iterate 2 (refine bqStep (fun K hK => ?_); go_simp; first | (refine hK _ ?_; clear hK K) | (refine ⟨_, fun _ _ => rfl, hK _ ?_⟩; clear hK K))
                        iterate 8 (refine bqSkip (by rfl) ?_; simp only [Act.put, List.setIfInBounds_toArray, List.set_cons_zero, List.set_cons_succ])
                        iterate 3 (refine bqStep (fun K hK => ?_); go_simp; first | (refine hK _ ?_; clear hK K) | (refine ⟨_, fun _ _ => rfl, hK _ ?_⟩; clear hK K))
                        refine bqNil (fun W5 hE5 => ?_)
                        try simp only [Act.put, List.setIfInBounds_toArray, List.set_cons_zero, List.set_cons_succ]
                        have hfv : Hid (tn = false) := Lib.hid (by rw [htn'.out, matchB_eq, k5]; rfl)
                        have hE8 := hE6.trans hE5
                        clear hsa xa ya y0 y1 y2 x0 x2 x3 x16
                        go_wp2_with fail
                        go_roundw
                        case rel => first | exact ⟨k + 1, false, by omega, rfl, by go_num, Lib.hid (by rw [hst.out, hfv.out]), hE8⟩ | ((repeat apply Exists.intro); exact ⟨⟨k + 1, false, by omega, rfl, by go_num, Lib.hid (by rw [hst.out, hfv.out]), hE8⟩, rfl⟩)
                        case measure => simp [intOf]; omega
                      | true =>
                      cases k6 : (x.idx == y.idx) with
                      | false =>
                        refine bqRegion (Ext W3) (by kernel_rfl) (by kernel_rfl) (Ext.refl _).drew ?_
                        iterate 3 (refine bqStep (fun K hK => ?_); go_simp; first | (refine hK _ ?_; clear hK K) | (refine ⟨_, fun _ _ => rfl, hK _ ?_⟩; clear hK K))
                        refine bqCell (by rfl) 5 _ (by rfl) g11 (0) (by rfl) _ (fun w' hw => hw.cell x0) _ Try.underlying5 rfl ?_
                        simp only [Act.put, List.setIfInBounds_toArray, List.set_cons_zero, List.set_cons_succ]
                        iterate 3 (refine bqStep (fun K hK => ?_); go_simp; first | (refine hK _ ?_; clear hK K) | (refine ⟨_, fun _ _ => rfl, hK _ ?_⟩; clear hK K))
                        refine bqCell (by rfl) 38 _ (by rfl) g11 (16) (by rfl) _ (fun w' hw => hw.cell x16) _ Try.underlying38 rfl ?_
                        simp only [Act.put, List.setIfInBounds_toArray, List.set_cons_zero, List.set_cons_succ]
                        iterate 4 (refine bqStep (fun K hK => ?_); go_simp; first | (refine hK _ ?_; clear hK K) | (refine ⟨_, fun _ _ => rfl, hK _ ?_⟩; clear hK K))
                        refine bqCell (by rfl) 38 _ (by rfl) gb (go + i * 11) (by rfl) _ (fun w' hw => hw.cell y0) _ Try.underlying38 rfl ?_
                        simp only [Act.put, List.setIfInBounds_toArray, List.set_cons_zero, List.set_cons_succ]
                        iterate 3 (refine bqStep (fun K hK => ?_); go_simp; first | (refine hK _ ?_; clear hK K) | (refine ⟨_, fun _ _ => rfl, hK _ ?_⟩; clear hK K))
                        iterate 8 (refine bqSkip (by rfl) ?_; simp only [Act.put, List.setIfInBounds_toArray, List.set_cons_zero, List.set_cons_succ])
                        iterate 2 (refine bqStep (fun K hK => ?_); go_simp; first | (refine hK _ ?_; clear hK K) | (refine ⟨_, fun _ _ => rfl, hK _ ?_⟩; clear hK K))
                        iterate 8 (refine bqSkip (by rfl) ?_; simp only [Act.put, List.setIfInBounds_toArray, List.set_cons_zero, List.set_cons_succ])
                        iterate 2 (refine bqStep (fun K hK => ?_); go_simp; first | (refine hK _ ?_; clear hK K) | (refine ⟨_, fun _ _ => rfl, hK _ ?_⟩; clear hK K))
                        iterate 8 (refine bqSkip (by rfl) ?_; simp only [Act.put, List.setIfInBounds_toArray, List.set_cons_zero, List.set_cons_succ])
                        iterate 3 (refine bqStep (fun K hK => ?_); go_simp; first | (refine hK _ ?_; clear hK K) | (refine ⟨_, fun _ _ => rfl, hK _ ?_⟩; clear hK K))
                        refine bqNil (fun W5 hE5 => ?_)
                        try simp only [Act.put, List.setIfInBounds_toArray, List.set_cons_zero, List.set_cons_succ]
                        have hfv : Hid (tn = false) := Lib.hid (by rw [htn'.out, matchB_eq, k5, k6]; rfl)
                        have hE8 := hE6.trans hE5
                        clear hsa xa ya y0 y1 y2 x0 x2 x3 x16
                        go_wp2_with fail
                        go_roundw
                        case rel => first | exact ⟨k + 1, false, by omega, rfl, by go_num, Lib.hid (by rw [hst.out, hfv.out]), hE8⟩ | ((repeat apply Exists.intro); exact ⟨⟨k + 1, false, by omega, rfl, by go_num, Lib.hid (by rw [hst.out, hfv.out]), hE8⟩, rfl⟩)
                        case measure => simp [intOf]; omega
                      | true =>
                      cases k7 : (x.cl == y.cl) with
                      | false =>
                        refine bqRegion (Ext W3) (by kernel_rfl) (by kernel_rfl) (Ext.refl _).drew ?_
                        iterate 3 (refine bqStep (fun K hK => ?_); go_simp; first | (refine hK _ ?_; clear hK K) | (refine ⟨_, fun _ _ => rfl, hK _ ?_⟩; clear hK K))
                        refine bqCell (by rfl) 5 _ (by rfl) g11 (0) (by rfl) _ (fun w' hw => hw.cell x0) _ Try.underlying5 rfl ?_
                        simp only [Act.put, List.setIfInBounds_toArray, List.set_cons_zero, List.set_cons_succ]
                        iterate 3 (refine bqStep (fun K hK => ?_); go_simp; first | (refine hK _ ?_; clear hK K) | (refine ⟨_, fun _ _ => rfl, hK _ ?_⟩; clear hK K))
                        refine bqCell (by rfl) 38 _ (by rfl) g11 (16) (by rfl) _ (fun w' hw => hw.cell x16) _ Try.underlying38 rfl ?_
                        simp only [Act.put, List.setIfInBounds_toArray, List.set_cons_zero, List.set_cons_succ]
                        iterate 4 (refine bqStep (fun K hK => ?_); go_simp; first | (refine hK _ ?_; clear hK K) | (refine ⟨_, fun _ _ => rfl, hK _ ?_⟩; clear hK K))
                        refine bqCell (by rfl) 38 _ (by rfl) gb (go + i * 11) (by rfl) _ (fun w' hw => hw.cell y0) _ Try.underlying38 rfl ?_
                        simp only [Act.put, List.setIfInBounds_toArray, List.set_cons_zero, List.set_cons_succ]
                        iterate 4 (refine bqStep (fun K hK => ?_); go_simp; first | (refine hK _ ?_; clear hK K) | (refine ⟨_, fun _ _ => rfl, hK _ ?_⟩; clear hK K))
                        refine bqCell (by rfl) 5 _ (by rfl) g11 (2) (by rfl) _ (fun w' hw => hw.cell x2) _ Try.underlying5 rfl ?_
                        simp only [Act.put, List.setIfInBounds_toArray, List.set_cons_zero, List.set_cons_succ]
                        iterate 4 (refine bqStep (fun K hK => ?_); go_simp; first | (refine hK _ ?_; clear hK K) | (refine ⟨_, fun _ _ => rfl, hK _ ?_⟩; clear hK K))
                        refine bqCell (by rfl) 5 _ (by rfl) gb (go + i * 11 + 1) (by rfl) _ (fun w' hw => hw.cell y1) _ Try.underlying5 rfl ?_
                        simp only [Act.put, List.setIfInBounds_toArray, List.set_cons_zero, List.set_cons_succ]
                        iterate 3 (refine bqStep (fun K hK => ?_); go_simp; first | (refine hK _ ?_; clear hK K) | (refine ⟨_, fun _ _ => rfl, hK _ ?_⟩; clear hK K))
                        iterate 8 (refine bqSkip (by rfl) ?_; simp only [Act.put, List.setIfInBounds_toArray, List.set_cons_zero, List.set_cons_succ])
                        iterate 2 (refine bqStep (fun K hK => ?_); go_simp; first | (refine hK _ ?_; clear hK K) | (refine ⟨_, fun _ _ => rfl, hK _ ?_⟩; clear hK K))
                        iterate 8 (refine bqSkip (by rfl) ?_; simp only [Act.put, List.setIfInBounds_toArray, List.set_cons_zero, List.set_cons_succ])
                        iterate 3 (refine bqStep (fun K hK => ?_); go_simp; first | (refine hK _ ?_; clear hK K) | (refine ⟨_, fun _ _ => rfl, hK _ ?_⟩; clear hK K))
                        refine bqNil (fun W5 hE5 => ?_)
                        try simp only [Act.put, List.setIfInBounds_toArray, List.set_cons_zero, List.set_cons_succ]
                        have hfv : Hid (tn = false) := Lib.hid (by rw [htn'.out, matchB_eq, k5, k6, k7]; rfl)
                        have hE8 := hE6.trans hE5
                        clear hsa xa ya y0 y1 y2 x0 x2 x3 x16
                        go_wp2_with fail
                        go_roundw
                        case rel => first | exact ⟨k + 1, false, by omega, rfl, by go_num, Lib.hid (by rw [hst.out, hfv.out]), hE8⟩ | ((repeat apply Exists.intro); exact ⟨⟨k + 1, false, by omega, rfl, by go_num, Lib.hid (by rw [hst.out, hfv.out]), hE8⟩, rfl⟩)
                        case measure => simp [intOf]; omega
                      | true =>
                      cases k8 : (x.num == y.num) with
                      | false =>
                        refine bqRegion (Ext W3) (by kernel_rfl) (by kernel_rfl) (Ext.refl _).drew ?_
                        iterate 3 (refine bqStep (fun K hK => ?_); go_simp; first | (refine hK _ ?_; clear hK K) | (refine ⟨_, fun _ _ => rfl, hK _ ?_⟩; clear hK K))
                        refine bqCell (by rfl) 5 _ (by rfl) g11 (0) (by rfl) _ (fun w' hw => hw.cell x0) _ Try.underlying5 rfl ?_
                        simp only [Act.put, List.setIfInBounds_toArray, List.set_cons_zero, List.set_cons_succ]
                        iterate 3 (refine bqStep (fun K hK => ?_); go_simp; first | (refine hK _ ?_; clear hK K) | (refine ⟨_, fun _ _ => rfl, hK _ ?_⟩; clear hK K))
                        refine bqCell (by rfl) 38 _ (by rfl) g11 (16) (by rfl) _ (fun w' hw => hw.cell x16) _ Try.underlying38 rfl ?_
                        simp only [Act.put, List.setIfInBounds_toArray, List.set_cons_zero, List.set_cons_succ]
                        iterate 4 (refine bqStep (fun K hK => ?_); go_simp; first | (refine hK _ ?_; clear hK K) | (refine ⟨_, fun _ _ => rfl, hK _ ?_⟩; clear hK K))
                        refine bqCell (by rfl) 38 _ (by rfl) gb (go + i * 11) (by rfl) _ (fun w' hw => hw.cell y0) _ Try.underlying38 rfl ?_
                        simp only [Act.put, List.setIfInBounds_toArray, List.set_cons_zero, List.set_cons_succ]
                        iterate 4 (refine bqStep (fun K hK => ?_); go_simp; first | (refine hK _ ?_; clear hK K) | (refine ⟨_, fun _ _ => rfl, hK _ ?_⟩; clear hK K))
                        refine bqCell (by rfl) 5 _ (by rfl) g11 (2) (by rfl) _ (fun w' hw => hw.cell x2) _ Try.underlying5 rfl ?_
                        simp only [Act.put, List.setIfInBounds_toArray, List.set_cons_zero, List.set_cons_succ]
                        iterate 4 (refine bqStep (fun K hK => ?_); go_simp; first | (refine hK _ ?_; clear hK K) | (refine ⟨_, fun _ _ => rfl, hK _ ?_⟩; clear hK K))
                        refine bqCell (by rfl) 5 _ (by rfl) gb (go + i * 11 + 1) (by rfl) _ (fun w' hw => hw.cell y1) _ Try.underlying5 rfl ?_
                        simp only [Act.put, List.setIfInBounds_toArray, List.set_cons_zero, List.set_cons_succ]
                        iterate 4 (refine bqStep (fun K hK => ?_); go_simp; first | (refine hK _ ?_; clear hK K) | (refine ⟨_, fun _ _ => rfl, hK _ ?_⟩; clear hK K))
                        refine bqCell (by rfl) 28 _ (by rfl) g11 (3) (by rfl) _ (fun w' hw => hw.cell x3) _ Try.underlying28 rfl ?_
                        simp only [Act.put, List.setIfInBounds_toArray, List.set_cons_zero, List.set_cons_succ]
                        iterate 4 (refine bqStep (fun K hK => ?_); go_simp; first | (refine hK _ ?_; clear hK K) | (refine ⟨_, fun _ _ => rfl, hK _ ?_⟩; clear hK K))
                        refine bqCell (by rfl) 28 _ (by rfl) gb (go + i * 11 + 2) (by rfl) _ (fun w' hw => hw.cell y2) _ Try.underlying28 rfl ?_
                        simp only [Act.put, List.setIfInBounds_toArray, List.set_cons_zero, List.set_cons_succ]
                        iterate 3 (refine bqStep (fun K hK => ?_); go_simp; first | (refine hK _ ?_; clear hK K) | (refine ⟨_, fun _ _ => rfl, hK _ ?_⟩; clear hK K))
                        iterate 8 (refine bqSkip (by rfl) ?_; simp only [Act.put, List.setIfInBounds_toArray, List.set_cons_zero, List.set_cons_succ])
                        iterate 3 (refine bqStep (fun K hK => ?_); go_simp; first | (refine hK _ ?_; clear hK K) | (refine ⟨_, fun _ _ => rfl, hK _ ?_⟩; clear hK K))
                        refine bqNil (fun W5 hE5 => ?_)
                        try simp only [Act.put, List.setIfInBounds_toArray, List.set_cons_zero, List.set_cons_succ]
                        have hfv : Hid (tn = false) := Lib.hid (by rw [htn'.out, matchB_eq, k5, k6, k7, k8]; rfl)
                        have hE8 := hE6.trans hE5
                        clear hsa xa ya y0 y1 y2 x0 x2 x3 x16
                        go_wp2_with fail
                        go_roundw
                        case rel => first | exact ⟨k + 1, false, by omega, rfl, by go_num, Lib.hid (by rw [hst.out, hfv.out]), hE8⟩ | ((repeat apply Exists.intro); exact ⟨⟨k + 1, false, by omega, rfl, by go_num, Lib.hid (by rw [hst.out, hfv.out]), hE8⟩, rfl⟩)
                        case measure => simp [intOf]; omega
                      | true =>
                        refine bqRegion (Ext W3) (by kernel_rfl) (by kernel_rfl) (Ext.refl _).drew ?_
                        iterate 3 (refine bqStep (fun K hK => ?_); go_simp; first | (refine hK _ ?_; clear hK K) | (refine ⟨_, fun _ _ => rfl, hK _ ?_⟩; clear hK K))
                        refine bqCell (by rfl) 5 _ (by rfl) g11 (0) (by rfl) _ (fun w' hw => hw.cell x0) _ Try.underlying5 rfl ?_
                        simp only [Act.put, List.setIfInBounds_toArray, List.set_cons_zero, List.set_cons_succ]
                        iterate 3 (refine bqStep (fun K hK => ?_); go_simp; first | (refine hK _ ?_; clear hK K) | (refine ⟨_, fun _ _ => rfl, hK _ ?_⟩; clear hK K))
                        refine bqCell (by rfl) 38 _ (by rfl) g11 (16) (by rfl) _ (fun w' hw => hw.cell x16) _ Try.underlying38 rfl ?_
                        simp only [Act.put, List.setIfInBounds_toArray, List.set_cons_zero, List.set_cons_succ]
                        iterate 4 (refine bqStep (fun K hK => ?_); go_simp; first | (refine hK _ ?_; clear hK K) | (refine ⟨_, fun _ _ => rfl, hK _ ?_⟩; clear hK K))
                        refine bqCell (by rfl) 38 _ (by rfl) gb (go + i * 11) (by rfl) _ (fun w' hw => hw.cell y0) _ Try.underlying38 rfl ?_
                        simp only [Act.put, List.setIfInBounds_toArray, List.set_cons_zero, List.set_cons_succ]
                        iterate 4 (refine bqStep (fun K hK => ?_); go_simp; first | (refine hK _ ?_; clear hK K) | (refine ⟨_, fun _ _ => rfl, hK _ ?_⟩; clear hK K))
                        refine bqCell (by rfl) 5 _ (by rfl) g11 (2) (by rfl) _ (fun w' hw => hw.cell x2) _ Try.underlying5 rfl ?_
                        simp only [Act.put, List.setIfInBounds_toArray, List.set_cons_zero, List.set_cons_succ]
                        iterate 4 (refine bqStep (fun K hK => ?_); go_simp; first | (refine hK _ ?_; clear hK K) | (refine ⟨_, fun _ _ => rfl, hK _ ?_⟩; clear hK K))
                        refine bqCell (by rfl) 5 _ (by rfl) gb (go + i * 11 + 1) (by rfl) _ (fun w' hw => hw.cell y1) _ Try.underlying5 rfl ?_
                        simp only [Act.put, List.setIfInBounds_toArray, List.set_cons_zero, List.set_cons_succ]
                        iterate 4 (refine bqStep (fun K hK => ?_); go_simp; first | (refine hK _ ?_; clear hK K) | (refine ⟨_, fun _ _ => rfl, hK _ ?_⟩; clear hK K))
                        refine bqCell (by rfl) 28 _ (by rfl) g11 (3) (by rfl) _ (fun w' hw => hw.cell x3) _ Try.underlying28 rfl ?_
                        simp only [Act.put, List.setIfInBounds_toArray, List.set_cons_zero, List.set_cons_succ]
                        iterate 4 (refine bqStep (fun K hK => ?_); go_simp; first | (refine hK _ ?_; clear hK K) | (refine ⟨_, fun _ _ => rfl, hK _ ?_⟩; clear hK K))
                        refine bqCell (by rfl) 28 _ (by rfl) gb (go + i * 11 + 2) (by rfl) _ (fun w' hw => hw.cell y2) _ Try.underlying28 rfl ?_
                        simp only [Act.put, List.setIfInBounds_toArray, List.set_cons_zero, List.set_cons_succ]
                        iterate 4 (refine bqStep (fun K hK => ?_); go_simp; first | (refine hK _ ?_; clear hK K) | (refine ⟨_, fun _ _ => rfl, hK _ ?_⟩; clear hK K))
                        refine bqMid (by rfl) 32 _ (by rfl) g11 4 (by rfl) _ _ (fun w' hw r u hu => hw.cell (xa r u hu)) Try.underlying32 rfl (by exact ask_inf) ?_
                        simp only [Act.put, List.setIfInBounds_toArray, List.set_cons_zero, List.set_cons_succ]
                        iterate 4 (refine bqStep (fun K hK => ?_); go_simp; first | (refine hK _ ?_; clear hK K) | (refine ⟨_, fun _ _ => rfl, hK _ ?_⟩; clear hK K))
                        refine bqMid (by rfl) 32 _ (by rfl) gb (go + i * 11 + 3) (by rfl) _ _ (fun w' hw r u hu => hw.cell (ya r u hu)) Try.underlying32 rfl (by exact ask_inf) ?_
                        simp only [Act.put, List.setIfInBounds_toArray, List.set_cons_zero, List.set_cons_succ]
                        refine bqStep (fun K hK => ?_); go_simp
                        refine ⟨_, fun w' hw => calls_ext hw (hsa w' hw), hK _ ?_⟩; clear hK K
                        iterate 3 (refine bqStep (fun K hK => ?_); go_simp; first | (refine hK _ ?_; clear hK K) | (refine ⟨_, fun _ _ => rfl, hK _ ?_⟩; clear hK K))
                        refine bqNil (fun W5 hE5 => ?_)
                        try simp only [Act.put, List.setIfInBounds_toArray, List.set_cons_zero, List.set_cons_succ]
                        have hfv : Hid (tn = (x.ask.sameB y.ask)) := Lib.hid (by rw [htn'.out, matchB_eq, k5, k6, k7, k8]; rfl)
                        have hE8 := hE6.trans hE5
                        clear hsa xa ya y0 y1 y2 x0 x2 x3 x16
                        go_wp2_with fail
                        go_roundw
                        case rel => first | exact ⟨k + 1, (x.ask.sameB y.ask), by omega, rfl, by go_num, Lib.hid (by rw [hst.out, hfv.out]), hE8⟩ | ((repeat apply Exists.intro); exact ⟨⟨k + 1, (x.ask.sameB y.ask), by omega, rfl, by go_num, Lib.hid (by rw [hst.out, hfv.out]), hE8⟩, rfl⟩)
                        case measure => simp [intOf]; omega
                · have hlk : ¬ (k : Int) < (ln : Int) := by omega
                  have htt : Hid (tb = true) := Lib.hid (by rw [htb.out, List.take_of_length_le (by rw [← hln'.out]; omega)]; exact htaken'.out)
                  clear htb hlt2
                  have htb1 := htt.out
                  subst htb1
                  have hyr : wr.rangeAt gb (go + i * 11) y.itc := fun r u hu => hEk.cell (hry.out r u hu)
                  have y0 := hyr 0 _ rfl
                  rw [Nat.add_zero] at y0
                  have hwi : IntKind.u64.wrap (i : Int) = (i : Int) := by rw [IntKind.wrap_u64]; omega
                  have hwi1 : IntKind.u64.wrap ((i : Int) + 1) = (i : Int) + 1 := by rw [IntKind.wrap_u64]; omega
                  have hne : (y.idx != (i : Int) + 1) = false := by rw [hyi'.out]; simp
                  go_wp2_with fail
                  go_roundw
                  case rel => first | exact ⟨i + 1, by omega, by go_num, hEk⟩ | ((repeat apply Exists.intro); exact ⟨⟨i + 1, by omega, by go_num, hEk⟩, rfl⟩)
                  case measure => simp [intOf]; omega
            · have hli : ¬ (i : Int) < (N : Int) := by omega
              clear hlt
              have hE4 := hE3.trans hEr
              cases hm : (M == 4294967295) with
              | true =>
                go_wp2_with fail
                refine (lives_any wr).mono ?_
                rintro e w7 ⟨rfl, hE7⟩
                go_wp2_with fail
                go_ret
                exact ⟨rfl, hE4.trans hE7⟩
              | false =>
                have hm2 : M ≠ 4294967295 := fun h => by rw [h] at hm; exact Bool.noConfusion hm
                have hwM : IntKind.u32.wrap (M + 1) = M + 1 := by rw [IntKind.wrap_u32]; omega
                have hwc : IntKind.u64.wrap (cut : Int) = (cut : Int) := by rw [IntKind.wrap_u64]; omega
                have hR := hev'.out.1.ext hE4
                rw [← hln'.out] at hR
                have hR' := Lib.hid hR
                have hone : ∀ u ∈ l.flatMap Ev.cells, u.oneCell' = true := fun u hu => by
                  obtain ⟨x, _, hx⟩ := List.mem_flatMap.1 hu
                  exact ev_all x u hx
                have hone' := Lib.hid hone
                have hby1 : (0 + ln) * Try.prog.bytesOf 40 ≤ 140737488355328 := by
                  have h1 := event_bytes
                  have h2 := Nat.mul_le_mul (show 0 + ln ≤ 200 by omega) h1
                  omega
                have hby2 : (ln + 1) * Try.prog.bytesOf 40 ≤ 140737488355328 := by
                  have h1 := event_bytes
                  have h2 := Nat.mul_le_mul (show ln + 1 ≤ 200 by omega) h1
                  omega
                clear hR hone
                go_wp2_with (first | (refine wpList_bs_event (by rfl) (.tmp 121) (by rfl) (chainE (M + 1) cut) (by rfl) ?_) | (at_builtin; refine wpList_append_row (by rfl) (.const (.slice none 0 0)) (.tmp 115) 22 40 (by rfl) Try.underlying22 el_event wr wr.heap.size 0 [] _ (by rfl) (World.ownsRow_nil _ _ _ _) (.slice a ln cap) ln (l.flatMap Ev.cells) (by rfl) hR'.out hone'.out (by omega) hby1 (Nat.le_refl _) ?_; go_loud (intro v5 w5 hown5 hB5; rw [Nat.zero_add, List.nil_append] at hown5; have hC5 := OwnC.of_own hown5; obtain ⟨fa, fc, rfl, _⟩ := hC5.form; have hs5 := hB5.size; have hC5' := Lib.hid hC5; clear hC5 hown5)) | (at_builtin; (refine wpList_append_c (by rfl) (.tmp 116) (.tmp 122) 22 40 (by rfl) Try.underlying22 el_event w5 wr.heap.size ln _ (.slice fa ln fc) (by rfl) hC5'.out (chainE (M + 1) cut).row (by rfl) (by rfl) (ev_all _) (by omega) hby2 hs5 ?_); go_loud (intro v6 w6 hA; obtain ⟨fa6, fc6, rfl, _⟩ := hA.own.form; have hO6 := Lib.hid hA.own.row; have hE6 : Ext wr w6 := Below.trans hB5 hA.below; clear hA)) | fail)
                have hll : (l ++ [chainE (M + 1) cut]).length = ln + 1 := by rw [List.length_append, ← hln'.out]; rfl
                have hfm : (l ++ [chainE (M + 1) cut]).flatMap Ev.cells = l.flatMap Ev.cells ++ (chainE (M + 1) cut).row.toList := by rw [List.flatMap_append]; simp [Ev.cells]
                have hEw6 := hE4.trans hE6
                have hgood : ∀ x ∈ l ++ [chainE (M + 1) cut], x.good w6 := fun x hx => by
                  rcases List.mem_append.1 hx with hx | hx
                  · exact (hev'.out.2.2 x hx).ext hEw6
                  · rw [List.mem_singleton.1 hx]
                    exact chain_good w6 ⟨by omega, by omega⟩ hcut
                have hMx : ∀ x ∈ l, x.ep ≤ M := fun x hx => by rw [hM2.out]; exact (maxE_ge l).2 x hx
                have hl2 := log_any w6 (l ++ [chainE (M + 1) cut]) fa6 fc6 (by rw [hll, hfm]; exact hO6.out) (by rw [hll]; omega) hgood (chain_ck hC'.out.symm hMx hMb.1 cut)
                rw [hll] at hl2
                have hcl := Lib.hid (chain_log hMx cut)
                clear hll hfm hgood hMx
                refine hl2.mono ?_
                clear hl2
                rintro e w7 ⟨os2, ga2, rfl, hL2⟩
                obtain ⟨n, hn2⟩ : ∃ n, n = min N cut := ⟨_, rfl⟩
                have hnN : n ≤ N := by omega
                have hL2' := Lib.hid hL2
                have hE7 := hEw6.trans hL2.ext
                have hE37 := hEr.trans (hE6.trans hL2.ext)
                have hnc : (n : Int) ≤ (N : Int) := by omega
                have hn0 : 0 ≤ (n : Int) := by omega
                have htk := ((hL'.out.row).ext hE37).take (k := n) (by rw [← hN'.out]; exact hnN)
                rw [itc_take, ← hN'.out] at htk
                have hlt : (os.take n).length = n := by rw [List.length_take, ← hN'.out]; omega
                have hsm : os2.map Ev.strip = (os.take n).map Ev.strip := by
                  rw [hL2.same, hcl.out, ← hL'.out.same, ← List.map_take]
                  congr 1
                  rw [hn2, hN'.out]
                  by_cases h : os.length ≤ cut
                  · rw [Nat.min_eq_left h, List.take_of_length_le h, List.take_of_length_le (Nat.le_refl _)]
                  · rw [Nat.min_eq_right (by omega)]
                have hs := sitems_true w7 os2 (os.take n) ga2 ga _ N hsm hL2.row (by rw [hlt]; exact htk) hL2.ok (fun y hy => ⟨((hL'.out.ok y (List.mem_of_mem_take hy)).chs).ext hE37, (hL'.out.ok y (List.mem_of_mem_take hy)).good⟩)
                rw [hlt] at hs
                have hwct : IntKind.i64.wrap (cut : Int) = (cut : Int) := by rw [IntKind.wrap_i64]; omega
                have hmin : (if (cut : Int) < (N : Int) then (cut : Int) else (N : Int)) = (n : Int) := by split <;> omega
                have hmin2 : (if cut < N then (cut : Int) else (N : Int)) = (n : Int) := by split <;> omega
                have hmin3 : min (N : Int) (cut : Int) = (n : Int) := by omega
                have hs' := Lib.hid hs
                clear hL2 htk hsm hs hn2 hlt
                go_wp2_with fail
                refine hs'.out.mono ?_
                rintro e w8 ⟨rfl, hE8⟩
                go_wp2_with fail
                refine (lives_any w8).mono ?_
                rintro e w9 ⟨rfl, hE9⟩
                go_wp2_with fail
                go_ret
                exact ⟨rfl, hE7.trans (hE8.trans hE9)⟩
end Go.Proofs.Ytgbiifefpidebaa
