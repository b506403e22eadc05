/- ClientsPlay: the walk. No condition. -/
import Derived.Test.YtmopjmhapeinjaaGreatDoorGrB3
import Derived.Test.YtmopjmhapeinjaaGreatDoorGrD1
import Derived.Test.YtmopjmhapeinjaaGreatDoorCp0
import Derived.Test.YtmopjmhapeinjaaGreatDoorSs0
import Derived.Test.YtmopjmhapeinjaaGreatDoorCliLv
import Derived.Test.YtmopjmhapeinjaaGreatDoorGrC7
import Derived.Test.YtmopjmhapeinjaaGreatDoorTbW
import Derived.Deep.CutRange
import Derived.Deep.CutBlock
namespace Go.Proofs.YtmopjmhapeinjaaGreatDoor
open Go.RowKit
set_option maxRecDepth 100000
set_option maxHeartbeats 20000000
theorem act_one (c : Ac) : c.cells.toArray.all (·.oneCell') = true := by kernel_rfl
theorem info_act : (Tryz.prog.info? 65).map (·.size) = some 27 := by kernel_rfl
theorem row_rng {W : World} {g : Nat} {cs : List Value} {t : TypeId} (h : W.heap[g]? = some (.cells cs.toArray t (0, 0))) : W.rangeAt g 0 cs := fun j u hu => by
  rw [Nat.zero_add, cell_of_row _ _ j _ t (0, 0) h, ← hu]; simp
theorem arr_rng {W : World} {g : Nat} {cs : Array Value} {t : TypeId} (h : W.heap[g]? = some (.cells cs t (0, 0))) : W.rangeAt g 0 cs.toList := fun j u hu => by
  rw [Nat.zero_add, cell_of_row _ _ j _ t (0, 0) h, ← hu]; simp
theorem blk_off {W W' : World} {B : Nat → Prop} {X : Nat} {o : Obj} (h : W.heap[X]? = some o) (hO : OffB B W W') (hn : ¬ B X) : W'.heap[X]? = some o := (hO.block X (Array.getElem?_eq_some_iff.1 h).1 hn).trans h
theorem ac_asks {W : World} {X : Nat} {y : Ac} (h : W.heap[X]? = some (.cells y.cells.toArray 65 (0, 0))) : W.cell? ⟨X, 1, none⟩ = some (.int .u8 y.ask.kind) ∧ W.cell? ⟨X, 2, none⟩ = some (.string y.ask.key) ∧ W.cell? ⟨X, 3, none⟩ = some (.string y.ask.val) ∧ W.cell? ⟨X, 4, none⟩ = some (.string y.ask.old) ∧ W.cell? ⟨X, 5, none⟩ = some (.bool y.ask.new) ∧ W.cell? ⟨X, 6, none⟩ = some (.string y.ask.to) ∧ W.cell? ⟨X, 7, none⟩ = some (.int .i64 y.ask.many) ∧ W.cell? ⟨X, 8, none⟩ = some (.slice y.ad y.ask.chs.length y.cap) := by
  refine ⟨?_, ?_, ?_, ?_, ?_, ?_, ?_, ?_⟩ <;> (rw [cell_of_row _ _ _ _ 65 (0, 0) h]; rfl)
theorem ac_mss {W : World} {X : Nat} {y : Ac} (h : W.heap[X]? = some (.cells y.cells.toArray 65 (0, 0))) : W.cell? ⟨X, 11, none⟩ = some (.int .u8 y.ms.m.say) ∧ W.cell? ⟨X, 12, none⟩ = some (.int .u8 y.ms.m.fr) ∧ W.cell? ⟨X, 13, none⟩ = some (.int .u8 y.ms.m.to) ∧ W.cell? ⟨X, 14, none⟩ = some (.int .u32 y.ms.m.ep) ∧ W.cell? ⟨X, 15, none⟩ = some (.int .u8 y.ms.m.lv) ∧ W.cell? ⟨X, 16, none⟩ = some (.int .u32 y.ms.m.num) ∧ W.cell? ⟨X, 17, none⟩ = some (.int .u64 y.ms.m.ix) ∧ W.cell? ⟨X, 18, none⟩ = some (.int .u64 y.ms.m.sure) ∧ W.cell? ⟨X, 19, none⟩ = some (.slice y.ml.a8 y.ms.ch.length y.ml.c8) ∧ W.cell? ⟨X, 20, none⟩ = some (.slice y.ml.a9 y.ms.ha.length y.ml.c9) ∧ W.cell? ⟨X, 21, none⟩ = some (.slice y.ml.aI y.ms.it.length y.ml.cI) ∧ W.cell? ⟨X, 22, none⟩ = some (.slice y.ml.aR y.ms.ro.length y.ml.cR) ∧ W.cell? ⟨X, 23, none⟩ = some (.slice y.ml.aS y.ms.sa.length y.ml.cS) ∧ W.cell? ⟨X, 24, none⟩ = some (.int .i64 y.ms.e) ∧ W.cell? ⟨X, 25, none⟩ = some (.bool y.ms.yes) ∧ W.cell? ⟨X, 26, none⟩ = some (.slice y.ml.aY y.ms.rr.length y.ml.cY) := by
  refine ⟨?_, ?_, ?_, ?_, ?_, ?_, ?_, ?_, ?_, ?_, ?_, ?_, ?_, ?_, ?_, ?_⟩ <;> (rw [cell_of_row _ _ _ _ 65 (0, 0) h]; rfl)
theorem pb_turnC {K K' : Nat → Prop} {w0 w w' : World} {g n c id num : Nat} {s : Cst} (h : PlayB K w0 g n w) (hC : CHalf w0 w c id num s) (hO : OffB (fun k => k = c) w w') (hK : ∀ k, K' k → K k ∨ w.heap.size ≤ k ∧ k < w'.heap.size) : PlayB K' w0 g n w' := by
  obtain ⟨p, hp⟩ := hC.cl
  exact h.turn hO hp hC.1 noa_client hK
theorem pb_turnR {K K' : Nat → Prop} {w0 w w' : World} {g n r id num : Nat} {s : Cst} (h : PlayB K w0 g n w) (hR : RHalf w0 w r id num s) (hO : OffB (fun k => k = r) w w') (hK : ∀ k, K' k → K k ∨ w.heap.size ≤ k ∧ k < w'.heap.size) : PlayB K' w0 g n w' := by
  obtain ⟨_, _, _, _, hp⟩ := hR.rc
  exact h.turn hO hp hR.1 noa_rcl hK
/-- What waits has few changes. -/
def fewS (s : Cst) : Prop := ∀ x lv, s = some (x, lv) → x.chs.length ≤ 2000
theorem fewS_none : fewS none := fun _ _ h => by cases h
theorem fewS_ask {s : Cst} (h : fewS s) {x : Ak} (hx : x.chs.length ≤ 2000) (lv : Int) : fewS (askS s x lv) := by
  unfold askS
  split
  · split
    · exact h
    · intro x' lv' he
      injection he with he
      injection he with he _
      rw [← he]; exact hx
  · exact h
theorem fewS_came {s : Cst} (h : fewS s) (id num : Nat) (m : Mg) : fewS (cameS id num s m) := by
  unfold cameS
  split
  · exact fewS_none
  · exact h
theorem askNum_le (num : Nat) (s : Cst) (x : Ak) (lv : Int) : askNum num s x lv ≤ num + 1 := by
  unfold askNum
  split
  · split <;> omega
  · omega
theorem twc_offB {W W' : World} {base tb M tc b : Nat} {l : List Ch} (h : TwC W base tb M tc l) (hO : OffB (fun k => k = b) W W') (hne : tb ≠ b) : TwC W' base tb M tc l := OwnC.offB h hO (fun q hq hB => by
  injection hq with hq
  have hq : tb = q := hq
  have hB : q = b := hB
  omega)
theorem clientsPlay_walk (w : World) (hT : TabW w) (v0 : Value) (o0 : ∃ n, OKD Tryz.prog w n 5 [v0]) (v1 : Value) (o1 : ∃ n, OKD Tryz.prog w n 22 [v1]) : Calls Tryz.prog 3 #[v0, v1] w fun e w' => e = .returned (.bool true) ∧ Ext w w' := by
  obtain ⟨id, rfl, hid⟩ : ∃ id : Nat, v0 = .int .u8 (id : Int) ∧ id < 256 := by
    obtain ⟨n, h⟩ := o0
    obtain ⟨i, e, hw⟩ := okd_int Tryz.underlying5 h
    obtain ⟨m, rfl⟩ := Int.eq_ofNat_of_zero_le (wf_u8 hw).1
    simp at e
    exact ⟨m, e, by have := (wf_u8 hw).2; omega⟩
  obtain ⟨l, la, lc, rfl, hg, hr, hl⟩ := okd_acts o1
  clear o0 o1
  obtain ⟨N, hN0⟩ : ∃ N, N = l.length := ⟨_, rfl⟩
  rw [← hN0] at hr hl ⊢
  have hgr := Lib.hid (great_any w l la lc N hN0 hg hl hr)
  have hN := Lib.hid hN0
  have hg' := Lib.hid hg
  have hr' := Lib.hid hr
  have hT' := Lib.hid hT
  clear hN0 hg hr hT
  go_enter Tryz.func3, Tryz.ntmps3
  go_wp2_with fail
  refine hgr.out.mono ?_
  rintro e w1 ⟨rfl, hE1⟩
  clear hgr
  cases hgb : decide (2000 < gsum l)
  case true =>
    clear hgb
    go_wp2_with fail
    refine (clives_any w1).mono ?_
    rintro e w2 ⟨rfl, hE2⟩
    go_wp2_with fail
    go_ret
    exact ⟨rfl, hE1.trans hE2⟩
  have hno := great_no hgb
  rw [← hN.out] at hno
  have hch := Lib.hid hno.2.2
  have hgs := Lib.hid hno.1
  have hN2 := hno.2.1
  clear hno hgb
  by_cases hin : 1 ≤ id ∧ id ≤ 8
  case neg =>
    have hia : (id : Int) < 1 ∨ 8 < (id : Int) := by omega
    go_wp2_with fail
    refine (cnew_arg w1 id hia).mono ?_
    rintro e w2 ⟨rfl, rfl⟩
    go_wp2_with fail
    refine (rnew_arg w1 id hia).mono ?_
    rintro e w3 ⟨rfl, hE3⟩
    go_wp2_with fail
    refine (clives_any w3).mono ?_
    rintro e w4 ⟨rfl, hE4⟩
    go_wp2_with fail
    go_ret
    exact ⟨rfl, (hE1.trans hE3).trans hE4⟩
  obtain ⟨i1, i8⟩ := hin
  clear hid
  go_wp2_with fail
  refine (cnew_ok w1 id (by omega) (by omega)).mono ?_
  rintro e w2 ⟨rfl, hw2⟩
  have hE2 : Ext w1 w2 := by rw [hw2]; exact (Ext.refl _).alloc _
  obtain ⟨c, hc⟩ : ∃ c, c = w1.heap.size := ⟨_, rfl⟩
  have hC2 : Hid (CHalf w w2 c id 0 none) := Lib.hid ⟨by rw [hc]; exact hE1.size, by rw [hc, hw2]; exact heap_alloc_new w1 _⟩
  rw [← hc]
  clear hw2 hc
  go_wp2_with fail
  refine (rnew_ok w2 id (by omega) (by omega)).mono ?_
  rintro e w3 ⟨rfl, hR3, hE3⟩
  obtain ⟨r, hrr⟩ : ∃ r, r = w2.heap.size := ⟨_, rfl⟩
  have hX3 := (hE1.trans hE2).trans hE3
  have hR3' : Hid (RHalf w w3 r id 0 none) := Lib.hid ⟨by rw [hrr]; exact (hE1.trans hE2).size, _, _, _, by rw [hrr]; exact hR3⟩
  rw [← hrr]
  have hC3 := Lib.hid (hC2.out.ext hE3)
  clear hR3 hrr hC2 hE2 hE3
  obtain ⟨g, hg⟩ : ∃ g, Hid (g = w3.heap.size) := ⟨_, Lib.hid rfl⟩
  obtain ⟨W4, hW4⟩ : ∃ W, Hid (W = w3.alloc (.cells #[.int .i64 0, .slice none 0 0, .slice none 0 0, .slice none 0 0, .slice none 0 0, .slice none 0 0, .slice none 0 0, .slice none 0 0, .slice none 0 0, .slice none 0 0, .slice none 0 0, .slice none 0 0, .slice none 0 0, .slice none 0 0] 46)) := ⟨_, Lib.hid rfl⟩
  have hE4 : Ext w3 W4 := by rw [hW4.out]; exact (Ext.refl _).alloc _
  have hX4 := hX3.trans hE4
  have hP4 : Hid (PlayB (fun _ => False) w g 0 W4) := Lib.hid ⟨fun k => k = g, hX4, BkZ.start (by rw [hW4.out, hg.out]; exact heap_alloc_new w3 _) (by rw [hg.out]; exact hX3.size) (fun W hW => tabW_ext hT'.out (Below.trans hX4 hW)), fun k hk => hk.elim⟩
  have hC4 := Lib.hid (hC3.out.ext hE4)
  have hR4 := Lib.hid (hR3'.out.ext hE4)
  go_upto_region 10 with fail
  rw [← hg.out, ← hW4.out]
  clear hW4 hE4 hX3 hC3 hR3'
  go_wp2_with fail
  go_loopw [10] (fun i wr => ∃ (k n num : Nat) (s : Cst), k ≤ N ∧ i = .int .i64 k ∧ num ≤ k ∧ Hid (n ≤ 8 * gsum (l.take k)) ∧ Hid (fewS s) ∧ Hid (CHalf w wr c id num s) ∧ Hid (RHalf w wr r id num s) ∧ Hid (PlayB (fun _ => False) w g n wr)) (fun i _ => N - (intOf i).toNat)
  case atStart => exact ⟨0, 0, 0, none, by omega, rfl, by omega, Lib.hid (Nat.zero_le _), Lib.hid fewS_none, hC4, hR4, hP4⟩
  case round =>
    clear hP4 hX4 hE1 hC4 hR4
    obtain ⟨k, n, num, s, hk, rfl, hnk, hns, hfs, hC, hR, hP⟩ := hrel
    by_cases hlt : k < N
    · have hli : (k : Int) < (N : Int) := by omega
      have hE := Lib.hid hP.out.grown
      obtain ⟨y, hy⟩ : ∃ y, l[k]? = some y := ⟨_, List.getElem?_eq_getElem (by rw [← hN.out]; exact hlt)⟩
      have hym := Lib.hid (List.mem_of_getElem? hy)
      have htk : Hid (gsum (l.take (k + 1)) = gsum (l.take k) + gOf y) := Lib.hid (by rw [List.take_add_one, hy]; exact gsum_snoc _ _)
      have hn16 : n ≤ 16000 := by have := hns.out; have := gsum_le l k; have := hgs.out; omega
      obtain ⟨b, off, hat⟩ := (hr'.out.ext hE.out).at
      obtain ⟨rfl, _, hd⟩ := hat (by omega)
      have hrg := acs_range (by rw [← hN.out]; exact hd) hy
      obtain ⟨X, hX⟩ : ∃ X, Hid (X = wr.heap.size) := ⟨_, Lib.hid rfl⟩
      obtain ⟨V, hV⟩ : ∃ W, Hid (W = wr.alloc (.cells y.cells.toArray 65)) := ⟨_, Lib.hid rfl⟩
      have hrX : Hid (V.heap[X]? = some (.cells y.cells.toArray 65 (0, 0))) := Lib.hid (by rw [hV.out, hX.out]; exact heap_alloc_new wr _)
      have hEV : Ext wr V := by rw [hV.out]; exact (Ext.refl _).alloc _
      clear hat hd hy
      go_upto_region 14 with (first | (refine wpList_load_mid (by rfl) 65 (.tmp 61) (by rfl) b (off + k * 27) (by rfl) y.cells _ hrg Tryz.underlying65 rfl (by exact info_act) ?_) | (refine wpList_store_whole (by rfl) 65 (.tmp 11) (.tmp 62) (by rfl) wr _ y.cells.toArray wr.heap.size (by rfl) rfl (by rfl) (by exact info_act) (by rfl) (act_one y) ?_; rw [← hV.out, ← hX.out]) | fail)
      have hXc : Hid (c < X ∧ r < X ∧ V.heap.size = X + 1) := Lib.hid (by
        obtain ⟨_, h1⟩ := hC.out.cl
        obtain ⟨_, _, _, _, h2⟩ := hR.out.rc
        have h3 := (Array.getElem?_eq_some_iff.1 h1).1
        have h4 := (Array.getElem?_eq_some_iff.1 h2).1
        rw [hV.out, hX.out]
        exact ⟨h3, h4, by simp⟩)
      have hCV := Lib.hid (hC.out.ext hEV)
      have hRV := Lib.hid (hR.out.ext hEV)
      have hPV := Lib.hid (hP.out.ext hEV)
      have hEVw := Lib.hid (hE.out.trans hEV)
      clear hrg hV hX hEV hC hR hP hE
      simp only [Act.put]
      have y0 := ac_kind (row_rng hrX.out)
      go_upto_block 2 with fail
      clear y0
      go_cut [12, 13, 14, 15, 16, 17, 18, 19, 20, 21, 22] from 63 to 160 (fun _ _ _ _ _ _ _ _ _ _ _ wx => ∃ (n' num' : Nat) (s' : Cst), num' ≤ num + 1 ∧ Hid (n' ≤ n + 8 * gOf y) ∧ Hid (fewS s') ∧ Hid (CHalf w wx c id num' s') ∧ Hid (RHalf w wx r id num' s') ∧ Hid (PlayB (fun _ => False) w g n' wx))
      case first =>
        have hgy := hg'.out y hym.out
        obtain ⟨hc1, hc2, hc3, hc4, hc5⟩ := hch.out y hym.out
        by_cases k01 : y.kind % 6 = 0 ∨ y.kind % 6 = 1
        · have kk : (y.kind : Int) % 6 = 0 ∨ (y.kind : Int) % 6 = 1 := by omega
          obtain ⟨M, hM0⟩ : ∃ M, M = y.ask.chs.length := ⟨_, rfl⟩
          have hM := Lib.hid hM0
          rw [← hM0] at hc1
          have hsm := hgy.ask.2.1
          have hA0 := Lib.hid hgy.ask.1
          have hcA : Hid (∀ W, Ext w W → ChsAt W y.ask.chs y.ad y.cap) := Lib.hid (fun W hW => hA0.out.ext hW)
          have hra := ac_ask (row_rng hrX.out)
          rw [Nat.zero_add, ← hM.out] at hra
          have htw := Lib.hid (twinA_any V y.ask y.ad y.cap M hM.out (by rw [hM.out]; exact (hcA.out V hEVw.out).1) (by omega))
          have hgo : Hid (1 ≤ gOf y) := Lib.hid (by unfold gOf; omega)
          unfold Ak.row at htw hra
          clear k01 hM0 hgy hc2 hc3
          rcases kk with kk | kk
          all_goals
            go_wp2_with (first | (refine wpList_load_mid (by rfl) 50 (.tmp 102) (by rfl) X 1 (by rfl) _ _ hra Tryz.underlying50 rfl (by exact info_ask) ?_) | fail)
            refine htw.out.mono ?_
            rintro e w8 ⟨tb, tc, rfl, hT8, hE8⟩
            have hT8' := Lib.hid hT8
            clear hT8 htw hra
            obtain ⟨X8, hX8⟩ : ∃ X, Hid (X = w8.heap.size) := ⟨_, Lib.hid rfl⟩
            obtain ⟨V8, hV8⟩ : ∃ W, Hid (W = w8.alloc (.cells (y.ask.row (.slice (some ⟨tb, 0, none⟩) M tc)) 50)) := ⟨_, Lib.hid rfl⟩
            have hr8 : Hid (V8.heap[X8]? = some (.cells (y.ask.row (.slice (some ⟨tb, 0, none⟩) M tc)) 50 (0, 0))) := Lib.hid (by rw [hV8.out, hX8.out]; exact heap_alloc_new w8 _)
            have hE8v : Ext w8 V8 := by rw [hV8.out]; exact (Ext.refl _).alloc _
            go_upto_region 24 with (first | (refine wpList_store_whole (by rfl) 50 (.tmp 12) (.tmp 104) (by rfl) w8 _ (y.ask.row (.slice (some ⟨tb, 0, none⟩) M tc)) w8.heap.size (by rfl) rfl (by rfl) (by exact info_ask) (by rfl) (ask_one _ _ _ _) ?_; rw [← hV8.out, ← hX8.out]) | fail)
            have hE8V := hE8.trans hE8v
            have hr7 := Lib.hid (hE8V.row hrX.out)
            have hC8 := Lib.hid (hCV.out.ext hE8V)
            have hR8 := Lib.hid (hRV.out.ext hE8V)
            have hT := Lib.hid (hT8'.out.ext hE8v)
            have htb := OwnC.lt hT8'.out tb rfl
            have hne : Hid (tb ≠ c ∧ tb ≠ r ∧ X8 ≠ c ∧ X8 ≠ r ∧ X ≠ c ∧ X ≠ r) := Lib.hid (by
              have h1 := hXc.out
              have h2 := hX8.out
              have h3 := hE8.size
              omega)
            have hP8 : Hid (PlayB (fun q => q = tb) w g n V8) := Lib.hid (hPV.out.more hE8V (fun q hq => .inr (by
              have h2 := hE8v.size
              rw [hq]
              exact ⟨by omega, by omega⟩)))
            have hcT : ∀ W base, TwC W base tb M tc y.ask.chs → ChsAt W y.ask.chs (some ⟨tb, 0, none⟩) tc := fun W base h => ⟨by rw [← hM.out]; exact (h.own hM.out).row, by rw [← hM.out]; omega, hA0.out.2.2⟩
            have cS := c_ask hC8.out hP8.out.grown i1 (by omega) y.ask (some ⟨tb, 0, none⟩) tc (y.lv : Int) (hcT _ _ hT.out) (fun w' hO => hcT _ _ (twc_offB hT.out hO hne.out.1)) hsm
            rw [← hM.out] at cS
            have hT' := Lib.hid hcT
            clear hcT hT8' hE8 hE8v hX8 hV8 htb
            obtain ⟨A, hA⟩ : ∃ A, A = askN num s y.ask (y.lv : Int) := ⟨_, rfl⟩
            obtain ⟨G, hG⟩ : ∃ G, G = askE s y.ask (y.lv : Int) := ⟨_, rfl⟩
            rw [← hA, ← hG] at cS
            have cS' := Lib.hid cS
            have hAG := Lib.hid (And.intro hA hG)
            have hrg8 := arr_rng hr8.out
            have ylv := ac_lv (row_rng hr7.out)
            rw [Nat.zero_add] at ylv
            unfold Ak.row at cS' hrg8
            clear cS hA hG
            go_wp2_with (first | (refine wpList_load_mid (by rfl) 50 (.tmp 12) (by rfl) X8 0 (by rfl) _ _ hrg8 Tryz.underlying50 rfl (by exact info_ask) ?_) | fail)
            refine cS'.out.mono ?_
            rintro e w9 ⟨rfl, hC9, hO9⟩
            have hr7b := Lib.hid (blk_off hr7.out hO9 hne.out.2.2.2.2.1)
            have hr8b := Lib.hid (blk_off hr8.out hO9 hne.out.2.2.1)
            have hT9 := Lib.hid (twc_offB hT.out hO9 hne.out.1)
            have hR9 := Lib.hid (hR8.out.offC hC8.out hO9)
            have hP9 := Lib.hid (pb_turnC (K' := fun q => q = tb) hP8.out hC8.out hO9 (fun q hq => .inl hq))
            have hC9' := Lib.hid hC9
            clear hC9 hO9 cS' hrg8 ylv hr7 hr8 hT hR8 hP8 hC8
            have cR := r_ask hR9.out (by omega) y.ask y.ad y.cap (y.lv : Int) hA0.out (hcA.out w9 hP9.out.grown) hsm
            rw [← hM.out, ← hAG.out.1, ← hAG.out.2] at cR
            have cR' := Lib.hid cR
            have hra := ac_ask (row_rng hr7b.out)
            rw [Nat.zero_add, ← hM.out] at hra
            have ylv := ac_lv (row_rng hr7b.out)
            rw [Nat.zero_add] at ylv
            unfold Ak.row at cR' hra
            clear cR
            go_wp2_with (first | (refine wpList_load_mid (by rfl) 50 (.tmp 115) (by rfl) X 1 (by rfl) _ _ hra Tryz.underlying50 rfl (by exact info_ask) ?_) | fail)
            refine cR'.out.mono ?_
            rintro e w10 ⟨rfl, hR10, hO10⟩
            have hr7c := Lib.hid (blk_off hr7b.out hO10 hne.out.2.2.2.2.2)
            have hr8c := Lib.hid (blk_off hr8b.out hO10 hne.out.2.2.2.1)
            have hT10 := Lib.hid (twc_offB hT9.out hO10 hne.out.2.1)
            have hC10 := Lib.hid (hC9'.out.offR hR9.out hO10)
            have hP10 := Lib.hid (pb_turnR (K' := fun q => q = tb) hP9.out hR9.out hO10 (fun q hq => .inl hq))
            have hR10' := Lib.hid hR10
            clear hR10 hO10 cR' hra ylv hr7b hr8b hT9 hR9 hP9 hC9'
            have q4 := Lib.hid (leftA_any w10 y.ask y.ad y.cap M _ tb tc hM.out (by rw [hM.out]; exact (hcA.out w10 hP10.out.grown).1) (by omega) hT10.out)
            obtain ⟨u1, u2, u3, u4, u5, u6, u7, u8⟩ := ac_asks hr7c.out
            rw [← hM.out] at u8
            obtain ⟨t0, t1, t2, t3, t4, t5, t6, t7⟩ := askc hr8c.out
            unfold Ak.row at q4
            go_wp2_with fail
            refine q4.out.mono ?_
            rintro e w11 ⟨rfl, hE11⟩
            clear q4 u1 u2 u3 u4 u5 u6 u7 u8 t0 t1 t2 t3 t4 t5 t6 t7
            have hVw := hP10.out.grown.size
            have hTl := OwnC.lt hT10.out tb rfl
            have kp := Lib.hid (pb_ask (K' := fun _ => False) (hP10.out.ext hE11) (fun _ h => h.elim) (by omega) y.ask (some ⟨tb, 0, none⟩) M tc _ (((hT10.out.ext hE11).own hM.out).weak hEVw.out.size) (by omega) (fun q hq => by injection hq with hq; exact hq.symm) (fun _ h => h.elim))
            have hrg8 := arr_rng (hE11.row hr8c.out)
            unfold Ak.row at kp hrg8
            clear hVw hTl
            go_wp2_with (first | (refine wpList_load_mid (by rfl) 50 (.tmp 12) (by rfl) X8 0 (by rfl) _ _ hrg8 Tryz.underlying50 rfl (by exact info_ask) ?_) | fail)
            refine kp.out.mono ?_
            rintro e w12 ⟨rfl, hP12, hO12⟩
            have hP12' := Lib.hid hP12
            have hC12 := Lib.hid ((hC10.out.ext hE11).mut hO12)
            have hR12 := Lib.hid ((hR10'.out.ext hE11).mut hO12)
            clear hP12 hO12 kp hrg8
            go_wp2_with fail
            go_meet
            exact ⟨n + 1, askNum num s y.ask (y.lv : Int), askS s y.ask (y.lv : Int), askNum_le _ _ _ _, Lib.hid (by have := hgo.out; omega), Lib.hid (fewS_ask hfs.out (by rw [← hM.out]; exact hc1) _), hC12, hR12, hP12'⟩
        · by_cases k5 : y.kind % 6 = 5
          · have k5i : (y.kind : Int) % 6 = 5 := by omega
            have q1 := Lib.hid (c_drops hCV.out i1)
            clear k01 k5 hgy hc1 hc2 hc3
            go_wp2_with fail
            refine q1.out.mono ?_
            rintro e w9 ⟨rfl, hC9, hO9⟩
            have hR9 := Lib.hid (hRV.out.offC hCV.out hO9)
            have hP9 := Lib.hid (pb_turnC (K' := fun _ => False) hPV.out hCV.out hO9 (fun _ h => h.elim))
            have hC9' := Lib.hid hC9
            have q2 := Lib.hid (r_drops hR9.out)
            clear hC9 hO9 q1
            go_wp2_with fail
            refine q2.out.mono ?_
            rintro e w10 ⟨rfl, hR10, hO10⟩
            have hC10 := Lib.hid (hC9'.out.offR hR9.out hO10)
            have hP10 := Lib.hid (pb_turnR (K' := fun _ => False) hP9.out hR9.out hO10 (fun _ h => h.elim))
            have hR10' := Lib.hid hR10
            clear hR10 hO10 q2
            go_wp2_with fail
            go_meet
            exact ⟨n, num, none, by omega, Lib.hid (by omega), Lib.hid fewS_none, hC10, hR10', hP10⟩
          · by_cases k2 : y.kind % 6 = 2
            · have k2i : (y.kind : Int) % 6 = 2 := by omega
              have hgo : Hid (1 ≤ gOf y) := Lib.hid (by unfold gOf; omega)
              have hto := Lib.hid (fun W (hE : Ext V W) => ac_to (row_rng (hE.row hrX.out)))
              clear k01 k5 k2 hgy hc1 hc2 hc3
              cases s with
              | none =>
                have q1 := Lib.hid (c_sends0 hCV.out i1 (y.dst : Int))
                have yto := hto.out V (Ext.refl _)
                rw [Nat.zero_add] at yto
                go_wp2_with fail
                refine q1.out.mono ?_
                rintro e w9 ⟨rfl, hE9⟩
                have q2 := Lib.hid (r_sends0 (hRV.out.ext hE9) (y.dst : Int))
                clear q1 yto
                have yto := hto.out w9 hE9
                rw [Nat.zero_add] at yto
                go_wp2_with fail
                refine q2.out.mono ?_
                rintro e w10 ⟨rfl, hE10⟩
                clear q2 yto
                go_wp2_with fail
                refine (smsgs0 w10).mono ?_
                rintro e w11 ⟨rfl, hE11⟩
                have hX11 := (hE9.trans hE10).trans hE11
                have kp := Lib.hid (pb_msgs0 (K' := fun _ => False) (hPV.out.ext hX11) (fun _ h => h.elim) (by omega))
                go_wp2_with fail
                refine kp.out.mono ?_
                rintro e w12 ⟨rfl, hP12, hO12⟩
                have hP12' := Lib.hid hP12
                have hC12 := Lib.hid ((hCV.out.ext hX11).mut hO12)
                have hR12 := Lib.hid ((hRV.out.ext hX11).mut hO12)
                clear hP12 hO12 kp
                go_wp2_with fail
                go_meet
                exact ⟨n + 1, num, none, by omega, Lib.hid (by have := hgo.out; omega), hfs, hC12, hR12, hP12'⟩
              | some xl =>
                obtain ⟨x, lv⟩ := xl
                have hxf := hfs.out x lv rfl
                have q1 := Lib.hid (c_sends1 hCV.out i1 i8 (y.dst : Int))
                have yto := hto.out V (Ext.refl _)
                rw [Nat.zero_add] at yto
                go_wp2_with fail
                refine q1.out.mono ?_
                rintro e w9 ⟨gm, rfl, hS9, hE9⟩
                obtain ⟨gi, ga, hm9, hgm, hMO, hIt, hCh⟩ := hS9.msO
                have hSS := Lib.hid (And.intro hm9 (And.intro hgm (And.intro hMO (And.intro hIt hCh))))
                have q2 := Lib.hid (r_sends1 (hRV.out.ext hE9) i1 i8 (y.dst : Int))
                clear q1 yto hS9 hm9 hgm hMO hIt hCh
                have yto := hto.out w9 hE9
                rw [Nat.zero_add] at yto
                go_wp2_with fail
                refine q2.out.mono ?_
                rintro e w10 ⟨g2, a2, cap2, rfl, ⟨gi2, hm2, hi2⟩, hx2, hE10⟩
                have hX10 := hE9.trans hE10
                have q3 := Lib.hid (smsgs1 w10 id (y.dst : Int) lv num x ga a2 x.chs.length cap2 1 rfl (some ⟨gi, 0, none⟩) (some ⟨gi2, 0, none⟩) 1 1 (hSS.out.2.2.2.1.ext hE10) (own_one hi2 (Nat.zero_le _)).row 1 rfl (some ⟨gm, 0, none⟩) (some ⟨g2, 0, none⟩) 1 1 ((own_one hSS.out.1 hSS.out.2.1).row.ext hE10) (own_one hm2 (Nat.zero_le _)).row (hSS.out.2.2.2.2.ext hE10) (hx2.1.ext (hEVw.out.trans hX10)))
                clear q2 yto hm2 hi2 hx2
                go_wp2_with fail
                refine q3.out.mono ?_
                rintro e w11 ⟨rfl, hE11⟩
                have hX11 := hX10.trans hE11
                have hE911 := hE10.trans hE11
                have hPm : PlayB (fun q => blkM (sMs id num lv (y.dst : Int) x ga) (sMl gi) [sIt id num x ga] [] q ∨ q = gm) w g n w11 := hPV.out.more hX11 (fun q hq => .inr (by
                  have hz := hE911.size
                  rcases hq with hq | hq
                  · have := hSS.out.2.2.1.blk hq
                    omega
                  · have h1 := (Array.getElem?_eq_some_iff.1 hSS.out.1).1
                    have h2 := hSS.out.2.1
                    rw [hq]
                    omega))
                have kp := Lib.hid (pb_msgs1 (K' := fun _ => False) hPm (fun _ h => h.elim) (sMs id num lv (y.dst : Int) x ga) (sMl gi) [sIt id num x ga] [] ((hSS.out.2.2.1.weak hEVw.out.size).ext hE911) (sMs_few id num lv (y.dst : Int) x ga (by omega)) (by show 1 ≤ 3000; omega) (Nat.zero_le _) (fun z hz => by rw [List.mem_singleton.1 hz]; show x.chs.length ≤ 1000000; omega) (fun _ hz => nomatch hz) (by omega) gm (hE911.row hSS.out.1) (Nat.le_trans hEVw.out.size hSS.out.2.1) (fun q hq => .inl hq) (.inr rfl) (fun _ h => h.elim))
                clear q3 hPm
                go_wp2_with fail
                refine kp.out.mono ?_
                rintro e w12 ⟨rfl, hP12, hO12⟩
                have hP12' := Lib.hid hP12
                have hC12 := Lib.hid ((hCV.out.ext hX11).mut hO12)
                have hR12 := Lib.hid ((hRV.out.ext hX11).mut hO12)
                clear hP12 hO12 kp
                go_wp2_with fail
                go_meet
                exact ⟨_, num, some (x, lv), by omega, Lib.hid (by have := hgo.out; show n + 1 + 0 + 6 + 1 ≤ _; omega), hfs, hC12, hR12, hP12'⟩
            · have k0i : ¬ (y.kind : Int) % 6 = 0 := by omega
              have k1i : ¬ (y.kind : Int) % 6 = 1 := by omega
              have k2i : ¬ (y.kind : Int) % 6 = 2 := by omega
              have k5i : ¬ (y.kind : Int) % 6 = 5 := by omega
              have hA0 := Lib.hid hgy.ms
              have hrm := ac_ms (row_rng hrX.out)
              rw [Nat.zero_add] at hrm
              have htw := Lib.hid (twinM_any V y.ms y.ml (hA0.out.ext hEVw.out) hc2)
              have hc2' := Lib.hid hc2
              unfold Ms.arr Ms.row Mg.row at htw hrm
              clear k01 k2 k5 hgy hc1
              go_wp2_with (first | (refine wpList_load_mid (by rfl) 63 (.tmp 66) (by rfl) X 11 (by rfl) _ _ hrm Tryz.underlying63 rfl (by exact info_msg) ?_) | fail)
              refine htw.out.mono ?_
              rintro e w8 ⟨it', sa', b8, d8, b9, d9, bI, dI, bR, dR, bS, dS, bY, dY, rfl, hT8, hE8⟩
              obtain ⟨Q, hQ⟩ : ∃ Q : Ml, Hid (Q = ⟨some ⟨b8, 0, none⟩, d8, some ⟨b9, 0, none⟩, d9, some ⟨bI, 0, none⟩, dI, some ⟨bR, 0, none⟩, dR, some ⟨bS, 0, none⟩, dS, some ⟨bY, 0, none⟩, dY⟩) := ⟨_, Lib.hid rfl⟩
              have hT8' := Lib.hid hT8
              clear hT8 htw hrm
              obtain ⟨X8, hX8⟩ : ∃ X, Hid (X = w8.heap.size) := ⟨_, Lib.hid rfl⟩
              obtain ⟨V8, hV8⟩ : ∃ W, Hid (W = w8.alloc (.cells (y.ms.arr ⟨some ⟨b8, 0, none⟩, d8, some ⟨b9, 0, none⟩, d9, some ⟨bI, 0, none⟩, dI, some ⟨bR, 0, none⟩, dR, some ⟨bS, 0, none⟩, dS, some ⟨bY, 0, none⟩, dY⟩) 63)) := ⟨_, Lib.hid rfl⟩
              have hr8 : Hid (V8.heap[X8]? = some (.cells (y.ms.arr ⟨some ⟨b8, 0, none⟩, d8, some ⟨b9, 0, none⟩, d9, some ⟨bI, 0, none⟩, dI, some ⟨bR, 0, none⟩, dR, some ⟨bS, 0, none⟩, dS, some ⟨bY, 0, none⟩, dY⟩) 63 (0, 0))) := Lib.hid (by rw [hV8.out, hX8.out]; exact heap_alloc_new w8 _)
              have hE8v : Ext w8 V8 := by rw [hV8.out]; exact (Ext.refl _).alloc _
              go_upto_region 16 with (first | (refine wpList_store_whole (by rfl) 63 (.tmp 18) (.tmp 68) (by rfl) w8 _ (y.ms.arr ⟨some ⟨b8, 0, none⟩, d8, some ⟨b9, 0, none⟩, d9, some ⟨bI, 0, none⟩, dI, some ⟨bR, 0, none⟩, dR, some ⟨bS, 0, none⟩, dS, some ⟨bY, 0, none⟩, dY⟩) w8.heap.size (by rfl) rfl (by rfl) (by exact info_msg) (by rfl) (arr_one _ _) ?_; rw [← hV8.out, ← hX8.out]) | fail)
              have hE8V := hE8.trans hE8v
              have hr7 := Lib.hid (hE8V.row hrX.out)
              have hC8 := Lib.hid (hCV.out.ext hE8V)
              have hR8 := Lib.hid (hRV.out.ext hE8V)
              have hT := Lib.hid (hT8'.out.ext hE8v)
              have hne : Hid (c < V.heap.size ∧ r < V.heap.size ∧ X8 ≠ c ∧ X8 ≠ r ∧ X ≠ c ∧ X ≠ r) := Lib.hid (by
                have h1 := hXc.out
                have h2 := hX8.out
                have h3 := hE8.size
                omega)
              have hP8 : Hid (PlayB (blkM y.ms ⟨some ⟨b8, 0, none⟩, d8, some ⟨b9, 0, none⟩, d9, some ⟨bI, 0, none⟩, dI, some ⟨bR, 0, none⟩, dR, some ⟨bS, 0, none⟩, dS, some ⟨bY, 0, none⟩, dY⟩ it' sa') w g n V8) := Lib.hid (hPV.out.more hE8V (fun q hq => .inr (hT.out.msO.blk hq)))
              have cS : Calls Tryz.prog _ #[.pointer (some ⟨c, 0, none⟩), .agg (y.ms.arr ⟨some ⟨b8, 0, none⟩, d8, some ⟨b9, 0, none⟩, d9, some ⟨bI, 0, none⟩, dI, some ⟨bR, 0, none⟩, dR, some ⟨bS, 0, none⟩, dS, some ⟨bY, 0, none⟩, dY⟩)] V8 _ := c_came hC8.out i1 i8 y.ms.m _ _ _ _ _ _ _ _
              obtain ⟨A, hA⟩ : ∃ A, A = cameB id num s y.ms.m := ⟨_, rfl⟩
              obtain ⟨G, hG⟩ : ∃ G, G = cameE id y.ms.m := ⟨_, rfl⟩
              rw [← hA, ← hG] at cS
              have cS' := Lib.hid cS
              have hAG := Lib.hid (And.intro hA hG)
              have hrg8 := arr_rng hr8.out
              unfold Ms.arr Ms.row Mg.row at cS' hrg8
              clear cS hA hG hT8' hE8 hE8v hX8 hV8
              go_wp2_with (first | (refine wpList_load_mid (by rfl) 63 (.tmp 18) (by rfl) X8 0 (by rfl) _ _ hrg8 Tryz.underlying63 rfl (by exact info_msg) ?_) | fail)
              refine cS'.out.mono ?_
              rintro e w9 ⟨rfl, hC9, hO9⟩
              have hr7b := Lib.hid (blk_off hr7.out hO9 hne.out.2.2.2.2.1)
              have hr8b := Lib.hid (blk_off hr8.out hO9 hne.out.2.2.1)
              have hT9 := Lib.hid (hT.out.offX hO9 hne.out.1)
              have hR9 := Lib.hid (hR8.out.offC hC8.out hO9)
              have hP9 := Lib.hid (pb_turnC (K' := blkM y.ms ⟨some ⟨b8, 0, none⟩, d8, some ⟨b9, 0, none⟩, d9, some ⟨bI, 0, none⟩, dI, some ⟨bR, 0, none⟩, dR, some ⟨bS, 0, none⟩, dS, some ⟨bY, 0, none⟩, dY⟩ it' sa') hP8.out hC8.out hO9 (fun q hq => .inl hq))
              have hC9' := Lib.hid hC9
              clear hC9 hO9 cS' hrg8 hr7 hr8 hT hR8 hP8 hC8
              have cR : Calls Tryz.prog _ #[.pointer (some ⟨r, 0, none⟩), .agg (y.ms.arr y.ml)] w9 _ := r_came hR9.out i1 i8 y.ms.m _ _ _ _ _ _ _ _
              rw [← hAG.out.1, ← hAG.out.2] at cR
              have cR' := Lib.hid cR
              have hrm := ac_ms (row_rng hr7b.out)
              rw [Nat.zero_add] at hrm
              unfold Ms.arr Ms.row Mg.row at cR' hrm
              clear cR
              go_wp2_with (first | (refine wpList_load_mid (by rfl) 63 (.tmp 77) (by rfl) X 11 (by rfl) _ _ hrm Tryz.underlying63 rfl (by exact info_msg) ?_) | fail)
              refine cR'.out.mono ?_
              rintro e w10 ⟨rfl, hR10, hO10⟩
              have hr7c := Lib.hid (blk_off hr7b.out hO10 hne.out.2.2.2.2.2)
              have hr8c := Lib.hid (blk_off hr8b.out hO10 hne.out.2.2.2.1)
              have hT10 := Lib.hid (hT9.out.offX hO10 hne.out.2.1)
              have hC10 := Lib.hid (hC9'.out.offR hR9.out hO10)
              have hP10 := Lib.hid (pb_turnR (K' := blkM y.ms ⟨some ⟨b8, 0, none⟩, d8, some ⟨b9, 0, none⟩, d9, some ⟨bI, 0, none⟩, dI, some ⟨bR, 0, none⟩, dR, some ⟨bS, 0, none⟩, dS, some ⟨bY, 0, none⟩, dY⟩ it' sa') hP9.out hR9.out hO10 (fun q hq => .inl hq))
              have hR10' := Lib.hid hR10
              clear hR10 hO10 cR' hrm hr7b hr8b hT9 hR9 hP9 hC9'
              have q4 := Lib.hid (leftM_any w10 y.ms y.ml (hA0.out.ext hP10.out.grown) hc2'.out _ it' sa' b8 d8 b9 d9 bI dI bR dR bS dS bY dY hT10.out)
              unfold Ms.arr Ms.row Mg.row at q4
              obtain ⟨u0, u1, u2, u3, u4, u5, u6, u7, u8, u9, u10, u11, u12, u13, u14, u15⟩ := ac_mss hr7c.out
              obtain ⟨t0, t1, t2, t3, t4, t5, t6, t7, t8, t9, t10, t11, t12, t13, t14, t15⟩ := ms_cells hr8c.out
              go_wp2_with fail
              refine q4.out.mono ?_
              rintro e w11 ⟨rfl, hE11⟩
              clear q4 u0 u1 u2 u3 u4 u5 u6 u7 u8 u9 u10 u11 u12 u13 u14 u15 t0 t1 t2 t3 t4 t5 t6 t7 t8 t9 t10 t11 t12 t13 t14 t15
              have kp := Lib.hid (pb_msg (K' := fun _ => False) (hP10.out.ext hE11) (fun _ h => h.elim) y.ms ⟨some ⟨b8, 0, none⟩, d8, some ⟨b9, 0, none⟩, d9, some ⟨bI, 0, none⟩, dI, some ⟨bR, 0, none⟩, dR, some ⟨bS, 0, none⟩, dS, some ⟨bY, 0, none⟩, dY⟩ it' sa' (((hT10.out.ext hE11).msO).weak hEVw.out.size) hc2'.out (by omega) (by omega) (twI_ask hT10.out.itb (fun z hz => by have := hc2'.out.its z hz; omega)) (twS_rows hT10.out.sab (fun z hz => by have := hc2'.out.sas z hz; omega)) (by omega) (fun q hq => hq) (fun _ h => h.elim))
              have hrg8 := arr_rng (hE11.row hr8c.out)
              unfold Ms.arr Ms.row Mg.row at kp hrg8
              go_wp2_with (first | (refine wpList_load_mid (by rfl) 63 (.tmp 18) (by rfl) X8 0 (by rfl) _ _ hrg8 Tryz.underlying63 rfl (by exact info_msg) ?_) | fail)
              refine kp.out.mono ?_
              rintro e w12 ⟨rfl, hP12, hO12⟩
              have hP12' := Lib.hid hP12
              have hC12 := Lib.hid ((hC10.out.ext hE11).mut hO12)
              have hR12 := Lib.hid ((hR10'.out.ext hE11).mut hO12)
              clear hP12 hO12 kp hrg8
              go_wp2_with fail
              go_meet
              exact ⟨_, num, cameS id num s y.ms.m, by omega, Lib.hid (by have := hc3; omega), Lib.hid (fewS_came hfs.out _ _ _), hC12, hR12, hP12'⟩
      case rest =>
        obtain ⟨n', num', s', hnum', hn', hfs', hC, hR, hP⟩ := hcut
        have q1 := Lib.hid (c_waits hC.out i1)
        go_wp2_with fail
        refine q1.out.mono ?_
        rintro e w13 ⟨rfl, hE13⟩
        have q2 := Lib.hid (r_waits (hR.out.ext hE13))
        clear q1
        go_wp2_with fail
        refine q2.out.mono ?_
        rintro e w14 ⟨rfl, hE14⟩
        have hX14 := hE13.trans hE14
        have hC14 := Lib.hid (hC.out.ext hX14)
        have hR14 := Lib.hid (hR.out.ext hX14)
        have hP14 := Lib.hid (hP.out.ext hX14)
        obtain ⟨A, hA⟩ : ∃ A, A = waN num' s' := ⟨_, rfl⟩
        obtain ⟨B, hB⟩ : ∃ B, B = s'.isSome := ⟨_, rfl⟩
        rw [← hA, ← hB]
        clear hA hB q2
        go_wp2_with fail
        go_roundw
        case rel => exact ⟨k + 1, n', num', s', by omega, by go_num, by omega, Lib.hid (by rw [htk.out]; have := hns.out; have := hn'.out; omega), hfs', hC14, hR14, hP14⟩
        case measure => simp [intOf]; omega
    · have hli : ¬ (k : Int) < (N : Int) := by omega
      have hn16 : n ≤ 16000 := by have := hns.out; have := gsum_le l k; have := hgs.out; omega
      have q1 := Lib.hid (pb_apart hP.out (by unfold numTop; omega))
      go_wp2_with fail
      refine q1.out.mono ?_
      rintro e w13 ⟨rfl, hE13⟩
      go_wp2_with fail
      refine (clives_any w13).mono ?_
      rintro e w14 ⟨rfl, hE14⟩
      go_wp2_with fail
      go_ret
      exact ⟨rfl, hE13.trans hE14⟩
end Go.Proofs.YtmopjmhapeinjaaGreatDoor
