/- A table's Put: an entry that may be. (wip/tools/gg.py doubles put_mainGG.) No condition. -/
import Derived.Test.YtfcpnkalcijflaaGreatDoorTab7
import Derived.Deep.CutRange
import Derived.BigRegion
namespace Go.Proofs.YtfcpnkalcijflaaGreatDoor
open Go.RowKit
set_option maxRecDepth 100000 in
set_option maxHeartbeats 600000 in
theorem put_mainF (w : World) (tb hd : Nat) (ns : List Nd) (xk : ByteArray) (xs : Nat) (xv : ByteArray) (tall : Nat) (hS : SkAt w tb hd ns) (hlen : ns.length ≤ 4096) (hk : okeyB xk = true) (hv : xv.size ≤ 256) (ht1 : 1 ≤ tall) (ht8 : tall ≤ 8) (hok : okB ⟨⟨xk, xs, false⟩, xv⟩ (tall : Int) = true) (s1 : xk.size ≤ 140737488351232) :
    Calls Tryz.prog 6 #[.pointer (some ⟨tb, 0, none⟩), .agg #[.string xk, .int .u64 (xs : Int), .bool false, .string xv], .int .i64 (tall : Int)] w (PutE w tb hd ns ⟨⟨xk, xs, false⟩, xv⟩ (tall : Int)) := by
  obtain ⟨W, hW⟩ : ∃ W, W = w.alloc (.cells #[.string xk, .int .u64 (xs : Int), .bool false, .string xv] 49) := ⟨_, rfl⟩
  have hE : Ext w W := by rw [hW]; exact (Ext.refl _).alloc _
  have hX : W.heap[w.heap.size]? = some (.cells (enRow ⟨⟨xk, xs, false⟩, xv⟩) 49 (0, 0)) := by rw [hW]; exact heap_alloc_new w _
  have hSW := hS.ext hE
  have hmr := en_mark hX
  obtain ⟨x0, x1, x2, x3⟩ := en_cells hX
  have x0' := x0
  have x2' := x2
  have x3' := x3
  rw [hW] at x0' x2' x3'
  have hk' := Lib.hid hk
  have hok' := Lib.hid hok
  have hW' := Lib.hid hW
  have hv' : ¬ (256 : Int) < (xv.size : Int) := by omega
  have ht1' : ¬ (tall : Int) < 1 := by omega
  have ht8' : ¬ (8 : Int) < (tall : Int) := by omega
  clear hW hk hok
  go_enter Tryz.func6, Tryz.ntmps6
  go_wp2_with fail
  rw [← hW'.out]
  clear hW' x0' x2' x3'
  refine (there_ok hSW).mono ?_
  rintro e w' ⟨rfl, rfl⟩
  go_wp2_with fail
  refine (ocheck_any _ xk s1).mono ?_
  rw [hk'.out]
  rintro e w' ⟨rfl, rfl⟩
  go_upto_region 5 with fail
  go_wp2_with (first | (refine wpList_load_mid (by rfl) 47 (.tmp 46) (by rfl) w.heap.size 0 (by rfl) (mkRow ⟨xk, xs, false⟩) _ hmr Tryz.underlying47 rfl (by exact info_mark) ?_) | fail)
  refine (ahead_any W tb hd ns ⟨xk, xs, false⟩ hSW).mono ?_
  rintro e w1 ⟨rfl, hE1⟩
  rw [lastRow_arr]
  have hS1 := hSW.ext hE1
  obtain ⟨f, hf⟩ : ∃ f, f = lastAt (headN hd :: aheadN ns ⟨xk, xs, false⟩) := ⟨_, rfl⟩
  rw [← hf]
  have hf' := Lib.hid hf
  clear hf hmr
  obtain ⟨W2, hW2⟩ : ∃ W2, W2 = w1.alloc (.cells (arrRow f) 62) := ⟨_, rfl⟩
  have hE2 : Ext w1 W2 := hW2 ▸ (Ext.refl _).alloc _
  have hA2 : ArrAt W2 w1.heap.size f := by rw [hW2]; exact heap_alloc_new w1 _
  have hW2' := Lib.hid hW2
  clear hW2
  have hS2 := hS1.ext hE2
  have hX2 := hE2.row (hE1.row hX)
  obtain ⟨p, l0, q, e1, e2, e3, hla, hT, hli⟩ := hS2.last ⟨xk, xs, false⟩ (h := 0) (by omega)
  clear e1 e2 e3
  rw [← hf'.out] at hla
  have a0 := hA2.cells.1 0 (by omega)
  rw [hla] at a0
  have c4 := hT.cells.2.2.2.2.1 0 (by omega)
  rw [hli] at c4
  obtain ⟨nx, hnx⟩ : ∃ nx, nx = nextAt (restN ns ⟨xk, xs, false⟩) 0 := ⟨_, rfl⟩
  rw [← hnx] at c4
  have hnx' := Lib.hid hnx
  clear hT hli hla hnx
  go_wp2_with (first | (refine wpList_store_arr (by rfl) (.tmp 7) (.tmp 48) (by rfl) w1 f (by rfl) (by rfl) ?_; rw [← hW2'.out]; clear hW2') | fail)
  have hX2c := en_cells hX2
  obtain ⟨y0, y1, y2, y3⟩ := hX2c
  go_cut [66] from 55 to 66 (fun s wx => s = .bool (thereB (ns.map Nd.e) ⟨xk, xs, false⟩) ∧ Ext W2 wx)
  case first =>
    have hth := there_rest hS2 ⟨xk, xs, false⟩
    have hth' := Lib.hid hth
    clear hth
    cases hr : restN ns ⟨xk, xs, false⟩ with
    | nil =>
      have hn0 : nx = none := by rw [hnx'.out, hr]; rfl
      subst hn0
      have hr' := Lib.hid hr
      clear hr
      go_quiet (fail)
      go_wp2_with fail
      go_meet
      exact ⟨by rw [hth'.out, hr'.out], ext_draws (Ext.refl _) _⟩
    | cons n r =>
      obtain ⟨hh, hT⟩ := rest_cons hS2 hr
      have hnm := hT.mark
      have hxm := en_mark hX2
      have hn0 : nx = some ⟨n.blk, 0, none⟩ := by rw [hnx'.out, hr, nextAt_hit hh]; rfl
      subst hn0
      have hr' := Lib.hid hr
      clear hr hT
      refine wp_region_class (Ext W2) (by kernel_rfl) (by kernel_rfl) (Ext.refl _).drew ?_
      iterate 7 (refine wpQuiet_step (fun K hK => ?_); go_simp; first | (refine hK _ ?_; clear hK K) | (refine ⟨_, fun _ _ => rfl, hK _ ?_⟩; clear hK K))
      refine wpQuiet_load_mid (by rfl) 47 _ (by rfl) n.blk 0 (by rfl) _ _ (fun w' h r v hv => h.cell (hnm r v hv)) Tryz.underlying47 rfl (by exact info_mark) ?_
      iterate 1 (refine wpQuiet_step (fun K hK => ?_); go_simp; first | (refine hK _ ?_; clear hK K) | (refine ⟨_, fun _ _ => rfl, hK _ ?_⟩; clear hK K))
      refine wpQuiet_load_mid (by rfl) 47 _ (by rfl) w.heap.size 0 (by rfl) _ _ (fun w' h r v hv => h.cell (hxm r v hv)) Tryz.underlying47 rfl (by exact info_mark) ?_
      refine wpQuiet_eql_mark (by rfl) (.tmp 62) (.tmp 64) (by rfl) n.e.mark ⟨xk, xs, false⟩ (by rfl) (by rfl) ?_
      iterate 1 (refine wpQuiet_step (fun K hK => ?_); go_simp; first | (refine hK _ ?_; clear hK K) | (refine ⟨_, fun _ _ => rfl, hK _ ?_⟩; clear hK K))
      refine wpQuiet_nil (fun w4 hE4 => ?_)
      go_wp2_with fail
      go_meet
      exact ⟨by rw [hth'.out, hr'.out], hE4⟩
  case rest =>
  obtain ⟨rfl, hE4⟩ := hcut
  have hS4 := hS2.ext hE4
  have hX4 := hE4.row hX2
  have hA4 := hA2.ext hE4
  have hEw : Ext w wc := ((hE.trans hE1).trans hE2).trans hE4
  have hab : w.heap.size < w1.heap.size := by have := (Array.getElem?_eq_some_iff.1 (hE1.row hX)).1; exact this
  clear hS2 hA2 hSW hS1 hX x0 x1 x2 x3 y0 y1 y2 y3 a0 c4 hnx'
  cases hth : thereB (ns.map Nd.e) ⟨xk, xs, false⟩
  · by_cases hfull : 4096 ≤ ns.length
    · have hpc : putC (ns.map Nd.e) ⟨⟨xk, xs, false⟩, xv⟩ (tall : Int) = 6 := by unfold putC; rw [hok'.out]; simp only [hth]; simp [hfull]
      have hpl : putL (ns.map Nd.e) ⟨⟨xk, xs, false⟩, xv⟩ (tall : Int) = ns.map Nd.e := by unfold putL; rw [hok'.out]; simp only [hth]; simp [hfull]
      have hpc' := Lib.hid hpc
      have hpl' := Lib.hid hpl
      obtain ⟨_, z1, _, _⟩ := hS4.cells
      have hfi : (4096 : Int) ≤ (ns.length : Int) := by omega
      clear hpc hpl hth
      go_wp2_with fail
      go_ret
      exact put_same hS4 hEw (by rw [hpc'.out]; rfl) hpl'.out
    · have hpc : putC (ns.map Nd.e) ⟨⟨xk, xs, false⟩, xv⟩ (tall : Int) = 0 := by unfold putC; rw [hok'.out]; simp only [hth]; simp [hfull]
      have hpl : putL (ns.map Nd.e) ⟨⟨xk, xs, false⟩, xv⟩ (tall : Int) = insL (ns.map Nd.e) ⟨⟨xk, xs, false⟩, xv⟩ := by unfold putL; rw [hok'.out]; simp only [hth]; simp [hfull]
      have hpc' := Lib.hid hpc
      have hpl' := Lib.hid hpl
      have hth' := Lib.hid hth
      obtain ⟨_, z1, z2, zf⟩ := hS4.cells
      have hfi : ¬ (4096 : Int) ≤ (ns.length : Int) := by omega
      have hrow := en_range hX4
      clear hpc hpl hth zf z2
      go_wp2_with (first | (refine wpList_load_mid (by rfl) 49 (.tmp 4) (by rfl) w.heap.size 0 (by rfl) (enRow ⟨⟨xk, xs, false⟩, xv⟩).toList _ hrow Tryz.underlying49 rfl (by exact info_entry) ?_) | (refine wpList_build_tow (by rfl) (.tmp 72) (by rfl) ⟨⟨xk, xs, false⟩, xv⟩ (by rfl) ?_) | fail)
      obtain ⟨W5, hW5⟩ : ∃ W5, W5 = wc.alloc (.cells (twRow ⟨⟨xk, xs, false⟩, xv⟩ (fun _ => none)) 64) := ⟨_, rfl⟩
      have hE5 : Ext wc W5 := by rw [hW5]; exact (Ext.refl _).alloc _
      have hT5 : TwAt W5 wc.heap.size ⟨⟨xk, xs, false⟩, xv⟩ (fun _ => none) := by rw [hW5]; exact heap_alloc_new wc _
      obtain ⟨nb, hnb⟩ : ∃ nb, nb = wc.heap.size := ⟨_, rfl⟩
      rw [← hW5]
      rw [← hnb] at hT5 ⊢
      clear hW5
      have hS5 := hS4.ext hE5
      have hA5 := hA4.ext hE5
      have hX5 := hE5.row hX4
      have hcut0 : headN hd :: ns = (headN hd :: aheadN ns ⟨xk, xs, false⟩) ++ restN ns ⟨xk, xs, false⟩ := by rw [List.cons_append, aheadN_rest]
      have hC0 : Chain W5 ((headN hd :: aheadN ns ⟨xk, xs, false⟩) ++ ⟨nb, ⟨⟨xk, xs, false⟩, xv⟩, 0⟩ :: restN ns ⟨xk, xs, false⟩) := Chain.insert0 (by rw [← hcut0]; exact hS5.chain) hT5
      have hnbl : ∀ k, skB tb hd ns k → k < nb := fun k hk => by rw [hnb]; exact hS4.lt hk
      have hnbl' := Lib.hid hnbl
      have hnb1 : w.heap.size < nb := by rw [hnb]; exact (Array.getElem?_eq_some_iff.1 hX4).1
      have hnb2 : w1.heap.size < nb := by rw [hnb]; exact (Array.getElem?_eq_some_iff.1 hA4).1
      have hnd5 : ∀ k, ((((headN hd :: aheadN ns ⟨xk, xs, false⟩) ++ (⟨nb, ⟨⟨xk, xs, false⟩, xv⟩, k⟩ : Nd) :: restN ns ⟨xk, xs, false⟩)).map Nd.blk).Nodup := fun k => put_nodup hS4.nd (by rw [hcut0]) (fun j hj => hnbl j (by rcases List.mem_cons.1 hj with rfl | hj; exact .inr (.inl rfl); obtain ⟨n, hn, hn2⟩ := List.mem_map.1 hj; exact .inr (.inr ⟨n, hn, hn2⟩)))
      have hnd5' := Lib.hid hnd5
      clear hnbl hnd5 hnb hrow hcut0
      go_loopw [76] (fun i wr => ∃ k : Nat, k ≤ tall ∧ i = .int .i64 k ∧ Chain wr ((headN hd :: aheadN ns ⟨xk, xs, false⟩) ++ ⟨nb, ⟨⟨xk, xs, false⟩, xv⟩, k⟩ :: restN ns ⟨xk, xs, false⟩) ∧ OffB (putD hd ns nb) W5 wr) (fun i _ => tall - (intOf i).toNat)
      case atStart => exact ⟨0, by omega, rfl, hC0, OffB.refl _⟩
      case round =>
        obtain ⟨k, hk, rfl, hC, hO⟩ := hrel
        have habD : ¬ putD hd ns nb w1.heap.size := fun h => by
          rcases h with h | ⟨n, hn, h⟩ | h
          · have := hS.lt (k := hd) (.inr (.inl rfl)); omega
          · have := hS.lt (k := n.blk) (.inr (.inr ⟨n, hn, rfl⟩)); omega
          · omega
        have hAr : ArrAt wr w1.heap.size f := by unfold ArrAt at hA5 ⊢; rw [hO.block _ (Array.getElem?_eq_some_iff.1 hA5).1 habD]; exact hA5
        by_cases hkt : k < tall
        · have hki : (k : Int) < (tall : Int) := by omega
          have hk8 : k < 8 := by omega
          obtain ⟨p1, l1, q1, e1, e2, e3, hla⟩ := lastAt_cases (l := headN hd :: aheadN ns ⟨xk, xs, false⟩) (h := k) (head_hits hk8)
          rw [← hf'.out] at hla
          have hl1 : k < l1.tall := by unfold hit at e2; simpa using e2
          have hC1 := hC
          rw [e1, List.append_assoc, List.cons_append] at hC1
          have hTl := hC1.at
          have hTn : TwAt wr nb ⟨⟨xk, xs, false⟩, xv⟩ (links ⟨nb, ⟨⟨xk, xs, false⟩, xv⟩, k⟩ (restN ns ⟨xk, xs, false⟩)) := hC.at
          have a1 := hAr.cells.1 k hk8
          rw [hla] at a1
          unfold Nd.addr at a1
          have hlc := hTl.cells.2.2.2.2.1 k hk8
          have hlf := hTl.cells.2.2.2.2.2 (4 + k)
          have hnc := hTn.cells.2.2.2.2.1 k hk8
          have hnf := hTn.cells.2.2.2.2.2 (4 + k)
          have hlv : links l1 (q1 ++ ⟨nb, ⟨⟨xk, xs, false⟩, xv⟩, k⟩ :: restN ns ⟨xk, xs, false⟩) k = nextAt (restN ns ⟨xk, xs, false⟩) k := by
            unfold links
            rw [if_pos hl1, nextAt_skip e3, nextAt_miss (by unfold hit; simp)]
          rw [hlv] at hlc
          have hnd0 := hnd5'.out k
          rw [e1, List.append_assoc, List.cons_append] at hnd0
          have hne : l1.blk ≠ nb := put_ne hnd0
          have hne' : nb ≠ l1.blk := fun h => hne h.symm
          have hup := Chain.raise hC1 rfl hk8 e2 e3 hnd0
          have hup' := Lib.hid hup
          have he1 := Lib.hid e1
          obtain ⟨lb, hlb⟩ : ∃ lb, lb = l1.blk := ⟨_, rfl⟩
          obtain ⟨nx2, hnx2⟩ : ∃ nx2, nx2 = nextAt (restN ns ⟨xk, xs, false⟩) k := ⟨_, rfl⟩
          have hlD : putD hd ns nb lb := by
            rw [hlb]
            have : l1 ∈ headN hd :: aheadN ns ⟨xk, xs, false⟩ := by rw [e1]; simp
            rcases List.mem_cons.1 this with h | h
            · exact .inl (by rw [h]; rfl)
            · exact .inr (.inl ⟨l1, by have h2 : l1 ∈ aheadN ns ⟨xk, xs, false⟩ ++ restN ns ⟨xk, xs, false⟩ := List.mem_append.2 (.inl h); rw [aheadN_rest] at h2; exact h2, rfl⟩)
          rw [← hlb] at a1 hlc hlf hne hne'
          rw [← hnx2] at hlc
          have hOk : OffB (putD hd ns nb) W5 ((wr.setCell ⟨nb, 4 + k, none⟩ (.pointer nx2)).setCell ⟨lb, 4 + k, none⟩ (.pointer (some ⟨nb, 0, none⟩))) := OffB.setCell (OffB.setCell hO (.inr (.inr rfl)) _) hlD _
          have hid2 := Lib.hid (And.intro hlb hnx2)
          obtain ⟨vn, hvn⟩ : ∃ vn, vn = links ⟨nb, ⟨⟨xk, xs, false⟩, xv⟩, k⟩ (restN ns ⟨xk, xs, false⟩) k := ⟨_, rfl⟩
          rw [← hvn] at hnc
          clear hC1 hTl hTn hla hlv hnd0 hup e1 e2 e3 hlb hnx2 hvn hC hAr hC0 hT5 hS5 hA5 hX5 hS4 hX4 hA4 z1 hfi hO hX2
          go_wp2_with fail
          have hA1 : w1.heap.size ≠ nb := by omega
          have hk8i : (k : Int) < 8 := by omega
          have hk0i : (0 : Int) ≤ (k : Int) := by omega
          have hA2' : lb ≠ w1.heap.size := fun h => habD (h ▸ hlD)
          have g5 : (wr.setCell ⟨nb, 4 + k, none⟩ (.pointer nx2)).cell? ⟨lb, 4 + k, none⟩ = some (.pointer nx2) := by rw [World.cell?_setCell_other _ _ _ _ (by simp)]; exact hlc
          have g6 : (wr.setCell ⟨nb, 4 + k, none⟩ (.pointer nx2)).frozen? ⟨lb, 4 + k, none⟩ = false := by rw [World.frozen?_setCell]; exact hlf
          have g7 : (wr.setCell ⟨nb, 4 + k, none⟩ (.pointer nx2)).cell? ⟨w1.heap.size, k, none⟩ = some (.pointer (some ⟨lb, 0, none⟩)) := by rw [World.cell?_setCell_other _ _ _ _ (by simp)]; exact a1
          have g8 : ((wr.setCell ⟨nb, 4 + k, none⟩ (.pointer nx2)).setCell ⟨lb, 4 + k, none⟩ (.pointer (some ⟨nb, 0, none⟩))).cell? ⟨w1.heap.size, k, none⟩ = some (.pointer (some ⟨lb, 0, none⟩)) := by rw [World.cell?_setCell_other _ _ _ _ (by simp)]; exact g7
          have g9 : ((wr.setCell ⟨nb, 4 + k, none⟩ (.pointer nx2)).setCell ⟨lb, 4 + k, none⟩ (.pointer (some ⟨nb, 0, none⟩))).drew.cell? ⟨w1.heap.size, k, none⟩ = some (.pointer (some ⟨lb, 0, none⟩)) := g8
          go_region
          obtain ⟨hlb, hnx2⟩ := hid2.out
          have hup2 := hup'.out
          have hcu : p1 ++ l1 :: (q1 ++ (⟨nb, ⟨⟨xk, xs, false⟩, xv⟩, k + 1⟩ : Nd) :: restN ns ⟨xk, xs, false⟩) = (headN hd :: aheadN ns ⟨xk, xs, false⟩) ++ ⟨nb, ⟨⟨xk, xs, false⟩, xv⟩, k + 1⟩ :: restN ns ⟨xk, xs, false⟩ := by rw [he1.out]; simp
          rw [← hlb, ← hnx2, hcu] at hup2
          have hup3 := hup2.off (B := fun _ => False) (.of_ext (Ext.refl _).drew) (fun _ _ => id)
          clear hlb hnx2 hcu hup2
          go_wp2_with fail
          go_roundw
          case rel => exact ⟨k + 1, by omega, by go_num, hup3, hOk.drew⟩
          case measure => simp [intOf]; omega
        · obtain rfl : k = tall := by omega
          have hki : ¬ (k : Int) < (k : Int) := by omega
          have htD : ¬ putD hd ns nb tb := fun h => by
            have h0 := hS.nd
            rcases h with h | ⟨n, hn, h⟩ | h
            · subst h; simp at h0
            · subst h; simp at h0; exact h0.1.2 n hn rfl
            · have := hS.lt (k := tb) (.inl rfl); omega
          have hxD : ¬ putD hd ns nb w.heap.size := fun h => by
            rcases h with h | ⟨n, hn, h⟩ | h
            · have := hS.lt (k := hd) (.inr (.inl rfl)); omega
            · have := hS.lt (k := n.blk) (.inr (.inr ⟨n, hn, rfl⟩)); omega
            · omega
          have hTb : wr.heap[tb]? = some (.cells #[.pointer (some ⟨hd, 0, none⟩), .int .i64 (ns.length : Int), .int .i64 (sizeL ns : Int)] 66 (0, 0)) := by rw [hO.block tb (Array.getElem?_eq_some_iff.1 hS5.tab).1 htD]; exact hS5.tab
          have hXr : wr.heap[w.heap.size]? = some (.cells (enRow ⟨⟨xk, xs, false⟩, xv⟩) 49 (0, 0)) := by rw [hO.block _ (Array.getElem?_eq_some_iff.1 hX5).1 hxD]; exact hX5
          have hsz := sizeL_le hS.fit
          have hks : xk.size ≤ 32 := by have := hk'.out; unfold okeyB at this; simp at this; omega
          obtain ⟨t0, t1, t2, tf⟩ := tab_cells hTb
          have tf1 := tf 1
          have tf2 := tf 2
          have tfb : (wr.setCell ⟨tb, 1, none⟩ (.int .i64 ((ns.length : Int) + 1))).frozen? ⟨tb, 2, none⟩ = false := by rw [World.frozen?_setCell]; exact tf2
          have htx : tb ≠ w.heap.size := by have := hS.lt (k := tb) (.inl rfl); omega
          obtain ⟨y0, _, _, y3⟩ := en_cells hXr
          have u2 : (wr.setCell ⟨tb, 1, none⟩ (.int .i64 ((ns.length : Int) + 1))).cell? ⟨tb, 2, none⟩ = some (.int .i64 (sizeL ns : Int)) := by rw [World.cell?_setCell_other _ _ _ _ (by simp)]; exact t2
          have u0 : (wr.setCell ⟨tb, 1, none⟩ (.int .i64 ((ns.length : Int) + 1))).cell? ⟨w.heap.size, 0, none⟩ = some (.string xk) := by rw [World.cell?_setCell_other _ _ _ _ (by simp)]; exact y0
          have u3 : (wr.setCell ⟨tb, 1, none⟩ (.int .i64 ((ns.length : Int) + 1))).cell? ⟨w.heap.size, 3, none⟩ = some (.string xv) := by rw [World.cell?_setCell_other _ _ _ _ (by simp)]; exact y3
          have hsv : (⟨⟨xk, xs, false⟩, xv⟩ : En).val.size ≤ 256 := by simp only; first | omega | decide
          have hk8 : k ≤ 8 := ht8
          clear hC0 hT5 hS5 hA5 hX5 hS4 hX4 hA4 z1 t0 tf hX2
          have hsum : (0 : Int) ≤ (sizeL ns : Int) ∧ (sizeL ns : Int) ≤ 2000000 := by omega
          obtain ⟨hsum1, hsum2⟩ := hsum
          go_wp2_with fail
          go_region
          go_wp2_with fail
          go_ret
          exact put_final hS (hEw.trans hE5) (by omega) hC hO hTb ht1 ht8 (by have h1 : xk.size ≤ 32 := hks; have h2 : (⟨⟨xk, xs, false⟩, xv⟩ : En).val.size ≤ 256 := hsv; simp only at h2 ⊢; omega) hth'.out hpc'.out hpl'.out
  · have hpc : putC (ns.map Nd.e) ⟨⟨xk, xs, false⟩, xv⟩ (tall : Int) = 8 := by unfold putC; rw [hok'.out]; simp only [hth]; simp
    have hpl : putL (ns.map Nd.e) ⟨⟨xk, xs, false⟩, xv⟩ (tall : Int) = ns.map Nd.e := by unfold putL; rw [hok'.out]; simp only [hth]; simp
    have hpc' := Lib.hid hpc
    have hpl' := Lib.hid hpl
    clear hpc hpl hth
    go_wp2_with fail
    go_ret
    exact put_same hS4 hEw (by rw [hpc'.out]; rfl) hpl'.out
set_option maxRecDepth 100000 in
set_option maxHeartbeats 600000 in
theorem put_mainT (w : World) (tb hd : Nat) (ns : List Nd) (xk : ByteArray) (xs : Nat) (tall : Nat) (hS : SkAt w tb hd ns) (hlen : ns.length ≤ 4096) (hk : okeyB xk = true) (ht1 : 1 ≤ tall) (ht8 : tall ≤ 8) (hok : okB ⟨⟨xk, xs, true⟩, ⟨#[]⟩⟩ (tall : Int) = true) (s1 : xk.size ≤ 140737488351232) :
    Calls Tryz.prog 6 #[.pointer (some ⟨tb, 0, none⟩), .agg #[.string xk, .int .u64 (xs : Int), .bool true, .string ⟨#[]⟩], .int .i64 (tall : Int)] w (PutE w tb hd ns ⟨⟨xk, xs, true⟩, ⟨#[]⟩⟩ (tall : Int)) := by
  obtain ⟨W, hW⟩ : ∃ W, W = w.alloc (.cells #[.string xk, .int .u64 (xs : Int), .bool true, .string ⟨#[]⟩] 49) := ⟨_, rfl⟩
  have hE : Ext w W := by rw [hW]; exact (Ext.refl _).alloc _
  have hX : W.heap[w.heap.size]? = some (.cells (enRow ⟨⟨xk, xs, true⟩, ⟨#[]⟩⟩) 49 (0, 0)) := by rw [hW]; exact heap_alloc_new w _
  have hSW := hS.ext hE
  have hmr := en_mark hX
  obtain ⟨x0, x1, x2, x3⟩ := en_cells hX
  have x0' := x0
  have x2' := x2
  have x3' := x3
  rw [hW] at x0' x2' x3'
  have hk' := Lib.hid hk
  have hok' := Lib.hid hok
  have hW' := Lib.hid hW
  have hv' : True := trivial
  have ht1' : ¬ (tall : Int) < 1 := by omega
  have ht8' : ¬ (8 : Int) < (tall : Int) := by omega
  clear hW hk hok
  go_enter Tryz.func6, Tryz.ntmps6
  go_wp2_with fail
  rw [← hW'.out]
  clear hW' x0' x2' x3'
  refine (there_ok hSW).mono ?_
  rintro e w' ⟨rfl, rfl⟩
  go_wp2_with fail
  refine (ocheck_any _ xk s1).mono ?_
  rw [hk'.out]
  rintro e w' ⟨rfl, rfl⟩
  go_upto_region 5 with fail
  go_wp2_with (first | (refine wpList_load_mid (by rfl) 47 (.tmp 46) (by rfl) w.heap.size 0 (by rfl) (mkRow ⟨xk, xs, true⟩) _ hmr Tryz.underlying47 rfl (by exact info_mark) ?_) | fail)
  refine (ahead_any W tb hd ns ⟨xk, xs, true⟩ hSW).mono ?_
  rintro e w1 ⟨rfl, hE1⟩
  rw [lastRow_arr]
  have hS1 := hSW.ext hE1
  obtain ⟨f, hf⟩ : ∃ f, f = lastAt (headN hd :: aheadN ns ⟨xk, xs, true⟩) := ⟨_, rfl⟩
  rw [← hf]
  have hf' := Lib.hid hf
  clear hf hmr
  obtain ⟨W2, hW2⟩ : ∃ W2, W2 = w1.alloc (.cells (arrRow f) 62) := ⟨_, rfl⟩
  have hE2 : Ext w1 W2 := hW2 ▸ (Ext.refl _).alloc _
  have hA2 : ArrAt W2 w1.heap.size f := by rw [hW2]; exact heap_alloc_new w1 _
  have hW2' := Lib.hid hW2
  clear hW2
  have hS2 := hS1.ext hE2
  have hX2 := hE2.row (hE1.row hX)
  obtain ⟨p, l0, q, e1, e2, e3, hla, hT, hli⟩ := hS2.last ⟨xk, xs, true⟩ (h := 0) (by omega)
  clear e1 e2 e3
  rw [← hf'.out] at hla
  have a0 := hA2.cells.1 0 (by omega)
  rw [hla] at a0
  have c4 := hT.cells.2.2.2.2.1 0 (by omega)
  rw [hli] at c4
  obtain ⟨nx, hnx⟩ : ∃ nx, nx = nextAt (restN ns ⟨xk, xs, true⟩) 0 := ⟨_, rfl⟩
  rw [← hnx] at c4
  have hnx' := Lib.hid hnx
  clear hT hli hla hnx
  go_wp2_with (first | (refine wpList_store_arr (by rfl) (.tmp 7) (.tmp 48) (by rfl) w1 f (by rfl) (by rfl) ?_; rw [← hW2'.out]; clear hW2') | fail)
  have hX2c := en_cells hX2
  obtain ⟨y0, y1, y2, y3⟩ := hX2c
  go_cut [66] from 55 to 66 (fun s wx => s = .bool (thereB (ns.map Nd.e) ⟨xk, xs, true⟩) ∧ Ext W2 wx)
  case first =>
    have hth := there_rest hS2 ⟨xk, xs, true⟩
    have hth' := Lib.hid hth
    clear hth
    cases hr : restN ns ⟨xk, xs, true⟩ with
    | nil =>
      have hn0 : nx = none := by rw [hnx'.out, hr]; rfl
      subst hn0
      have hr' := Lib.hid hr
      clear hr
      go_quiet (fail)
      go_wp2_with fail
      go_meet
      exact ⟨by rw [hth'.out, hr'.out], ext_draws (Ext.refl _) _⟩
    | cons n r =>
      obtain ⟨hh, hT⟩ := rest_cons hS2 hr
      have hnm := hT.mark
      have hxm := en_mark hX2
      have hn0 : nx = some ⟨n.blk, 0, none⟩ := by rw [hnx'.out, hr, nextAt_hit hh]; rfl
      subst hn0
      have hr' := Lib.hid hr
      clear hr hT
      refine wp_region_class (Ext W2) (by kernel_rfl) (by kernel_rfl) (Ext.refl _).drew ?_
      iterate 7 (refine wpQuiet_step (fun K hK => ?_); go_simp; first | (refine hK _ ?_; clear hK K) | (refine ⟨_, fun _ _ => rfl, hK _ ?_⟩; clear hK K))
      refine wpQuiet_load_mid (by rfl) 47 _ (by rfl) n.blk 0 (by rfl) _ _ (fun w' h r v hv => h.cell (hnm r v hv)) Tryz.underlying47 rfl (by exact info_mark) ?_
      iterate 1 (refine wpQuiet_step (fun K hK => ?_); go_simp; first | (refine hK _ ?_; clear hK K) | (refine ⟨_, fun _ _ => rfl, hK _ ?_⟩; clear hK K))
      refine wpQuiet_load_mid (by rfl) 47 _ (by rfl) w.heap.size 0 (by rfl) _ _ (fun w' h r v hv => h.cell (hxm r v hv)) Tryz.underlying47 rfl (by exact info_mark) ?_
      refine wpQuiet_eql_mark (by rfl) (.tmp 62) (.tmp 64) (by rfl) n.e.mark ⟨xk, xs, true⟩ (by rfl) (by rfl) ?_
      iterate 1 (refine wpQuiet_step (fun K hK => ?_); go_simp; first | (refine hK _ ?_; clear hK K) | (refine ⟨_, fun _ _ => rfl, hK _ ?_⟩; clear hK K))
      refine wpQuiet_nil (fun w4 hE4 => ?_)
      go_wp2_with fail
      go_meet
      exact ⟨by rw [hth'.out, hr'.out], hE4⟩
  case rest =>
  obtain ⟨rfl, hE4⟩ := hcut
  have hS4 := hS2.ext hE4
  have hX4 := hE4.row hX2
  have hA4 := hA2.ext hE4
  have hEw : Ext w wc := ((hE.trans hE1).trans hE2).trans hE4
  have hab : w.heap.size < w1.heap.size := by have := (Array.getElem?_eq_some_iff.1 (hE1.row hX)).1; exact this
  clear hS2 hA2 hSW hS1 hX x0 x1 x2 x3 y0 y1 y2 y3 a0 c4 hnx'
  cases hth : thereB (ns.map Nd.e) ⟨xk, xs, true⟩
  · by_cases hfull : 4096 ≤ ns.length
    · have hpc : putC (ns.map Nd.e) ⟨⟨xk, xs, true⟩, ⟨#[]⟩⟩ (tall : Int) = 6 := by unfold putC; rw [hok'.out]; simp only [hth]; simp [hfull]
      have hpl : putL (ns.map Nd.e) ⟨⟨xk, xs, true⟩, ⟨#[]⟩⟩ (tall : Int) = ns.map Nd.e := by unfold putL; rw [hok'.out]; simp only [hth]; simp [hfull]
      have hpc' := Lib.hid hpc
      have hpl' := Lib.hid hpl
      obtain ⟨_, z1, _, _⟩ := hS4.cells
      have hfi : (4096 : Int) ≤ (ns.length : Int) := by omega
      clear hpc hpl hth
      go_wp2_with fail
      go_ret
      exact put_same hS4 hEw (by rw [hpc'.out]; rfl) hpl'.out
    · have hpc : putC (ns.map Nd.e) ⟨⟨xk, xs, true⟩, ⟨#[]⟩⟩ (tall : Int) = 0 := by unfold putC; rw [hok'.out]; simp only [hth]; simp [hfull]
      have hpl : putL (ns.map Nd.e) ⟨⟨xk, xs, true⟩, ⟨#[]⟩⟩ (tall : Int) = insL (ns.map Nd.e) ⟨⟨xk, xs, true⟩, ⟨#[]⟩⟩ := by unfold putL; rw [hok'.out]; simp only [hth]; simp [hfull]
      have hpc' := Lib.hid hpc
      have hpl' := Lib.hid hpl
      have hth' := Lib.hid hth
      obtain ⟨_, z1, z2, zf⟩ := hS4.cells
      have hfi : ¬ (4096 : Int) ≤ (ns.length : Int) := by omega
      have hrow := en_range hX4
      clear hpc hpl hth zf z2
      go_wp2_with (first | (refine wpList_load_mid (by rfl) 49 (.tmp 4) (by rfl) w.heap.size 0 (by rfl) (enRow ⟨⟨xk, xs, true⟩, ⟨#[]⟩⟩).toList _ hrow Tryz.underlying49 rfl (by exact info_entry) ?_) | (refine wpList_build_tow (by rfl) (.tmp 72) (by rfl) ⟨⟨xk, xs, true⟩, ⟨#[]⟩⟩ (by rfl) ?_) | fail)
      obtain ⟨W5, hW5⟩ : ∃ W5, W5 = wc.alloc (.cells (twRow ⟨⟨xk, xs, true⟩, ⟨#[]⟩⟩ (fun _ => none)) 64) := ⟨_, rfl⟩
      have hE5 : Ext wc W5 := by rw [hW5]; exact (Ext.refl _).alloc _
      have hT5 : TwAt W5 wc.heap.size ⟨⟨xk, xs, true⟩, ⟨#[]⟩⟩ (fun _ => none) := by rw [hW5]; exact heap_alloc_new wc _
      obtain ⟨nb, hnb⟩ : ∃ nb, nb = wc.heap.size := ⟨_, rfl⟩
      rw [← hW5]
      rw [← hnb] at hT5 ⊢
      clear hW5
      have hS5 := hS4.ext hE5
      have hA5 := hA4.ext hE5
      have hX5 := hE5.row hX4
      have hcut0 : headN hd :: ns = (headN hd :: aheadN ns ⟨xk, xs, true⟩) ++ restN ns ⟨xk, xs, true⟩ := by rw [List.cons_append, aheadN_rest]
      have hC0 : Chain W5 ((headN hd :: aheadN ns ⟨xk, xs, true⟩) ++ ⟨nb, ⟨⟨xk, xs, true⟩, ⟨#[]⟩⟩, 0⟩ :: restN ns ⟨xk, xs, true⟩) := Chain.insert0 (by rw [← hcut0]; exact hS5.chain) hT5
      have hnbl : ∀ k, skB tb hd ns k → k < nb := fun k hk => by rw [hnb]; exact hS4.lt hk
      have hnbl' := Lib.hid hnbl
      have hnb1 : w.heap.size < nb := by rw [hnb]; exact (Array.getElem?_eq_some_iff.1 hX4).1
      have hnb2 : w1.heap.size < nb := by rw [hnb]; exact (Array.getElem?_eq_some_iff.1 hA4).1
      have hnd5 : ∀ k, ((((headN hd :: aheadN ns ⟨xk, xs, true⟩) ++ (⟨nb, ⟨⟨xk, xs, true⟩, ⟨#[]⟩⟩, k⟩ : Nd) :: restN ns ⟨xk, xs, true⟩)).map Nd.blk).Nodup := fun k => put_nodup hS4.nd (by rw [hcut0]) (fun j hj => hnbl j (by rcases List.mem_cons.1 hj with rfl | hj; exact .inr (.inl rfl); obtain ⟨n, hn, hn2⟩ := List.mem_map.1 hj; exact .inr (.inr ⟨n, hn, hn2⟩)))
      have hnd5' := Lib.hid hnd5
      clear hnbl hnd5 hnb hrow hcut0
      go_loopw [76] (fun i wr => ∃ k : Nat, k ≤ tall ∧ i = .int .i64 k ∧ Chain wr ((headN hd :: aheadN ns ⟨xk, xs, true⟩) ++ ⟨nb, ⟨⟨xk, xs, true⟩, ⟨#[]⟩⟩, k⟩ :: restN ns ⟨xk, xs, true⟩) ∧ OffB (putD hd ns nb) W5 wr) (fun i _ => tall - (intOf i).toNat)
      case atStart => exact ⟨0, by omega, rfl, hC0, OffB.refl _⟩
      case round =>
        obtain ⟨k, hk, rfl, hC, hO⟩ := hrel
        have habD : ¬ putD hd ns nb w1.heap.size := fun h => by
          rcases h with h | ⟨n, hn, h⟩ | h
          · have := hS.lt (k := hd) (.inr (.inl rfl)); omega
          · have := hS.lt (k := n.blk) (.inr (.inr ⟨n, hn, rfl⟩)); omega
          · omega
        have hAr : ArrAt wr w1.heap.size f := by unfold ArrAt at hA5 ⊢; rw [hO.block _ (Array.getElem?_eq_some_iff.1 hA5).1 habD]; exact hA5
        by_cases hkt : k < tall
        · have hki : (k : Int) < (tall : Int) := by omega
          have hk8 : k < 8 := by omega
          obtain ⟨p1, l1, q1, e1, e2, e3, hla⟩ := lastAt_cases (l := headN hd :: aheadN ns ⟨xk, xs, true⟩) (h := k) (head_hits hk8)
          rw [← hf'.out] at hla
          have hl1 : k < l1.tall := by unfold hit at e2; simpa using e2
          have hC1 := hC
          rw [e1, List.append_assoc, List.cons_append] at hC1
          have hTl := hC1.at
          have hTn : TwAt wr nb ⟨⟨xk, xs, true⟩, ⟨#[]⟩⟩ (links ⟨nb, ⟨⟨xk, xs, true⟩, ⟨#[]⟩⟩, k⟩ (restN ns ⟨xk, xs, true⟩)) := hC.at
          have a1 := hAr.cells.1 k hk8
          rw [hla] at a1
          unfold Nd.addr at a1
          have hlc := hTl.cells.2.2.2.2.1 k hk8
          have hlf := hTl.cells.2.2.2.2.2 (4 + k)
          have hnc := hTn.cells.2.2.2.2.1 k hk8
          have hnf := hTn.cells.2.2.2.2.2 (4 + k)
          have hlv : links l1 (q1 ++ ⟨nb, ⟨⟨xk, xs, true⟩, ⟨#[]⟩⟩, k⟩ :: restN ns ⟨xk, xs, true⟩) k = nextAt (restN ns ⟨xk, xs, true⟩) k := by
            unfold links
            rw [if_pos hl1, nextAt_skip e3, nextAt_miss (by unfold hit; simp)]
          rw [hlv] at hlc
          have hnd0 := hnd5'.out k
          rw [e1, List.append_assoc, List.cons_append] at hnd0
          have hne : l1.blk ≠ nb := put_ne hnd0
          have hne' : nb ≠ l1.blk := fun h => hne h.symm
          have hup := Chain.raise hC1 rfl hk8 e2 e3 hnd0
          have hup' := Lib.hid hup
          have he1 := Lib.hid e1
          obtain ⟨lb, hlb⟩ : ∃ lb, lb = l1.blk := ⟨_, rfl⟩
          obtain ⟨nx2, hnx2⟩ : ∃ nx2, nx2 = nextAt (restN ns ⟨xk, xs, true⟩) k := ⟨_, rfl⟩
          have hlD : putD hd ns nb lb := by
            rw [hlb]
            have : l1 ∈ headN hd :: aheadN ns ⟨xk, xs, true⟩ := by rw [e1]; simp
            rcases List.mem_cons.1 this with h | h
            · exact .inl (by rw [h]; rfl)
            · exact .inr (.inl ⟨l1, by have h2 : l1 ∈ aheadN ns ⟨xk, xs, true⟩ ++ restN ns ⟨xk, xs, true⟩ := List.mem_append.2 (.inl h); rw [aheadN_rest] at h2; exact h2, rfl⟩)
          rw [← hlb] at a1 hlc hlf hne hne'
          rw [← hnx2] at hlc
          have hOk : OffB (putD hd ns nb) W5 ((wr.setCell ⟨nb, 4 + k, none⟩ (.pointer nx2)).setCell ⟨lb, 4 + k, none⟩ (.pointer (some ⟨nb, 0, none⟩))) := OffB.setCell (OffB.setCell hO (.inr (.inr rfl)) _) hlD _
          have hid2 := Lib.hid (And.intro hlb hnx2)
          obtain ⟨vn, hvn⟩ : ∃ vn, vn = links ⟨nb, ⟨⟨xk, xs, true⟩, ⟨#[]⟩⟩, k⟩ (restN ns ⟨xk, xs, true⟩) k := ⟨_, rfl⟩
          rw [← hvn] at hnc
          clear hC1 hTl hTn hla hlv hnd0 hup e1 e2 e3 hlb hnx2 hvn hC hAr hC0 hT5 hS5 hA5 hX5 hS4 hX4 hA4 z1 hfi hO hX2
          go_wp2_with fail
          have hA1 : w1.heap.size ≠ nb := by omega
          have hk8i : (k : Int) < 8 := by omega
          have hk0i : (0 : Int) ≤ (k : Int) := by omega
          have hA2' : lb ≠ w1.heap.size := fun h => habD (h ▸ hlD)
          have g5 : (wr.setCell ⟨nb, 4 + k, none⟩ (.pointer nx2)).cell? ⟨lb, 4 + k, none⟩ = some (.pointer nx2) := by rw [World.cell?_setCell_other _ _ _ _ (by simp)]; exact hlc
          have g6 : (wr.setCell ⟨nb, 4 + k, none⟩ (.pointer nx2)).frozen? ⟨lb, 4 + k, none⟩ = false := by rw [World.frozen?_setCell]; exact hlf
          have g7 : (wr.setCell ⟨nb, 4 + k, none⟩ (.pointer nx2)).cell? ⟨w1.heap.size, k, none⟩ = some (.pointer (some ⟨lb, 0, none⟩)) := by rw [World.cell?_setCell_other _ _ _ _ (by simp)]; exact a1
          have g8 : ((wr.setCell ⟨nb, 4 + k, none⟩ (.pointer nx2)).setCell ⟨lb, 4 + k, none⟩ (.pointer (some ⟨nb, 0, none⟩))).cell? ⟨w1.heap.size, k, none⟩ = some (.pointer (some ⟨lb, 0, none⟩)) := by rw [World.cell?_setCell_other _ _ _ _ (by simp)]; exact g7
          have g9 : ((wr.setCell ⟨nb, 4 + k, none⟩ (.pointer nx2)).setCell ⟨lb, 4 + k, none⟩ (.pointer (some ⟨nb, 0, none⟩))).drew.cell? ⟨w1.heap.size, k, none⟩ = some (.pointer (some ⟨lb, 0, none⟩)) := g8
          go_region
          obtain ⟨hlb, hnx2⟩ := hid2.out
          have hup2 := hup'.out
          have hcu : p1 ++ l1 :: (q1 ++ (⟨nb, ⟨⟨xk, xs, true⟩, ⟨#[]⟩⟩, k + 1⟩ : Nd) :: restN ns ⟨xk, xs, true⟩) = (headN hd :: aheadN ns ⟨xk, xs, true⟩) ++ ⟨nb, ⟨⟨xk, xs, true⟩, ⟨#[]⟩⟩, k + 1⟩ :: restN ns ⟨xk, xs, true⟩ := by rw [he1.out]; simp
          rw [← hlb, ← hnx2, hcu] at hup2
          have hup3 := hup2.off (B := fun _ => False) (.of_ext (Ext.refl _).drew) (fun _ _ => id)
          clear hlb hnx2 hcu hup2
          go_wp2_with fail
          go_roundw
          case rel => exact ⟨k + 1, by omega, by go_num, hup3, hOk.drew⟩
          case measure => simp [intOf]; omega
        · obtain rfl : k = tall := by omega
          have hki : ¬ (k : Int) < (k : Int) := by omega
          have htD : ¬ putD hd ns nb tb := fun h => by
            have h0 := hS.nd
            rcases h with h | ⟨n, hn, h⟩ | h
            · subst h; simp at h0
            · subst h; simp at h0; exact h0.1.2 n hn rfl
            · have := hS.lt (k := tb) (.inl rfl); omega
          have hxD : ¬ putD hd ns nb w.heap.size := fun h => by
            rcases h with h | ⟨n, hn, h⟩ | h
            · have := hS.lt (k := hd) (.inr (.inl rfl)); omega
            · have := hS.lt (k := n.blk) (.inr (.inr ⟨n, hn, rfl⟩)); omega
            · omega
          have hTb : wr.heap[tb]? = some (.cells #[.pointer (some ⟨hd, 0, none⟩), .int .i64 (ns.length : Int), .int .i64 (sizeL ns : Int)] 66 (0, 0)) := by rw [hO.block tb (Array.getElem?_eq_some_iff.1 hS5.tab).1 htD]; exact hS5.tab
          have hXr : wr.heap[w.heap.size]? = some (.cells (enRow ⟨⟨xk, xs, true⟩, ⟨#[]⟩⟩) 49 (0, 0)) := by rw [hO.block _ (Array.getElem?_eq_some_iff.1 hX5).1 hxD]; exact hX5
          have hsz := sizeL_le hS.fit
          have hks : xk.size ≤ 32 := by have := hk'.out; unfold okeyB at this; simp at this; omega
          obtain ⟨t0, t1, t2, tf⟩ := tab_cells hTb
          have tf1 := tf 1
          have tf2 := tf 2
          have tfb : (wr.setCell ⟨tb, 1, none⟩ (.int .i64 ((ns.length : Int) + 1))).frozen? ⟨tb, 2, none⟩ = false := by rw [World.frozen?_setCell]; exact tf2
          have htx : tb ≠ w.heap.size := by have := hS.lt (k := tb) (.inl rfl); omega
          obtain ⟨y0, _, _, y3⟩ := en_cells hXr
          have u2 : (wr.setCell ⟨tb, 1, none⟩ (.int .i64 ((ns.length : Int) + 1))).cell? ⟨tb, 2, none⟩ = some (.int .i64 (sizeL ns : Int)) := by rw [World.cell?_setCell_other _ _ _ _ (by simp)]; exact t2
          have u0 : (wr.setCell ⟨tb, 1, none⟩ (.int .i64 ((ns.length : Int) + 1))).cell? ⟨w.heap.size, 0, none⟩ = some (.string xk) := by rw [World.cell?_setCell_other _ _ _ _ (by simp)]; exact y0
          have u3 : (wr.setCell ⟨tb, 1, none⟩ (.int .i64 ((ns.length : Int) + 1))).cell? ⟨w.heap.size, 3, none⟩ = some (.string ⟨#[]⟩) := by rw [World.cell?_setCell_other _ _ _ _ (by simp)]; exact y3
          have hsv : (⟨⟨xk, xs, true⟩, ⟨#[]⟩⟩ : En).val.size ≤ 256 := by simp only; first | omega | decide
          have hk8 : k ≤ 8 := ht8
          clear hC0 hT5 hS5 hA5 hX5 hS4 hX4 hA4 z1 t0 tf hX2
          have hsum : (0 : Int) ≤ (sizeL ns : Int) ∧ (sizeL ns : Int) ≤ 2000000 := by omega
          obtain ⟨hsum1, hsum2⟩ := hsum
          go_wp2_with fail
          go_region
          go_wp2_with fail
          go_ret
          exact put_final hS (hEw.trans hE5) (by omega) hC hO hTb ht1 ht8 (by have h1 : xk.size ≤ 32 := hks; have h2 : (⟨⟨xk, xs, true⟩, ⟨#[]⟩⟩ : En).val.size ≤ 256 := hsv; simp only at h2 ⊢; omega) hth'.out hpc'.out hpl'.out
  · have hpc : putC (ns.map Nd.e) ⟨⟨xk, xs, true⟩, ⟨#[]⟩⟩ (tall : Int) = 8 := by unfold putC; rw [hok'.out]; simp only [hth]; simp
    have hpl : putL (ns.map Nd.e) ⟨⟨xk, xs, true⟩, ⟨#[]⟩⟩ (tall : Int) = ns.map Nd.e := by unfold putL; rw [hok'.out]; simp only [hth]; simp
    have hpc' := Lib.hid hpc
    have hpl' := Lib.hid hpl
    clear hpc hpl hth
    go_wp2_with fail
    go_ret
    exact put_same hS4 hEw (by rw [hpc'.out]; rfl) hpl'.out
end Go.Proofs.YtfcpnkalcijflaaGreatDoor
