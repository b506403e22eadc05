import Derived.Test.YtjkikpfccmhfmaaW8
namespace Go.Proofs.Ytjkikpfccmhfmaa
open Go.RowKit
theorem okc_arr {P : Program} {w : World} {t e : TypeId} {m : Nat} {k : IntKind} {cs : Array Value} (ht : P.underlying t = some (.array m e)) (he : P.underlying e = some (.int k)) (hs : P.cellsOf t = m) (h1 : P.cellsOf e = 1) (h : ∃ n, OKC P w n t cs.toList) :
    cs.size = m ∧ ∀ i, i < m → ∃ x : Int, cs[i]? = some (.int k x) ∧ (Lit.int k x).wf = true := by
  obtain ⟨n, h⟩ := h
  cases n with
  | zero => exact h.elim
  | succ n =>
    unfold OKC at h
    rw [ht] at h
    obtain ⟨hl, hi⟩ := h
    rw [hs] at hl
    have hl' : cs.size = m := by simpa using hl
    refine ⟨hl', fun i hm => ?_⟩
    have h2 := hi i hm
    rw [h1, Nat.mul_one] at h2
    obtain ⟨x, hx, hw⟩ := okc_int he h2
    refine ⟨x, ?_, hw⟩
    have : ((cs.toList.drop i).take 1)[0]? = some (.int k x) := by rw [hx]; rfl
    rw [List.getElem?_take_of_lt (by decide), List.getElem?_drop] at this
    simpa using this
theorem okc_u32s {w : World} {t : TypeId} {m : Nat} {cs : Array Value} (ht : Try.prog.underlying t = some (.array m 22)) (hs : Try.prog.cellsOf t = m) (h : ∃ n, OKC Try.prog w n t cs.toList) :
    ∃ L : Nat → Nat, (∀ i, L i < 4294967296) ∧ cs.size = m ∧ ∀ i, i < m → cs[i]? = some (.int .u32 ((L i : Nat) : Int)) := by
  obtain ⟨h1, h2⟩ := okc_arr ht Try.underlying22 hs (by kernel_rfl) h
  refine ⟨fun i => (match cs[i]? with | some (.int _ x) => x.toNat | _ => 0) % 4294967296, fun i => Nat.mod_lt _ (by decide), h1, fun i hi => ?_⟩
  obtain ⟨x, hx, hw⟩ := h2 i hi
  obtain ⟨h0, h3⟩ := wf_u32 hw
  have e : (match cs[i]? with | some (.int _ x) => x.toNat | _ => 0) = x.toNat := by rw [hx]
  simp only [e]
  rw [hx, show ((x.toNat % 4294967296 : Nat) : Int) = x by omega]
theorem okc_agg4 {w : World} {cs : Array Value} (h : ∃ n, OKC Try.prog w n 27 cs.toList) : ∃ L : Nat → Nat, (∀ i, L i < 4294967296) ∧ cs = agg4 L := by
  obtain ⟨L, h1, h2, h3⟩ := okc_u32s Try.underlying27 (by kernel_rfl) h
  refine ⟨L, h1, ?_⟩
  apply Array.ext_getElem?
  intro i
  by_cases hi : i < 4
  · rw [h3 i hi, agg4_at L i hi]
  · rw [Array.getElem?_eq_none (by omega), Array.getElem?_eq_none (by simp [agg4]; omega)]
theorem TabAt.of_row {T : Nat → Nat} {w : World} {b : Nat} (h : w.heap[b]? = some (.cells (aggOf T) 23 (0, 0))) : TabAt w b T := fun i hi => by
  rw [cell_of_row w b i _ 23 _ h]; exact aggOf_at T i hi
theorem info27 : (Try.prog.info? 27).map (·.size) = some 4 := by kernel_rfl
set_option maxRecDepth 100000 in
set_option maxHeartbeats 1000000 in
theorem sumsOf_walk (w : World) (v : Value) (o0 : ∃ n, OKC Try.prog w n 26 [v]) (s : Int) (o1 : ∃ n, OKC Try.prog w n 22 [.int .u32 s]) (l : Array Value) (o2 : ∃ n, OKC Try.prog w n 27 l.toList) :
    Calls Try.prog 4 #[v, .int .u32 s, .agg l] w fun e w' => e = .returned (.bool true) ∧ Ext w w' := by
  obtain ⟨bs, a, cap, rfl, hB, hm⟩ := okc_bytes o0
  obtain ⟨n, rfl, hn⟩ := okc_u32' o1
  obtain ⟨L, hL, rfl⟩ := okc_agg4 o2
  clear o0 o1 o2
  have hO := tabOf_ok L (fun i _ => hL i)
  by_cases hbig : 100000 < bs.length
  · go_enter Try.func4, Try.ntmps4
    go_wp2
    go_ret
    exact ⟨rfl, (Ext.refl _).alloc _⟩
  · have hle : bs.length ≤ 100000 := by omega
    clear hbig
    have hz := zero23
    go_enter Try.func4, Try.ntmps4
    go_wp2_with fail
    obtain ⟨w0, h0⟩ : ∃ w0, w0 = w.alloc (.cells (agg4 L) 27) := ⟨_, rfl⟩
    have hl0 : w0.heap[w.heap.size]? = some (.cells (agg4 L) 27 (0, 0)) := by rw [h0]; exact heap_alloc_new _ _
    have hE0 : Ext w w0 := by rw [h0]; exact (Ext.refl _).alloc _
    rw [← h0]
    clear h0
    refine (twin_any _ bs w0 (hB.ext hE0) (by omega)).mono ?_
    rintro e w1 ⟨c, rfl, hc, hx1⟩
    go_wp2_with fail
    refine (table_any w1).mono ?_
    rintro e w2 ⟨rfl, hx2⟩
    go_wp2_with (first | (refine wpList_store_tab rfl _ _ rfl _ _ _ rfl rfl rfl ?_) | fail)
    obtain ⟨w3, h3⟩ : ∃ w3, w3 = w2.alloc (.cells (aggOf Crc.tab) 23) := ⟨_, rfl⟩
    have ht : w3.heap[w2.heap.size]? = some (.cells (aggOf Crc.tab) 23 (0, 0)) := by rw [h3]; exact heap_alloc_new _ _
    have hE3 : Ext w1 w3 := by rw [h3]; exact Ext.alloc hx2 _
    rw [← h3]
    clear h3 hx2
    refine (refTable_any w3).mono ?_
    rintro e w4 ⟨rfl, hx4⟩
    have h04 : Ext w0 w4 := (hx1.trans hE3).trans hx4
    go_wp2_with (first | (refine wpList_store_tab rfl _ _ rfl _ _ _ rfl rfl rfl ?_) | (refine wpList_load_row rfl 27 _ rfl w.heap.size rfl 27 (agg4 L) (0, 0) _ ((h04.alloc _).row hl0) Try.underlying27 rfl info27 ?_) | fail)
    obtain ⟨w5, h5⟩ : ∃ w5, w5 = w4.alloc (.cells (aggOf Crc.tab) 23) := ⟨_, rfl⟩
    have hw : w5.heap[w4.heap.size]? = some (.cells (aggOf Crc.tab) 23 (0, 0)) := by rw [h5]; exact heap_alloc_new _ _
    have hE5 : Ext w3 w5 := by rw [h5]; exact Ext.alloc hx4 _
    have h05 : Ext w0 w5 := by rw [h5]; exact Ext.alloc h04 _
    rw [← h5]
    clear h5 hx4 h04
    refine (ltable_any L (fun i _ => hL i) w5).mono ?_
    rintro e w6 ⟨rfl, hx6⟩
    have h06 : Ext w0 w6 := h05.trans hx6
    go_wp2_with (first | (refine wpList_store_tab rfl _ _ rfl _ _ _ rfl rfl rfl ?_) | (refine wpList_load_row rfl 27 _ rfl w.heap.size rfl 27 (agg4 L) (0, 0) _ ((h06.alloc _).row hl0) Try.underlying27 rfl info27 ?_) | fail)
    obtain ⟨w7, h7⟩ : ∃ w7, w7 = w6.alloc (.cells (aggOf (tabOf L)) 23) := ⟨_, rfl⟩
    have hu : w7.heap[w6.heap.size]? = some (.cells (aggOf (tabOf L)) 23 (0, 0)) := by rw [h7]; exact heap_alloc_new _ _
    have hE7 : Ext w5 w7 := by rw [h7]; exact Ext.alloc hx6 _
    rw [← h7]
    clear h7 hx6 h06
    refine (ltable_any L (fun i _ => hL i) w7).mono ?_
    rintro e w8 ⟨rfl, hx8⟩
    go_wp2_with (first | (refine wpList_store_tab rfl _ _ rfl _ _ _ rfl rfl rfl ?_) | fail)
    obtain ⟨w9, h9⟩ : ∃ w9, w9 = w8.alloc (.cells (aggOf (tabOf L)) 23) := ⟨_, rfl⟩
    have hs : w9.heap[w8.heap.size]? = some (.cells (aggOf (tabOf L)) 23 (0, 0)) := by rw [h9]; exact heap_alloc_new _ _
    have hE9 : Ext w7 w9 := by rw [h9]; exact Ext.alloc hx8 _
    rw [← h9]
    clear h9 hx8 hz
    have hu9 := hE9.row hu
    have hw9 := (hE7.trans hE9).row hw
    have ht9 := (hE5.trans (hE7.trans hE9)).row ht
    have hc9 := (TwinR.of hc).ext (hE3.trans (hE5.trans (hE7.trans hE9)))
    have h09 : Ext w w9 := hE0.trans (h05.trans (hE7.trans hE9))
    have hB9 := hB.ext h09
    have hcB := hc9.bytes hB.1
    have Tt := TabAt.of_row ht9
    have Tw := TabAt.of_row hw9
    have Tu := TabAt.of_row hu9
    have Ts := TabAt.of_row hs
    have heq := eql23
    clear hu hw ht hc hE3 hE5 hE7 hE9 h05 hx1 hl0 hE0
    refine (of_any _ _ _ _ _ Tt tab_ok hcB).mono ?_
    rintro e w2' ⟨rfl, rfl⟩
    go_wp2_with fail
    refine (refOf_any _ _ _ _ _ Tw tab_ok hB9).mono ?_
    rintro e w2' ⟨rfl, rfl⟩
    go_wp2_with fail
    refine (on_any _ _ _ _ _ _ (by omega) (by omega) Tt tab_ok hcB).mono ?_
    rintro e w2' ⟨rfl, rfl⟩
    go_wp2_with fail
    refine (refOn_any _ _ _ _ _ _ (by omega) (by omega) Tw tab_ok hB9).mono ?_
    rintro e w2' ⟨rfl, rfl⟩
    go_wp2_with fail
    refine (of_any _ _ _ _ _ Tu hO hcB).mono ?_
    rintro e w2' ⟨rfl, rfl⟩
    go_wp2_with fail
    refine (refOf_any _ _ _ _ _ Ts hO hB9).mono ?_
    rintro e w2' ⟨rfl, rfl⟩
    go_wp2_with fail
    refine (on_any _ _ _ _ _ _ (by omega) (by omega) Tu hO hcB).mono ?_
    rintro e w2' ⟨rfl, rfl⟩
    go_wp2_with fail
    refine (refOn_any _ _ _ _ _ _ (by omega) (by omega) Ts hO hB9).mono ?_
    rintro e w2' ⟨rfl, rfl⟩
    go_wp2_with fail
    refine (of_nil _ _).mono ?_
    rintro e w2' ⟨rfl, rfl⟩
    go_wp2_with fail
    refine (on_nil _ _ _).mono ?_
    rintro e w2' ⟨rfl, rfl⟩
    go_wp2_with (first | (refine wpList_load_whole rfl 23 _ rfl w6.heap.size rfl 23 (aggOf (tabOf L)) (0, 0) _ hu9 Try.underlying23 rfl (by rw [aggOf_size]; exact info23) ?_) | (refine wpList_load_whole rfl 23 _ rfl w8.heap.size rfl 23 (aggOf (tabOf L)) (0, 0) _ hs Try.underlying23 rfl (by rw [aggOf_size]; exact info23) ?_) | (refine wpList_load_whole rfl 23 _ rfl w2.heap.size rfl 23 (aggOf Crc.tab) (0, 0) _ ht9 Try.underlying23 rfl (by rw [aggOf_size]; exact info23) ?_) | (refine wpList_load_whole rfl 23 _ rfl w4.heap.size rfl 23 (aggOf Crc.tab) (0, 0) _ hw9 Try.underlying23 rfl (by rw [aggOf_size]; exact info23) ?_) | fail)
    refine (left_any _ _ bs _ hc9 hB9).mono ?_
    rintro e w10 ⟨rfl, hx10⟩
    go_wp2
    go_ret
    exact ⟨rfl, h09.trans hx10⟩
end Go.Proofs.Ytjkikpfccmhfmaa
