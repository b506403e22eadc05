import Derived.Test.YtjkikpfccmhfmaaW9
import Derived.Test.YtjkikpfccmhfmaaKit3
namespace Go.Proofs.Ytjkikpfccmhfmaa
open Go.RowKit
theorem on_lt (T : Nat → Nat) (s : Nat) (l : List Nat) : Crc.on T s l < 4294967296 := Crc.inv_lt _
theorem on_append (T : Nat → Nat) (hT : TOK T) (s : Nat) (x y : List Nat) (hx : ∀ c ∈ x, c < 256) : Crc.on T (Crc.on T s x) y = Crc.on T s (x ++ y) := by
  unfold Crc.on
  rw [Crc.inv_inv (run_lt T hT x _ (Crc.inv_lt s) hx)]
  unfold Crc.run
  rw [List.foldl_append]
theorem BytesAt.take {w : World} {a : Option Addr} {cap : Nat} {bs : List Nat} (h : BytesAt w (.slice a bs.length cap) bs) {k : Nat} (hk : k ≤ bs.length) : BytesAt w (.slice a k cap) (bs.take k) := by
  have e : (bs.take k).length = k := by simp; omega
  refine ⟨fun c hc => h.1 c (List.mem_of_mem_take hc), ?_⟩
  have := h.2.take hk
  rw [e]
  simpa [u8s, List.map_take] using this
theorem BytesAt.drop {w : World} {a : Option Addr} {cap : Nat} {bs : List Nat} (h : BytesAt w (.slice a bs.length cap) bs) (k : Nat) : BytesAt w (.slice (tailAddr a cap k 1) (bs.length - k) (cap - k)) (bs.drop k) := by
  refine ⟨fun c hc => h.1 c (List.mem_of_mem_drop hc), ?_⟩
  have := h.2.drop k
  rw [List.length_drop]
  simpa [u8s, List.map_drop] using this
def agg5 (L : Nat → Nat) : Array Value := #[.int .u32 ((L 0 : Nat) : Int), .int .u32 ((L 1 : Nat) : Int), .int .u32 ((L 2 : Nat) : Int), .int .u32 ((L 3 : Nat) : Int), .int .u32 ((L 4 : Nat) : Int)]
theorem agg5_at (L : Nat → Nat) (i : Nat) (h : i < 5) : (agg5 L)[i]? = some (.int .u32 ((L i : Nat) : Int)) := by
  match i, h with
  | 0, _ => rfl
  | 1, _ => rfl
  | 2, _ => rfl
  | 3, _ => rfl
  | 4, _ => rfl
theorem okc_agg5 {w : World} {cs : Array Value} (h : ∃ n, OKC Try.prog w n 36 cs.toList) : ∃ L : Nat → Nat, (∀ i, L i < 4294967296) ∧ cs = agg5 L := by
  obtain ⟨L, h1, h2, h3⟩ := okc_u32s Try.underlying36 (by kernel_rfl) h
  refine ⟨L, h1, ?_⟩
  apply Array.ext_getElem?
  intro i
  by_cases hi : i < 5
  · rw [h3 i hi, agg5_at L i hi]
  · rw [Array.getElem?_eq_none (by omega), Array.getElem?_eq_none (by simp [agg5]; omega)]
theorem info5s : (Try.prog.info? 5).map (·.size) = some 1 := by kernel_rfl
theorem on_any' (bt : Nat) (T : Nat → Nat) (s : Int) (v : Value) (bs : List Nat) (r : Nat) (w : World) (h0 : 0 ≤ s) (h1 : s < 4294967296) (hT : TabAt w bt T) (hO : TOK T) (hB : BytesAt w v bs) (hr : Crc.on T s.toNat bs = r) :
    Calls Try.prog 19 #[.pointer (some ⟨bt, 0, none⟩), .int .u32 s, v] w fun e w' => e = .returned (.int .u32 ((r : Nat) : Int)) ∧ w = w' := by
  subst hr
  exact on_any bt T s v bs w h0 h1 hT hO hB
set_option maxRecDepth 100000 in
set_option maxHeartbeats 1000000 in
theorem sumsOn_walk (w : World) (v : Value) (o0 : ∃ n, OKC Try.prog w n 26 [v]) (s : Int) (o1 : ∃ n, OKC Try.prog w n 35 [.int .u16 s]) (l : Array Value) (o2 : ∃ n, OKC Try.prog w n 36 l.toList) :
    Calls Try.prog 5 #[v, .int .u16 s, .agg l] w fun e w' => e = .returned (.bool true) ∧ Ext w w' := by
  obtain ⟨bs, a, cap, rfl, hB, hm⟩ := okc_bytes o0
  obtain ⟨cut, rfl, hcut⟩ : ∃ c : Nat, s = c ∧ c < 65536 := by
    obtain ⟨n, h⟩ := o1
    obtain ⟨x, hx, hw⟩ := okc_int Try.underlying35 h
    obtain ⟨h0, h1⟩ := wf_u16 hw
    simp at hx; subst hx
    obtain ⟨c, rfl⟩ := Int.eq_ofNat_of_zero_le h0
    exact ⟨c, rfl, by omega⟩
  obtain ⟨L, hL, rfl⟩ := okc_agg5 o2
  clear o0 o1 o2
  have hO := tabOf_ok L (fun i _ => hL i)
  go_enter Try.func5, Try.ntmps5
  go_wp2_with fail
  obtain ⟨w0, h0⟩ : ∃ w0, w0 = w.alloc (.cells (agg5 L) 36) := ⟨_, rfl⟩
  have hl0 : ∀ i, i < 5 → w0.cell? ⟨w.heap.size, i, none⟩ = some (.int .u32 ((L i : Nat) : Int)) := fun i hi => by
    rw [h0, cell_of_row _ _ i (agg5 L) 36 (0, 0) (heap_alloc_new w _)]; exact agg5_at L i hi
  have hE0 : Ext w w0 := by rw [h0]; exact (Ext.refl _).alloc _
  rw [← h0]
  clear h0
  refine (alive_any w0).mono ?_
  rintro e w1 ⟨rfl, hx1⟩
  by_cases hbig : 100000 < bs.length
  · go_wp2_with fail
    refine (alive_any w1).mono ?_
    rintro e w2 ⟨rfl, hx2⟩
    go_wp2
    go_ret
    exact ⟨rfl, hE0.trans (hx1.trans hx2)⟩
  · have hle : bs.length ≤ 100000 := by omega
    clear hbig
    have hz := zero23
    obtain ⟨k, hk⟩ : ∃ k, k = cut % (bs.length + 1) := ⟨_, rfl⟩
    have hkl : k ≤ bs.length := by have := Nat.mod_lt cut (show 0 < bs.length + 1 by omega); omega
    have hkm : (cut : Int) % ((bs.length : Int) + 1) = (k : Int) := by rw [hk]; simp
    clear hk
    go_wp2_with fail
    refine (table_any w1).mono ?_
    rintro e w2 ⟨rfl, hx2⟩
    have a0 := (Ext.trans hx1 hx2).cell (hl0 0 (by decide))
    have a1 := (Ext.trans hx1 hx2).cell (hl0 1 (by decide))
    have a2 := (Ext.trans hx1 hx2).cell (hl0 2 (by decide))
    have a3 := (Ext.trans hx1 hx2).cell (hl0 3 (by decide))
    have b0 := World.block_lt_of_cell? w2 _ a0
    have b0' : w.heap.size < w2.heap.size := b0
    clear b0
    go_wp2_with (first | (refine wpList_store_tab rfl _ _ rfl _ _ _ rfl rfl rfl ?_) | fail)
    obtain ⟨w3, h3⟩ : ∃ w3, w3 = w2.alloc (.cells (aggOf Crc.tab) 23) := ⟨_, rfl⟩
    have ht : w3.heap[w2.heap.size]? = some (.cells (aggOf Crc.tab) 23 (0, 0)) := by rw [h3]; exact heap_alloc_new _ _
    have h03 : Ext w0 w3 := by rw [h3]; exact Ext.alloc (Ext.trans hx1 hx2) _
    rw [← h3]
    clear h3 a0 a1 a2 a3 b0'
    refine (ltable_any L (fun i _ => hL i) w3).mono ?_
    rintro e w4 ⟨rfl, hx4⟩
    go_wp2_with (first | (refine wpList_store_tab rfl _ _ rfl _ _ _ rfl rfl rfl ?_) | fail)
    obtain ⟨W, hW⟩ : ∃ w5, w5 = w4.alloc (.cells (aggOf (tabOf L)) 23) := ⟨_, rfl⟩
    have hu : W.heap[w4.heap.size]? = some (.cells (aggOf (tabOf L)) 23 (0, 0)) := by rw [hW]; exact heap_alloc_new _ _
    have hEW : Ext w3 W := by rw [hW]; exact Ext.alloc hx4 _
    rw [← hW]
    clear hW hz
    have Tt := TabAt.of_row (hEW.row ht)
    have Tu := TabAt.of_row hu
    have a4 := (h03.trans hEW).cell (hl0 4 (by decide))
    have h0W : Ext w W := hE0.trans (h03.trans hEW)
    have hB9 := hB.ext h0W
    have hBk := hB9.take hkl
    have hBd := hB9.drop k
    have c1 := run_cut_front (P := Try.prog) Try.underlying26 info5s a bs.length cap k
    have c2 := run_cut_back (P := Try.prog) Try.underlying26 info5s a bs.length cap k hkl
    have hcap : k ≤ cap := by
      obtain ⟨b, off, hat⟩ := hB.2.at
      rcases Nat.eq_zero_or_pos bs.length with h0 | h0
      · omega
      · have := (hat h0).2.1; omega
    have c1' := c1 hcap
    have s1 := on_append Crc.tab tab_ok 0 (bs.take k) (bs.drop k) (fun c h => hB.1 c (List.mem_of_mem_take h))
    have s2 := on_append Crc.tab tab_ok (L 4) (bs.take k) (bs.drop k) (fun c h => hB.1 c (List.mem_of_mem_take h))
    have s3 := on_append (tabOf L) hO (L 4) (bs.take k) (bs.drop k) (fun c h => hB.1 c (List.mem_of_mem_take h))
    rw [List.take_append_drop] at s1 s2 s3
    have S1 := Lib.hid s1
    have S2 := Lib.hid s2
    have S3 := Lib.hid s3
    have l4 := hL 4
    have g1 := on_lt Crc.tab 0 (bs.take k)
    have g2 := on_lt Crc.tab (L 4) (bs.take k)
    have g3 := on_lt (tabOf L) (L 4) (bs.take k)
    clear s1 s2 s3 c1 hl0 ht hu hEW h03 hE0 hx1 hx2 hx4 hcap
    generalize tailAddr a cap k 1 = ta at *
    refine wp_region_class (Ext W) (by kernel_rfl) (by kernel_rfl) (Ext.refl _).drew ?_
    iterate 1 (refine wpQuiet_step (fun K hK => ?_); go_simp; first | (refine hK _ ?_; clear hK K) | (refine ⟨_, fun _ _ => rfl, hK _ ?_⟩; clear hK K))
    refine wpQuiet_step (fun K hK => ?_)
    go_simp
    refine ⟨_, fun w' h => calls_same h (of_any w2.heap.size Crc.tab _ bs w' (Tt.ext h) tab_ok (hB9.ext h)), hK _ ?_⟩; clear hK K
    iterate 3 (refine wpQuiet_step (fun K hK => ?_); go_simp; first | (refine hK _ ?_; clear hK K) | (refine ⟨_, fun _ _ => rfl, hK _ ?_⟩; clear hK K))
    refine wpQuiet_step (fun K hK => ?_)
    go_simp
    refine ⟨_, fun w' h => calls_same h (of_any w2.heap.size Crc.tab _ (bs.take k) w' (Tt.ext h) tab_ok (hBk.ext h)), hK _ ?_⟩; clear hK K
    iterate 3 (refine wpQuiet_step (fun K hK => ?_); go_simp; first | (refine hK _ ?_; clear hK K) | (refine ⟨_, fun _ _ => rfl, hK _ ?_⟩; clear hK K))
    refine wpQuiet_step (fun K hK => ?_)
    go_simp
    refine ⟨_, fun w' h => calls_same h (on_any' w2.heap.size Crc.tab _ _ (bs.drop k) (Crc.on Crc.tab 0 bs) w' (by omega) (by omega) (Tt.ext h) tab_ok (hBd.ext h) (by rw [Int.toNat_natCast]; exact S1.out)), hK _ ?_⟩; clear hK K
    iterate 3 (refine wpQuiet_step (fun K hK => ?_); go_simp; first | (refine hK _ ?_; clear hK K) | (refine ⟨_, fun _ _ => rfl, hK _ ?_⟩; clear hK K))
    refine wpQuiet_load_cell rfl 22 _ rfl w.heap.size 4 rfl _ (fun w' h => h.cell a4) _ Try.underlying22 rfl ?_
    iterate 1 (refine wpQuiet_step (fun K hK => ?_); go_simp; first | (refine hK _ ?_; clear hK K) | (refine ⟨_, fun _ _ => rfl, hK _ ?_⟩; clear hK K))
    refine wpQuiet_step (fun K hK => ?_)
    go_simp
    refine ⟨_, fun w' h => calls_same h (on_any' w4.heap.size (tabOf L) _ _ bs (Crc.on (tabOf L) (L 4) bs) w' (by omega) (by omega) (Tu.ext h) hO (hB9.ext h) (by rw [Int.toNat_natCast])), hK _ ?_⟩; clear hK K
    iterate 1 (refine wpQuiet_step (fun K hK => ?_); go_simp; first | (refine hK _ ?_; clear hK K) | (refine ⟨_, fun _ _ => rfl, hK _ ?_⟩; clear hK K))
    refine wpQuiet_load_cell rfl 22 _ rfl w.heap.size 4 rfl _ (fun w' h => h.cell a4) _ Try.underlying22 rfl ?_
    iterate 3 (refine wpQuiet_step (fun K hK => ?_); go_simp; first | (refine hK _ ?_; clear hK K) | (refine ⟨_, fun _ _ => rfl, hK _ ?_⟩; clear hK K))
    refine wpQuiet_step (fun K hK => ?_)
    go_simp
    refine ⟨_, fun w' h => calls_same h (on_any' w4.heap.size (tabOf L) _ _ (bs.take k) (Crc.on (tabOf L) (L 4) (bs.take k)) w' (by omega) (by omega) (Tu.ext h) hO (hBk.ext h) (by rw [Int.toNat_natCast])), hK _ ?_⟩; clear hK K
    iterate 3 (refine wpQuiet_step (fun K hK => ?_); go_simp; first | (refine hK _ ?_; clear hK K) | (refine ⟨_, fun _ _ => rfl, hK _ ?_⟩; clear hK K))
    refine wpQuiet_step (fun K hK => ?_)
    go_simp
    refine ⟨_, fun w' h => calls_same h (on_any' w4.heap.size (tabOf L) _ _ (bs.drop k) (Crc.on (tabOf L) (L 4) bs) w' (by omega) (by omega) (Tu.ext h) hO (hBd.ext h) (by rw [Int.toNat_natCast]; exact S3.out)), hK _ ?_⟩; clear hK K
    iterate 2 (refine wpQuiet_step (fun K hK => ?_); go_simp; first | (refine hK _ ?_; clear hK K) | (refine ⟨_, fun _ _ => rfl, hK _ ?_⟩; clear hK K))
    refine wpQuiet_nil (fun W2 hW2 => ?_)
    go_wp2
    refine wp_region_class (Ext W) (by kernel_rfl) (by kernel_rfl) hW2.drew ?_
    iterate 1 (refine wpQuiet_step (fun K hK => ?_); go_simp; first | (refine hK _ ?_; clear hK K) | (refine ⟨_, fun _ _ => rfl, hK _ ?_⟩; clear hK K))
    refine wpQuiet_load_cell rfl 22 _ rfl w.heap.size 4 rfl _ (fun w' h => h.cell a4) _ Try.underlying22 rfl ?_
    refine wpQuiet_step (fun K hK => ?_)
    go_simp
    refine ⟨_, fun w' h => calls_same h (on_any' w2.heap.size Crc.tab _ _ [] (L 4) w' (by omega) (by omega) (Tt.ext h) tab_ok (BytesAt.none _) (by rw [Int.toNat_natCast]; exact Crc.inv_inv l4)), hK _ ?_⟩; clear hK K
    iterate 1 (refine wpQuiet_step (fun K hK => ?_); go_simp; first | (refine hK _ ?_; clear hK K) | (refine ⟨_, fun _ _ => rfl, hK _ ?_⟩; clear hK K))
    refine wpQuiet_load_cell rfl 22 _ rfl w.heap.size 4 rfl _ (fun w' h => h.cell a4) _ Try.underlying22 rfl ?_
    iterate 3 (refine wpQuiet_step (fun K hK => ?_); go_simp; first | (refine hK _ ?_; clear hK K) | (refine ⟨_, fun _ _ => rfl, hK _ ?_⟩; clear hK K))
    refine wpQuiet_load_cell rfl 22 _ rfl w.heap.size 4 rfl _ (fun w' h => h.cell a4) _ Try.underlying22 rfl ?_
    iterate 1 (refine wpQuiet_step (fun K hK => ?_); go_simp; first | (refine hK _ ?_; clear hK K) | (refine ⟨_, fun _ _ => rfl, hK _ ?_⟩; clear hK K))
    refine wpQuiet_step (fun K hK => ?_)
    go_simp
    refine ⟨_, fun w' h => calls_same h (on_any' w2.heap.size Crc.tab _ _ bs (Crc.on Crc.tab (L 4) bs) w' (by omega) (by omega) (Tt.ext h) tab_ok (hB9.ext h) (by rw [Int.toNat_natCast])), hK _ ?_⟩; clear hK K
    iterate 1 (refine wpQuiet_step (fun K hK => ?_); go_simp; first | (refine hK _ ?_; clear hK K) | (refine ⟨_, fun _ _ => rfl, hK _ ?_⟩; clear hK K))
    refine wpQuiet_load_cell rfl 22 _ rfl w.heap.size 4 rfl _ (fun w' h => h.cell a4) _ Try.underlying22 rfl ?_
    iterate 3 (refine wpQuiet_step (fun K hK => ?_); go_simp; first | (refine hK _ ?_; clear hK K) | (refine ⟨_, fun _ _ => rfl, hK _ ?_⟩; clear hK K))
    refine wpQuiet_step (fun K hK => ?_)
    go_simp
    refine ⟨_, fun w' h => calls_same h (on_any' w2.heap.size Crc.tab _ _ (bs.take k) (Crc.on Crc.tab (L 4) (bs.take k)) w' (by omega) (by omega) (Tt.ext h) tab_ok (hBk.ext h) (by rw [Int.toNat_natCast])), hK _ ?_⟩; clear hK K
    iterate 3 (refine wpQuiet_step (fun K hK => ?_); go_simp; first | (refine hK _ ?_; clear hK K) | (refine ⟨_, fun _ _ => rfl, hK _ ?_⟩; clear hK K))
    refine wpQuiet_step (fun K hK => ?_)
    go_simp
    refine ⟨_, fun w' h => calls_same h (on_any' w2.heap.size Crc.tab _ _ (bs.drop k) (Crc.on Crc.tab (L 4) bs) w' (by omega) (by omega) (Tt.ext h) tab_ok (hBd.ext h) (by rw [Int.toNat_natCast]; exact S2.out)), hK _ ?_⟩; clear hK K
    iterate 3 (refine wpQuiet_step (fun K hK => ?_); go_simp; first | (refine hK _ ?_; clear hK K) | (refine ⟨_, fun _ _ => rfl, hK _ ?_⟩; clear hK K))
    refine wpQuiet_nil (fun W3 hW3 => ?_)
    go_wp2
    go_ret
    exact ⟨rfl, h0W.trans hW3⟩
end Go.Proofs.Ytjkikpfccmhfmaa
