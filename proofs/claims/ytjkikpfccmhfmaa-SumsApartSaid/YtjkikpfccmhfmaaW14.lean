import Derived.Test.YtjkikpfccmhfmaaW11
import Derived.Test.YtjkikpfccmhfmaaW12
import Derived.Test.YtjkikpfccmhfmaaKit4
import Derived.Deep.RegionHeld3
namespace Go.Proofs.Ytjkikpfccmhfmaa
open Go.RowKit
def agg2 (L : Nat → Nat) : Array Value := #[.int .u32 ((L 0 : Nat) : Int), .int .u32 ((L 1 : Nat) : Int)]
theorem agg2_at (L : Nat → Nat) (i : Nat) (h : i < 2) : (agg2 L)[i]? = some (.int .u32 ((L i : Nat) : Int)) := by
  match i, h with
  | 0, _ => rfl
  | 1, _ => rfl
theorem okc_agg2 {w : World} {cs : Array Value} (h : ∃ n, OKC Try.prog w n 45 cs.toList) : ∃ L : Nat → Nat, (∀ i, L i < 4294967296) ∧ cs = agg2 L := by
  obtain ⟨L, h1, h2, h3⟩ := okc_u32s Try.underlying45 (by kernel_rfl) h
  refine ⟨L, h1, ?_⟩
  apply Array.ext_getElem?
  intro i
  by_cases hi : i < 2
  · rw [h3 i hi, agg2_at L i hi]
  · rw [Array.getElem?_eq_none (by omega), Array.getElem?_eq_none (by simp [agg2]; omega)]
set_option maxRecDepth 100000 in
set_option maxHeartbeats 1000000 in
theorem sumsApart_walk (w : World) (v : Value) (o0 : ∃ n, OKC Try.prog w n 26 [v]) (l : Array Value) (o1 : ∃ n, OKC Try.prog w n 45 l.toList) (s : Int) (o2 : ∃ n, OKC Try.prog w n 5 [.int .u8 s]) :
    Calls Try.prog 10 #[v, .agg l, .int .u8 s] w fun e w' => e = .returned (.bool true) ∧ Ext w w' := by
  obtain ⟨bs, a, cap, rfl, hB, hm⟩ := okc_bytes o0
  obtain ⟨L, hL, rfl⟩ := okc_agg2 o1
  obtain ⟨c, rfl, hc⟩ : ∃ c : Nat, s = c ∧ c < 256 := by
    obtain ⟨n, h⟩ := o2
    obtain ⟨c, h1, h2⟩ := okc_u8 h
    simp at h1; exact ⟨c, h1, h2⟩
  clear o0 o1 o2
  go_enter Try.func10, Try.ntmps10
  go_wp2_with fail
  obtain ⟨w0, h0⟩ : ∃ w0, w0 = w.alloc (.cells (agg2 L) 45) := ⟨_, rfl⟩
  have hl0 : ∀ i, i < 2 → w0.cell? ⟨w.heap.size, i, none⟩ = some (.int .u32 ((L i : Nat) : Int)) := fun i hi => by
    rw [h0, cell_of_row _ _ i (agg2 L) 45 (0, 0) (heap_alloc_new w _)]; exact agg2_at L i hi
  have hE0 : Ext w w0 := by rw [h0]; exact (Ext.refl _).alloc _
  rw [← h0]
  clear h0
  refine (alive_any w0).mono ?_
  rintro e w1 ⟨rfl, hx1⟩
  by_cases hbig : 100000 < bs.length
  · go_wp2_with fail
    refine (alive_any w1).mono ?_
    rintro e w2 ⟨rfl, hx2⟩
    go_wp2
    go_ret
    exact ⟨rfl, hE0.trans (hx1.trans hx2)⟩
  · have hle : bs.length ≤ 100000 := by omega
    clear hbig
    have hz := zero23
    go_wp2_with fail
    refine (table_any w1).mono ?_
    rintro e w2 ⟨rfl, hx2⟩
    obtain ⟨W, hW⟩ : ∃ w3, w3 = w2.alloc (.cells (aggOf Crc.tab) 23) := ⟨_, rfl⟩
    have ht : W.heap[w2.heap.size]? = some (.cells (aggOf Crc.tab) 23 (0, 0)) := by rw [hW]; exact heap_alloc_new _ _
    have h0W : Ext w0 W := by rw [hW]; exact Ext.alloc (Ext.trans hx1 hx2) _
    have a0 := h0W.cell (hl0 0 (by decide))
    have a1 := h0W.cell (hl0 1 (by decide))
    have a0' := a0
    have a1' := a1
    rw [hW] at a0' a1'
    go_wp2_with (first | (refine wpList_store_tab rfl _ _ rfl _ _ _ rfl rfl rfl ?_) | fail)
    clear hz a0' a1'
    rw [← hW]
    clear hW hx1 hx2
    have Tt := TabAt.of_row ht
    have hE : Ext w W := hE0.trans h0W
    have hB9 := hB.ext hE
    have l0 := hL 0
    have l1 := hL 1
    have hinj := Crc.on_inj (L 0) (L 1) l0 l1 bs hB.1
    have hbc : ∀ x ∈ bs ++ [c], x < 256 := fun x hx => by
      rcases List.mem_append.1 hx with hx | hx
      · exact hB.1 x hx
      · simp at hx; subst hx; exact hc
    have hcl : ∀ x ∈ [c], x < 256 := by simpa using hc
    have hlen : [c].length ≤ 9223372036854775807 := by simp
    have hsnoc := Lib.hid (on_append Crc.tab tab_ok (L 0) bs [c] hB.1)
    have hinj2 := Crc.on_inj (Crc.on Crc.tab (L 0) bs) (Crc.on Crc.tab (L 1) bs) (on_lt _ _ _) (on_lt _ _ _) [c] hcl
    rw [hsnoc.out] at hinj2
    obtain ⟨r, hr⟩ : ∃ r, r = decide (L 0 = L 1) := ⟨_, rfl⟩
    have e1 : Hid ((((Crc.on Crc.tab (L 0) bs : Nat) : Int) == ((Crc.on Crc.tab (L 1) bs : Nat) : Int)) = r) := by
      refine Lib.hid ?_
      rw [hr, Bool.eq_iff_iff]; simp only [beq_iff_eq, decide_eq_true_eq]
      exact ⟨fun h => hinj (by omega), fun h => by rw [h]⟩
    have e2 : Hid ((((L 0 : Nat) : Int) == ((L 1 : Nat) : Int)) = r) := by
      refine Lib.hid ?_
      rw [hr, Bool.eq_iff_iff]; simp only [beq_iff_eq, decide_eq_true_eq]; omega
    have e3 : Hid ((((Crc.on Crc.tab (L 0) (bs ++ [c]) : Nat) : Int) == ((Crc.on Crc.tab (Crc.on Crc.tab (L 1) bs) [c] : Nat) : Int)) = r) := by
      refine Lib.hid ?_
      rw [hr, Bool.eq_iff_iff]; simp only [beq_iff_eq, decide_eq_true_eq]
      exact ⟨fun h => hinj (hinj2 (by omega)), fun h => by rw [← hsnoc.out, h]⟩
    have g0 := on_lt Crc.tab (L 0) bs
    have g1 := on_lt Crc.tab (L 1) bs
    clear hinj hinj2 hr
    generalize L 0 = x0 at *
    generalize L 1 = x1 at *
    refine (on_any _ _ _ _ bs _ (by omega) (by omega) Tt tab_ok hB9).mono ?_
    rintro e w2' ⟨rfl, rfl⟩
    rw [Int.toNat_natCast]
    go_wp2_with fail
    refine (on_any _ _ _ _ bs _ (by omega) (by omega) Tt tab_ok hB9).mono ?_
    rintro e w2' ⟨rfl, rfl⟩
    rw [Int.toNat_natCast]
    go_wp2_with fail
    go_region_held3 (fun w' => w'.cell? ⟨w.heap.size, 0, none⟩ = some (.int .u32 (x0 : Int))) (first | go_keep | assumption) (first | (refine step_append_row rfl _ (.tmp 30) 26 5 rfl Try.underlying26 el5 W.drew W.heap.size _ _ _ rfl (World.ownsRow_nil _ _ _ _) (.slice a bs.length cap) bs.length (u8s bs) rfl (hB9.2.ext (Ext.refl _).drew) (u8s_one _) (by omega) (by omega) (by simp) ?_; intro v' w3 hown hb3; simp only [Nat.zero_add, List.nil_append] at hown; have hz3 := hb3.size; simp only [World.size_drew] at hz3; have hS3 := Ext.cell (show Ext W w3 from Below.trans (Ext.refl W).drew.below hb3) a0) | (refine step_append_row rfl _ (.tmp 33) 26 5 rfl Try.underlying26 el5 (w3.alloc (.cells #[.int .u8 (c : Int)] 5)) W.heap.size _ _ _ rfl (hown.alloc _) (.slice (some ⟨w3.heap.size, 0, none⟩) 1 1) 1 (u8s [c]) rfl (RowIs.lit w3 1 1 #[.int .u8 (c : Int)] 5 (0, 0) rfl (by decide)) (u8s_one _) (by omega) (by omega) (by simp; omega) ?_; intro v2 w4 hown4 hb4; rw [← u8s_append] at hown4; have hE4 : Ext W w4 := Below.trans (Below.trans (Ext.refl W).drew.below hb3) (Below.trans (Below.alloc (Below.refl _ _) hz3 _) hb4); have hS4 := hE4.cell a0) | (refine step_append_row rfl _ (.tmp 30) 26 5 rfl Try.underlying26 el5 (W.drew.alloc (.cells #[.int .u8 (c : Int)] 5)) (W.heap.size + 1) _ _ _ rfl (World.ownsRow_nil _ _ _ _) (.slice a bs.length cap) bs.length (u8s bs) rfl (hB9.2.ext ((Ext.refl _).drew.alloc _)) (u8s_one _) (by omega) (by omega) (by simp) ?_; intro v' w3 hown hb3; simp only [Nat.zero_add, List.nil_append] at hown; have hz3 := hb3.size; simp only [World.size_drew, World.size_alloc] at hz3; have hS3 := Ext.cell (show Ext W w3 from Below.trans (Below.alloc (Ext.refl W).drew.below (Nat.le_refl _) _) (hb3.mono (by omega))) a0) | (refine step_append_row rfl _ (.tmp 33) 26 5 rfl Try.underlying26 el5 w3 (W.heap.size + 1) _ _ _ rfl hown (.slice (some ⟨W.heap.size, 0, none⟩) 1 1) 1 (u8s [c]) rfl (RowIs.ext (RowIs.lit W.drew 1 1 #[.int .u8 (c : Int)] 5 (0, 0) rfl (by decide)) (by have := hb3; unfold Ext; simpa using this)) (u8s_one _) (by omega) (by omega) (by omega) ?_; intro v2 w4 hown4 hb4; rw [← u8s_append] at hown4; have hE4 : Ext W w4 := Below.trans (Below.alloc (Ext.refl W).drew.below (Nat.le_refl _) _) ((Below.trans hb3 hb4).mono (by omega)); have hS4 := hE4.cell a0) | (go_at_call 19; refine (on_any' w2.heap.size Crc.tab _ _ (bs ++ [c]) (Crc.on Crc.tab x0 (bs ++ [c])) _ (by omega) (by omega) (Tt.ext hE4) tab_ok (BytesAt.of_own hown4 hbc) (by rw [Int.toNat_natCast])).mono ?_; rintro e w5 ⟨rfl, rfl⟩))
    all_goals
      have E1 := e1.out
      have E2 := e2.out
      have a0' := hE4.cell a0
      have a1' := hE4.cell a1
      go_wp2_with fail
      refine (on_any' w2.heap.size Crc.tab _ _ [c] (Crc.on Crc.tab x0 (bs ++ [c])) _ (by omega) (by omega) (Tt.ext (hE4.alloc _)) tab_ok (BytesAt.lit w4 [c] 1 _ _ rfl rfl hcl hlen) (by rw [Int.toNat_natCast]; exact hsnoc.out)).mono ?_
      rintro e w6 ⟨rfl, rfl⟩
      have hB2 := BytesAt.lit (w4.alloc (.cells #[.int .u8 (c : Int)] 5)) [c] 1 #[.int .u8 (c : Int)] (0, 0) rfl rfl hcl hlen
      rw [World.size_alloc] at hB2
      go_wp2_with fail
      refine (on_any w2.heap.size Crc.tab _ _ [c] _ (by omega) (by omega) (Tt.ext ((hE4.alloc _).alloc _)) tab_ok hB2).mono ?_
      rintro e w6 ⟨rfl, rfl⟩
      rw [Int.toNat_natCast]
      have E3 := e3.out
      go_wp2
      go_ret
      exact ⟨rfl, hE.trans ((hE4.alloc _).alloc _)⟩
end Go.Proofs.Ytjkikpfccmhfmaa
