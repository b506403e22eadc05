import Derived.Test.YtjkikpfccmhfmaaW10
import Derived.Test.YtjkikpfccmhfmaaMath2
namespace Go.Proofs.Ytjkikpfccmhfmaa
open Go.RowKit
theorem u8s_one (bs : List Nat) : ∀ u ∈ u8s bs, u.oneCell' = true := by
  intro u hu
  simp only [u8s, List.mem_map] at hu
  obtain ⟨c, _, rfl⟩ := hu
  rfl
def lit4 (n : Nat) : Array Value := #[.int .u8 ((n : Int) % 256), .int .u8 ((n : Int) / 256 % 256), .int .u8 ((n : Int) / 65536 % 256), .int .u8 ((n : Int) / 16777216)]
theorem lit4_u8s (n : Nat) : (lit4 n).toList = u8s (Crc.bytes4 n) := by simp [lit4, u8s, Crc.bytes4]
theorem lit4_row (n : Nat) (w : World) : RowIs (w.alloc (.cells (lit4 n) 5)) 1 (.slice (some ⟨w.heap.size, 0, none⟩) 4 4) 4 (u8s (Crc.bytes4 n)) := by
  rw [← lit4_u8s]; exact RowIs.lit w 1 4 (lit4 n) 5 (0, 0) rfl (by decide)
set_option maxRecDepth 100000 in
set_option maxHeartbeats 1000000 in
theorem sumsSealed_walk (w : World) (v : Value) (o0 : ∃ n, OKC Try.prog w n 26 [v]) (u : Value) (o1 : ∃ n, OKC Try.prog w n 26 [u]) :
    Calls Try.prog 9 #[v, u] w fun e w' => e = .returned (.bool true) ∧ Ext w w' := by
  obtain ⟨bs, a, cap, rfl, hB, hm⟩ := okc_bytes o0
  obtain ⟨cs, b, capb, rfl, hC, hmc⟩ := okc_bytes o1
  clear o0 o1
  have hz := zero23
  go_enter Try.func9, Try.ntmps9
  go_wp2_with fail
  refine (alive_any w).mono ?_
  rintro e w1 ⟨rfl, hx1⟩
  by_cases hbig : 100000 < bs.length + cs.length
  · go_wp2_with fail
    refine (alive_any w1).mono ?_
    rintro e w2 ⟨rfl, hx2⟩
    go_wp2
    go_ret
    exact ⟨rfl, hx1.trans hx2⟩
  · have hle : bs.length + cs.length ≤ 100000 := by omega
    clear hbig
    go_wp2_with fail
    refine (table_any w1).mono ?_
    rintro e w2 ⟨rfl, hx2⟩
    go_wp2_with (first | (refine wpList_store_tab rfl _ _ rfl _ _ _ rfl rfl rfl ?_) | fail)
    clear hz
    obtain ⟨w3, h3⟩ : ∃ w3, w3 = w2.alloc (.cells (aggOf Crc.tab) 23) := ⟨_, rfl⟩
    have ht : w3.heap[w2.heap.size]? = some (.cells (aggOf Crc.tab) 23 (0, 0)) := by rw [h3]; exact heap_alloc_new _ _
    have hE : Ext w w3 := by rw [h3]; exact Ext.alloc (hx1.trans hx2) _
    rw [← h3]
    clear h3 hx1 hx2
    have Tt := TabAt.of_row ht
    have hB3 := hB.ext hE
    have hC3 := hC.ext hE
    have sB := Crc.sealing bs hB.1
    have sC := Crc.sealing cs hC.1
    have lB := on_lt Crc.tab 0 bs
    have lC := on_lt Crc.tab 0 cs
    refine (of_any _ _ _ _ _ Tt tab_ok hB3).mono ?_
    rintro e w2' ⟨rfl, rfl⟩
    generalize Crc.on Crc.tab 0 bs = n at *
    go_wp2_with fail
    refine (of_any _ _ _ _ _ Tt tab_ok hC3).mono ?_
    rintro e w2' ⟨rfl, rfl⟩
    generalize Crc.on Crc.tab 0 cs = m at *
    have SB := Lib.hid sB
    have SC := Lib.hid sC
    clear sB sC
    go_wp2_with (first | (at_builtin; refine wpList_append_row rfl _ (.tmp 26) 26 5 rfl Try.underlying26 el5 w3 w3.heap.size _ _ _ rfl (World.ownsRow_nil _ _ _ _) (.slice a bs.length cap) _ _ rfl hB3.2 (u8s_one _) (by omega) (by omega) (Nat.le_refl _) ?_; intro v' w4 p4 pb4; have pz4 := pb4.size; simp only [Nat.zero_add, List.nil_append] at p4) | (at_builtin; refine wpList_append_row rfl _ (.tmp 39) 26 5 rfl Try.underlying26 el5 (w4.alloc (.cells (lit4 n) 5)) w3.heap.size _ _ _ rfl (p4.alloc _) (.slice (some ⟨w4.heap.size, 0, none⟩) 4 4) _ _ rfl (lit4_row n w4) (u8s_one _) (by omega) (by omega) (by rw [World.size_alloc]; omega) ?_; intro vx w5 p5 pb5; rw [← u8s_append] at p5; have hE5 : Ext w3 w5 := Below.trans (Below.alloc pb4 pz4 _) pb5; have hC5 := hC3.ext hE5) | (at_builtin; refine wpList_append_row rfl _ (.tmp 41) 26 5 rfl Try.underlying26 el5 w5 w5.heap.size _ _ _ rfl (World.ownsRow_nil _ _ _ _) (.slice b cs.length capb) _ _ rfl hC5.2 (u8s_one _) (by omega) (by omega) (Nat.le_refl _) ?_; intro v' w6 q4 qb4; have qz4 := qb4.size; simp only [Nat.zero_add, List.nil_append] at q4) | (at_builtin; refine wpList_append_row rfl _ (.tmp 54) 26 5 rfl Try.underlying26 el5 (w6.alloc (.cells (lit4 m) 5)) w5.heap.size _ _ _ rfl (q4.alloc _) (.slice (some ⟨w6.heap.size, 0, none⟩) 4 4) _ _ rfl (lit4_row m w6) (u8s_one _) (by omega) (by omega) (by rw [World.size_alloc]; omega) ?_; intro vy w7 q5 qb5; rw [← u8s_append] at q5; have hE7 : Ext w5 w7 := Below.trans (Below.alloc qb4 qz4 _) qb5) | fail)
    have hX : BytesAt w5 vx (bs ++ Crc.bytes4 n) := BytesAt.of_own p5 (fun c hc => by
      rcases List.mem_append.1 hc with hc | hc
      · exact hB.1 c hc
      · exact Crc.bytes4_lt _ lB c hc)
    have hY : BytesAt w7 vy (cs ++ Crc.bytes4 m) := BytesAt.of_own q5 (fun c hc => by
      rcases List.mem_append.1 hc with hc | hc
      · exact hC.1 c hc
      · exact Crc.bytes4_lt _ lC c hc)
    have hX7 := hX.ext hE7
    have T7 := Tt.ext (hE5.trans hE7)
    refine (of_any _ _ _ _ _ T7 tab_ok hX7).mono ?_
    rintro e w2' ⟨rfl, rfl⟩
    rw [SB.out]
    go_wp2_with fail
    refine (of_any _ _ _ _ _ T7 tab_ok hY).mono ?_
    rintro e w2' ⟨rfl, rfl⟩
    rw [SC.out]
    go_wp2
    go_ret
    exact ⟨rfl, hE.trans (hE5.trans hE7)⟩
end Go.Proofs.Ytjkikpfccmhfmaa
