import Derived.Test.YtjkikpfccmhfmaaW10
import Derived.Test.YtjkikpfccmhfmaaMath2
import Derived.Test.YtjkikpfccmhfmaaKit4
namespace Go.Proofs.Ytjkikpfccmhfmaa
open Go.RowKit
def flipAt (T : Nat → Nat) (j : Nat) (i : Nat) : Nat := if i = j then Crc.inv (T i) else T i
theorem flipAt_ok (T : Nat → Nat) (j : Nat) (h : TOK T) : TOK (flipAt T j) := fun i hi => by
  unfold flipAt; split
  · exact Crc.inv_lt _
  · exact h i hi
theorem xor_one_ne (m : Nat) : m ≠ m ^^^ 1 := fun h => by
  have : m ^^^ m = m ^^^ (m ^^^ 1) := by rw [← h]
  rw [← Nat.xor_assoc, Nat.xor_self, Nat.zero_xor] at this
  exact absurd this (by decide)
theorem on_byte (T : Nat → Nat) (s c : Nat) : Crc.on T s [c] = Crc.inv (Crc.inv s / 256 ^^^ T (Crc.inv s % 256 ^^^ c)) := rfl
set_option maxRecDepth 100000 in
set_option maxHeartbeats 1000000 in
theorem sumsBytes_walk (w : World) (a : Int) (o0 : ∃ n, OKC Try.prog w n 5 [.int .u8 a]) (s : Int) (o1 : ∃ n, OKC Try.prog w n 22 [.int .u32 s]) (l : Array Value) (o2 : ∃ n, OKC Try.prog w n 27 l.toList) :
    Calls Try.prog 8 #[.int .u8 a, .int .u32 s, .agg l] w fun e w' => e = .returned (.bool true) ∧ Ext w w' := by
  obtain ⟨c, rfl, hc⟩ : ∃ c : Nat, a = c ∧ c < 256 := by
    obtain ⟨n, h⟩ := o0
    obtain ⟨c, h1, h2⟩ := okc_u8 h
    simp at h1; exact ⟨c, h1, h2⟩
  obtain ⟨n, rfl, hn⟩ := okc_u32' o1
  obtain ⟨L, hL, rfl⟩ := okc_agg4 o2
  clear o0 o1 o2
  have hO := tabOf_ok L (fun i _ => hL i)
  have hz := zero23
  have hmx := xor_maxi n hn
  have hin := Crc.inv_lt n
  have k1 := on_byte (tabOf L) n c
  have k2 := on_byte (flipAt (tabOf L) ((Crc.inv n % 256 ^^^ c) ^^^ 1)) n c
  have hx := xor8 (Crc.inv n) c hc
  have hxl := xor8_lt (Crc.inv n) c hc
  generalize Crc.inv n = i at *
  generalize i % 256 ^^^ c = m at *
  have hy : bits .xor .u8 (m : Int) 1 = ((m ^^^ 1 : Nat) : Int) := u8_xor_nat m 1 hxl (by decide)
  have hyl : m ^^^ 1 < 256 := Nat.xor_lt_two_pow (n := 8) hxl (by decide)
  have hne := xor_one_ne m
  have e2 : flipAt (tabOf L) (m ^^^ 1) m = tabOf L m := by unfold flipAt; rw [if_neg hne]
  rw [e2] at k2
  generalize hj : m ^^^ 1 = j at *
  have hfl := xor_maxi (tabOf L j) (hO j hyl)
  have hw1 := shr8 i (tabOf L m) hin (hO m hxl)
  obtain ⟨r, hr⟩ : ∃ r, r = i / 256 ^^^ tabOf L m := ⟨_, rfl⟩
  have hrl : r < 4294967296 := by rw [hr]; exact Nat.xor_lt_two_pow (n := 32) (by omega) (hO m hxl)
  have hw2 := xor_maxi r hrl
  rw [← hr] at hw1 k1 k2
  have K1 := Lib.hid k1
  have K2 := Lib.hid k2
  clear k1 k2 hr e2
  have hjI : ((j : Nat) : Int) < 256 := by omega
  have hmI : ((m : Nat) : Int) < 256 := by omega
  clear hj
  go_enter Try.func8, Try.ntmps8
  go_wp2_with (first | (refine wpList_load_row rfl 27 _ rfl w.heap.size rfl 27 (agg4 L) (0, 0) _ (heap_alloc_new _ _) Try.underlying27 rfl info27 ?_) | fail)
  obtain ⟨w0, h0⟩ : ∃ w0, w0 = w.alloc (.cells (agg4 L) 27) := ⟨_, rfl⟩
  have hE0 : Ext w w0 := by rw [h0]; exact (Ext.refl _).alloc _
  rw [← h0]
  clear h0
  refine (ltable_any L (fun i _ => hL i) w0).mono ?_
  rintro e w1 ⟨rfl, hx1⟩
  have hga := aggOf_at (tabOf L) m hxl
  have hgb := aggOf_at (tabOf L) j hyl
  go_wp2_with (first | (refine wpList_store_tab rfl _ _ rfl _ _ _ rfl (by simp) rfl ?_) | (refine wpList_load_row rfl 23 _ rfl w1.heap.size rfl 23 (aggOf (tabOf L)) (0, 0) _ (heap_alloc_new _ _) Try.underlying23 rfl (by rw [aggOf_size]; exact info23) ?_) | fail)
  · obtain ⟨W, hW⟩ : ∃ W, W = (w1.alloc (.cells (aggOf (tabOf L)) 23)).alloc (.cells ((aggOf (tabOf L)).setIfInBounds j (.int .u32 ((Crc.inv (tabOf L j) : Nat) : Int))) 23) := ⟨_, rfl⟩
    have Tu : TabAt W w1.heap.size (tabOf L) := by rw [hW]; exact (TabAt.new (tabOf L) w1).ext ((Ext.refl _).alloc _)
    have Tv : TabAt W (w1.heap.size + 1) (flipAt (tabOf L) j) := by
      intro q hq
      have hn := heap_alloc_new (w1.alloc (.cells (aggOf (tabOf L)) 23)) (.cells ((aggOf (tabOf L)).setIfInBounds j (.int .u32 ((Crc.inv (tabOf L j) : Nat) : Int))) 23)
      rw [World.size_alloc, ← hW] at hn
      rw [cell_of_row W _ q _ 23 (0, 0) hn, Array.getElem?_setIfInBounds, aggOf_size]
      unfold flipAt
      by_cases hjq : j = q
      · subst hjq; simp [hq]
      · rw [if_neg hjq, if_neg (fun h => hjq h.symm)]; exact aggOf_at _ q hq
    have hE : Ext w W := by rw [hW]; exact ((hE0.trans hx1).alloc _).alloc _
    rw [← hW]
    clear hW hE0 hx1 hga hgb hmx hx hy hfl hw1 hw2 hz
    have hOf := flipAt_ok (tabOf L) j hO
    refine (alive_any W).mono ?_
    rintro e w2 ⟨rfl, hx2⟩
    go_wp2_with fail
    have hcl : ∀ x ∈ [c], x < 256 := by simpa using hc
    have hlen : [c].length ≤ 9223372036854775807 := by simp
    refine (on_any _ _ _ _ [c] _ (by omega) (by omega) (Tu.ext (hx2.alloc _)) hO (BytesAt.lit w2 [c] 1 _ _ rfl rfl hcl hlen)).mono ?_
    rintro e w3 ⟨rfl, rfl⟩
    rw [Int.toNat_natCast, K1.out]
    have hB2 := BytesAt.lit (w2.alloc (.cells #[.int .u8 (c : Int)] 5)) [c] 1 #[.int .u8 (c : Int)] (0, 0) rfl rfl hcl hlen
    rw [World.size_alloc] at hB2
    go_wp2_with fail
    refine (on_any _ _ _ _ [c] _ (by omega) (by omega) (Tv.ext ((hx2.alloc _).alloc _)) hOf hB2).mono ?_
    rintro e w3 ⟨rfl, rfl⟩
    rw [Int.toNat_natCast, K2.out]
    go_wp2
    go_ret
    exact ⟨rfl, hE.trans ((hx2.alloc _).alloc _)⟩
  · rename_i _ h
    rw [hmx, hx, hy] at h
    exact (h ⟨Int.natCast_nonneg _, hjI⟩).elim
end Go.Proofs.Ytjkikpfccmhfmaa
