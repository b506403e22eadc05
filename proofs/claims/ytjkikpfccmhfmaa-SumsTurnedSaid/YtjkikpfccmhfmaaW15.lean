import Derived.Test.YtjkikpfccmhfmaaW11
import Derived.Test.YtjkikpfccmhfmaaMath3
import Derived.Test.YtjkikpfccmhfmaaKit4
namespace Go.Proofs.Ytjkikpfccmhfmaa
open Go.RowKit
theorem own_pos {w : World} {base : Nat} {e : TypeId} {size : Nat} {v : Value} {n : Nat} {xs : List Value} (h : w.ownsRow base e size v n xs) (hn : 0 < n) : ∃ g cap, v = .slice (some ⟨g, 0, none⟩) n cap := by
  obtain ⟨_, ⟨_, h0⟩ | ⟨g, cap, cur, rfl, _⟩⟩ := h
  · omega
  · exact ⟨g, cap, rfl⟩
theorem bit_u32 (d k : Nat) (hd : d < 4294967296) : bits .and .u32 ((d : Int) / 2 ^ k) 1 = ((d / 2 ^ k % 2 : Nat) : Int) := by
  have h := u32_and_nat (d / 2 ^ k) 1 (Nat.lt_of_le_of_lt (Nat.div_le_self _ _) hd) (by decide)
  rw [and_one] at h
  have e : ((d : Int) / 2 ^ k) = ((d / 2 ^ k : Nat) : Int) := by simp
  rw [e]; exact h
theorem turn_u8s (cs : List Nat) (p : Nat) (hp : p / 8 < cs.length) (hb : ∀ c ∈ cs, c < 256) : u8s (Crc.turn cs p) = (u8s cs).set (p / 8) (.int .u8 (bits .xor .u8 ((cs[p / 8]?.getD 0 : Nat) : Int) (2 ^ (p % 8) % 256))) := by
  have hc : cs[p / 8]?.getD 0 < 256 := by
    rw [List.getElem?_eq_getElem hp]; exact hb _ (List.getElem_mem _)
  have h8 : (2 : Nat) ^ (p % 8) < 256 := Nat.pow_lt_pow_right (a := 2) (m := p % 8) (n := 8) (by decide) (Nat.mod_lt p (by decide : 0 < 8))
  have e : ((2 : Int) ^ (p % 8) % 256) = ((2 ^ (p % 8) : Nat) : Int) := by
    have : ((2 : Int) ^ (p % 8)) = ((2 ^ (p % 8) : Nat) : Int) := by simp
    rw [this]
    clear this
    generalize (2 : Nat) ^ (p % 8) = q at *
    omega
  rw [e, u8_xor_nat _ _ hc h8]
  unfold Crc.turn u8s
  rw [List.map_set]
  simp [List.getD]
def TurnRel (w : World) (bs : List Nat) (f d k : Nat) (v : Value) (wr : World) : Prop :=
  ∃ cs : List Nat, cs.length = bs.length ∧ (∀ c ∈ cs, c < 256) ∧ Crc.le cs = Crc.le bs ^^^ (2 ^ f * (d % 2 ^ k)) ∧ wr.ownsRow w.heap.size 5 1 v bs.length (u8s cs) ∧ Ext w wr
set_option maxRecDepth 100000 in
set_option maxHeartbeats 1000000 in
theorem sumsTurned_walk (w : World) (v : Value) (o0 : ∃ n, OKC Try.prog w n 26 [v]) (s : Int) (o1 : ∃ n, OKC Try.prog w n 22 [.int .u32 s]) (t : Int) (o2 : ∃ n, OKC Try.prog w n 22 [.int .u32 t]) :
    Calls Try.prog 6 #[v, .int .u32 s, .int .u32 t] w fun e w' => e = .returned (.bool true) ∧ Ext w w' := by
  obtain ⟨bs, a, cap, rfl, hB, hm⟩ := okc_bytes o0
  obtain ⟨at_, rfl, hat⟩ := okc_u32' o1
  obtain ⟨b0, rfl, hb0⟩ := okc_u32' o2
  clear o0 o1 o2
  go_enter Try.func6, Try.ntmps6
  go_wp2_with fail
  refine (alive_any w).mono ?_
  rintro e w1 ⟨rfl, hx1⟩
  rcases Nat.lt_or_ge 100000 bs.length with hbig | hle
  · go_wp2_with fail
    refine (alive_any w1).mono ?_
    rintro e w2 ⟨rfl, hx2⟩
    go_wp2
    go_ret
    exact ⟨rfl, hx1.trans hx2⟩
  · rcases Nat.eq_zero_or_pos bs.length with h0 | hpos
    · have hq : ((bs.length : Int) == 0) = true := by simp; exact List.eq_nil_of_length_eq_zero h0
      have hq2 : (bs.length : Int) ≤ 100000 := by omega
      clear h0
      go_wp2_with fail
      refine (alive_any w1).mono ?_
      rintro e w2 ⟨rfl, hx2⟩
      go_wp2
      go_ret
      exact ⟨rfl, hx1.trans hx2⟩
    · have hq : ((bs.length : Int) == 0) = false := by simp; intro h; subst h; simp at hpos
      have hz := zero23
      obtain ⟨f, hf⟩ : ∃ f, f = at_ % (8 * bs.length) := ⟨_, rfl⟩
      have hfl : f < 8 * bs.length := by rw [hf]; exact Nat.mod_lt _ (by omega)
      have hfm : (at_ : Int) % (8 * (bs.length : Int)) = (f : Int) := by rw [hf]; simp
      clear hf
      obtain ⟨d, hd⟩ : ∃ d, d = b0 ||| 1 := ⟨_, rfl⟩
      have hor : bits .or .u32 (b0 : Int) 1 = (d : Int) := by rw [hd]; exact u32_or_nat b0 1 hb0 (by decide)
      have hd32 : d < 4294967296 := by rw [hd]; exact Nat.or_lt_two_pow (n := 32) hb0 (by decide)
      have hodd : d % 2 = 1 := by
        rw [hd]
        have h : (b0 ||| 1).testBit 0 = true := by simp
        rw [Nat.testBit_zero] at h
        exact of_decide_eq_true h
      clear hd
      go_wp2_with fail
      refine (table_any w1).mono ?_
      rintro e w2 ⟨rfl, hx2⟩
      obtain ⟨W, hW⟩ : ∃ w3, w3 = w2.alloc (.cells (aggOf Crc.tab) 23) := ⟨_, rfl⟩
      have ht : W.heap[w2.heap.size]? = some (.cells (aggOf Crc.tab) 23 (0, 0)) := by rw [hW]; exact heap_alloc_new _ _
      have hE : Ext w W := by rw [hW]; exact Ext.alloc (Ext.trans hx1 hx2) _
      have hB9 := (hB.ext hE).2
      have hB9' := hB9
      rw [hW] at hB9'
      go_wp2_with (first | (refine wpList_store_tab rfl _ _ rfl _ _ _ rfl rfl rfl ?_) | (at_builtin; refine wpList_append_row rfl _ (.tmp 25) 26 5 rfl Try.underlying26 el5 (w2.alloc (.cells (aggOf Crc.tab) 23)) (w2.alloc (.cells (aggOf Crc.tab) 23)).heap.size _ _ _ rfl (World.ownsRow_nil _ _ _ _) (.slice a bs.length cap) _ _ rfl hB9' (u8s_one _) (by omega) (by omega) (Nat.le_refl _) ?_; intro v' w4 hown hb4; simp only [Nat.zero_add, List.nil_append] at hown) | fail)
      have hE4 : Ext W w4 := by rw [hW]; exact hb4
      rw [← hW] at hown
      have hbase := hE4.size
      clear hW hx1 hx2 hz hB9 hB9' hb4 hor hfm
      obtain ⟨g, cap2, rfl⟩ := own_pos hown hpos
      have R0 : TurnRel W bs f d 0 (.slice (some ⟨g, 0, none⟩) bs.length cap2) w4 := ⟨bs, rfl, hB.1, by rw [Nat.pow_zero, Nat.mod_one, Nat.mul_zero, Nat.xor_zero], hown, hE4⟩
      go_loopw [10] (fun i wr => ∃ k : Nat, k ≤ 32 ∧ f + k ≤ 8 * bs.length ∧ i = .int .i64 k ∧ TurnRel W bs f d k (.slice (some ⟨g, 0, none⟩) bs.length cap2) wr) (fun i _ => 32 - (intOf i).toNat)
      case atStart => exact ⟨0, by omega, by omega, rfl, R0⟩
      case round =>
        obtain ⟨k, hk, hfk, rfl, cs, hcl, hcb, hle2, hown2, hE2⟩ := hrel
        by_cases hlt : k < 32 ∧ f + k < 8 * bs.length
        · obtain ⟨h1, h2⟩ := hlt
          have hk0 : (0 : Int) ≤ (k : Int) := by omega
          have hbit := bit_u32 d k hd32
          have hstep := Crc.bit_step f d k
          rcases Nat.mod_two_eq_zero_or_one (d / 2 ^ k) with hb | hb
          · rw [hb] at hbit
            rw [hb, if_neg (by decide), Nat.xor_zero] at hstep
            have hq1 : (bits .and .u32 ((d : Int) / 2 ^ k) 1 == 1) = false := by rw [hbit]; rfl
            have R : TurnRel W bs f d (k + 1) (.slice (some ⟨g, 0, none⟩) bs.length cap2) wr := ⟨cs, hcl, hcb, by rw [hstep]; exact hle2, hown2, hE2⟩
            clear hbit hstep hle2 hb
            go_wp2
            go_roundw
            case rel => exact ⟨k + 1, by omega, by omega, by go_num, R⟩
            case measure => simp [intOf]; omega
          · rw [hb] at hbit
            rw [hb, if_pos rfl] at hstep
            have hq1 : (bits .and .u32 ((d : Int) / 2 ^ k) 1 == 1) = true := by rw [hbit]; rfl
            have hcell : wr.cell? ⟨g, (f + k) / 8, none⟩ = some (.int .u8 ((cs.getD ((f + k) / 8) 0 : Nat) : Int)) := by
              rw [hown2.cellAt _ (by omega), u8s_at _ _ (by omega)]
            have hfr := hown2.frozenAt ((f + k) / 8)
            have HL := Lib.hid hle2
            have HT := Lib.hid hstep
            clear hbit hstep hle2 hb
            have hst2 := hown2.stored ((f + k) / 8) (.int .u8 (bits .xor .u8 ((cs[(f + k) / 8]?.getD 0 : Nat) : Int) (2 ^ ((f + k) % 8) % 256)))
            have hst := hst2.1
            clear hst2
            rw [← turn_u8s cs (f + k) (by omega) hcb] at hst
            have hg : W.heap.size ≤ g := (hown2.lt g rfl).1
            have R : TurnRel W bs f d (k + 1) (.slice (some ⟨g, 0, none⟩) bs.length cap2) (wr.setCell ⟨g, (f + k) / 8, none⟩ (.int .u8 (bits .xor .u8 ((cs[(f + k) / 8]?.getD 0 : Nat) : Int) (2 ^ ((f + k) % 8) % 256)))) :=
              ⟨Crc.turn cs (f + k), by rw [Crc.turn_length]; exact hcl, Crc.turn_lt cs _ hcb, by rw [Crc.le_turn cs _ (by omega) hcb, HL.out, HT.out, Nat.xor_assoc], hst, hE2.setCell hg _⟩
            clear hst
            go_wp2
            go_roundw
            case rel => exact ⟨k + 1, by omega, by omega, by go_num, R⟩
            case measure => simp [intOf]; omega
        · have hX : BytesAt wr (.slice (some ⟨g, 0, none⟩) bs.length cap2) cs := BytesAt.of_own hown2 hcb
          have hBr := (hB.ext hE).ext hE2
          have Tt := (TabAt.of_row ht).ext hE2
          have hne := Crc.turned bs cs hcl.symm hB.1 hcb f (d % 2 ^ k) (by omega) (Nat.lt_of_le_of_lt (Nat.mod_le _ _) (by omega)) (by
            have h1 : 1 ≤ k := by omega
            intro h0
            have e : d % 2 ^ k % 2 = d % 2 := by
              obtain ⟨j, rfl⟩ : ∃ j, k = j + 1 := ⟨k - 1, by omega⟩
              rw [Nat.pow_succ, Nat.mul_comm]
              exact Nat.mod_mul_right_mod d 2 (2 ^ j)
            omega) hle2
          have hne2 : (((Crc.on Crc.tab 0 cs : Nat) : Int) != ((Crc.on Crc.tab 0 bs : Nat) : Int)) = true := by
            rw [bne_iff_ne]; intro h; exact hne (by omega)
          clear hne hle2
          rcases Nat.lt_or_ge k 32 with hk2 | hk2
          all_goals
            go_wp2_with fail
            refine (of_any _ _ _ cs _ Tt tab_ok hX).mono ?_
            rintro e w6 ⟨rfl, rfl⟩
            go_wp2_with fail
            refine (of_any _ _ _ bs _ Tt tab_ok hBr).mono ?_
            rintro e w6 ⟨rfl, rfl⟩
            go_wp2
            go_ret
            exact ⟨rfl, hE.trans hE2⟩
end Go.Proofs.Ytjkikpfccmhfmaa
