import Derived.Test.YtjkikpfccmhfmaaW3
import Derived.Test.YtjkikpfccmhfmaaRead
namespace Go.Proofs.Ytjkikpfccmhfmaa
open Go.RowKit
theorem RowIs.form {w : World} {size : Nat} {v : Value} {n : Nat} {xs : List Value} (h : RowIs w size v n xs) : ∃ a cap, v = .slice a n cap := by
  obtain ⟨_, _, ⟨rfl, a, cap, rfl, _⟩ | ⟨b, off, cap, rfl, _⟩⟩ := h
  · exact ⟨_, _, rfl⟩
  · exact ⟨_, _, rfl⟩
theorem wf_u8 {x : Int} (h : (Lit.int .u8 x).wf = true) : 0 ≤ x ∧ x < 256 := by
  have hmin : IntKind.u8.min = 0 := rfl
  have hmax : IntKind.u8.max = 255 := rfl
  simp only [Lit.wf, Bool.and_eq_true, decide_eq_true_eq] at h; omega
theorem wf_u16 {x : Int} (h : (Lit.int .u16 x).wf = true) : 0 ≤ x ∧ x < 65536 := by
  have hmin : IntKind.u16.min = 0 := rfl
  have hmax : IntKind.u16.max = 65535 := rfl
  simp only [Lit.wf, Bool.and_eq_true, decide_eq_true_eq] at h; omega
theorem wf_u32 {x : Int} (h : (Lit.int .u32 x).wf = true) : 0 ≤ x ∧ x < 4294967296 := by
  have hmin : IntKind.u32.min = 0 := rfl
  have hmax : IntKind.u32.max = 4294967295 := rfl
  simp only [Lit.wf, Bool.and_eq_true, decide_eq_true_eq] at h; omega
theorem okc_int {P : Program} {w : World} {n : Nat} {t : TypeId} {k : IntKind} {cs : List Value} (ht : P.underlying t = some (.int k)) (h : OKC P w n t cs) : ∃ x, cs = [.int k x] ∧ (Lit.int k x).wf = true := by
  cases n with
  | zero => exact h.elim
  | succ n => unfold OKC at h; rw [ht] at h; exact h
theorem okc_u8 {w : World} {n : Nat} {cs : List Value} (h : OKC Try.prog w n 5 cs) : ∃ c : Nat, cs = [.int .u8 (c : Int)] ∧ c < 256 := by
  obtain ⟨x, rfl, hx⟩ := okc_int Try.underlying5 h
  obtain ⟨h0, h1⟩ := wf_u8 hx
  obtain ⟨c, rfl⟩ := Int.eq_ofNat_of_zero_le h0
  exact ⟨c, rfl, by omega⟩
theorem okc_u32 {w : World} {n : Nat} {cs : List Value} (h : OKC Try.prog w n 22 cs) : ∃ c : Nat, cs = [.int .u32 (c : Int)] ∧ c < 4294967296 := by
  obtain ⟨x, rfl, hx⟩ := okc_int Try.underlying22 h
  obtain ⟨h0, h1⟩ := wf_u32 hx
  obtain ⟨c, rfl⟩ := Int.eq_ofNat_of_zero_le h0
  exact ⟨c, rfl, by omega⟩
theorem flatMap_one {α β : Type} (f : α → β) : ∀ l : List α, l.flatMap (fun x => [f x]) = l.map f
  | [] => rfl
  | x :: l => by rw [List.flatMap_cons, flatMap_one f l]; rfl
theorem okc_bytes {w : World} {v : Value} (h : ∃ n, OKC Try.prog w n 26 [v]) : ∃ bs a cap, v = .slice a bs.length cap ∧ BytesAt w v bs ∧ bs.length ≤ 140737488351232 := by
  obtain ⟨n, h⟩ := h
  cases n with
  | zero => exact h.elim
  | succ n =>
    obtain ⟨l, hg, hr, hby⟩ := OKC.row (fun c : Nat => [Value.int .u8 (c : Int)]) (· < 256) 1 Try.underlying26 (by kernel_rfl) (by decide) (fun _ => rfl) (fun cs hc => okc_u8 hc) h
    obtain ⟨a, cap, hv⟩ := hr.form
    have e : l.flatMap (fun c : Nat => [Value.int .u8 (c : Int)]) = u8s l := by exact flatMap_one _ _
    rw [e] at hr
    rw [show Try.prog.bytesOf 5 = 1 by kernel_rfl, Nat.mul_one] at hby
    exact ⟨l, a, cap, hv, ⟨hg, hr⟩, hby⟩
theorem okc_u32' {w : World} {a : Int} (h : ∃ n, OKC Try.prog w n 22 [.int .u32 a]) : ∃ c : Nat, a = c ∧ c < 4294967296 := by
  obtain ⟨n, h⟩ := h
  obtain ⟨c, h1, h2⟩ := okc_u32 h
  simp at h1; exact ⟨c, h1, h2⟩
theorem run_none (n : Nat) : ∀ bs : List Nat, Crc.run (fun _ => 0) n bs = n / 256 ^ bs.length
  | [] => by simp [Crc.run]
  | c :: bs => by
    have := run_none (Crc.one (fun _ => 0) n c) bs
    show Crc.run _ (Crc.one _ n c) bs = _
    rw [this, Crc.one, Nat.xor_zero, Nat.div_div_eq_div_mul, List.length_cons, Nat.pow_succ, Nat.mul_comm]
theorem run_none_big (n : Nat) (hn : n < 4294967296) (bs : List Nat) (h : 4 ≤ bs.length) : Crc.run (fun _ => 0) n bs = 0 := by
  rw [run_none]
  refine Nat.div_eq_of_lt (Nat.lt_of_lt_of_le hn ?_)
  calc 4294967296 = 256 ^ 4 := by decide
    _ ≤ 256 ^ bs.length := Nat.pow_le_pow_right (by decide) h
theorem div_step (n k : Nat) : n / 256 ^ k / 256 = n / 256 ^ (k + 1) := by rw [Nat.div_div_eq_div_mul, Nat.pow_succ]
set_option maxRecDepth 100000 in
set_option maxHeartbeats 400000 in
theorem sumsNone_walk (w : World) (v : Value) (o0 : ∃ n, OKC Try.prog w n 26 [v]) (s : Int) (o1 : ∃ n, OKC Try.prog w n 22 [.int .u32 s]) :
    Calls Try.prog 11 #[v, .int .u32 s] w fun e w' => e = .returned (.bool true) ∧ Ext w w' := by
  obtain ⟨bs, a, cap, rfl, hB, hm⟩ := okc_bytes o0
  obtain ⟨n, rfl, hn⟩ := okc_u32' o1
  clear o0 o1
  have hmx := xor_maxi n hn
  have hi := Crc.inv_lt n
  have hz := zero23
  have hb := build23
  go_enter Try.func11, Try.ntmps11
  go_wp2_with fail
  refine (alive_any w).mono ?_
  rintro e w1 ⟨rfl, hx1⟩
  by_cases hbig : 100000 < bs.length
  · go_wp2_with fail
    refine (alive_any w1).mono ?_
    rintro e w2 ⟨rfl, hx2⟩
    go_wp2
    go_ret
    exact ⟨rfl, hx1.trans hx2⟩
  · have hle : bs.length ≤ 100000 := by omega
    clear hbig
    go_wp2_with (refine wpList_store_tab rfl _ _ rfl _ _ _ rfl rfl rfl ?_)
    clear hz hb hmx
    obtain ⟨W, hW⟩ : ∃ W, W = w1.alloc (.cells (aggOf fun _ => 0) 23) := ⟨_, rfl⟩
    have hN : TabAt W w1.heap.size (fun _ => 0) := by rw [hW]; exact TabAt.new (fun _ => 0) w1
    have hE : Ext w W := by rw [hW]; exact hx1.alloc _
    rw [← hW]
    clear hW
    have hB2 := hB.ext hE
    go_loop [6, 7] (fun m i => ∃ k : Nat, k ≤ bs.length ∧ k ≤ 4 ∧ i = .int .i64 k ∧ m = .int .u32 ((Crc.inv n / 256 ^ k : Nat) : Int)) (fun _ i => 4 - (intOf i).toNat)
    case atStart => exact ⟨0, by omega, by omega, rfl, by simp⟩
    case round =>
      obtain ⟨k, hk, hk4, rfl, rfl⟩ := hrel
      have HS := Lib.hid (div_step (Crc.inv n) k)
      have hlt : Crc.inv n / 256 ^ k < 4294967296 := Nat.lt_of_le_of_lt (Nat.div_le_self _ _) hi
      generalize hq : Crc.inv n / 256 ^ k = q at *
      have HQ := Lib.hid hq
      clear hq
      by_cases h1 : k < bs.length ∧ k < 4
      · obtain ⟨h1, h2⟩ := h1
        go_wp2
        go_round
        case rel => exact ⟨k + 1, by omega, by omega, by go_num, by rw [← HS.out]; simp⟩
        case measure => simp [intOf]; omega
      · by_cases h4 : 4 ≤ bs.length
        · obtain rfl : k = 4 := by omega
          have hmx : bits .xor .u32 IntKind.u32.max 0 = 4294967295 := by decide +kernel
          have hon : Crc.on (fun _ => 0) n bs = 4294967295 := by
            unfold Crc.on; rw [run_none_big _ hi bs h4]; rfl
          have HO := Lib.hid hon
          clear hon h1
          rcases Nat.lt_or_ge 4 bs.length with h5 | h5
          all_goals
            go_wp2_with fail
            refine (on_any w1.heap.size (fun _ => 0) n _ bs _ (by omega) (by omega) hN TOK.zero hB2).mono ?_
            rintro e w2 ⟨rfl, rfl⟩
            rw [Int.toNat_natCast, HO.out]
            go_wp2
            go_ret
            exact ⟨rfl, hE⟩
        · obtain rfl : k = bs.length := by omega
          have hmx := xor_maxi q hlt
          have hon : Crc.on (fun _ => 0) n bs = Crc.inv q := by
            unfold Crc.on; rw [run_none, HQ.out]
          have HO := Lib.hid hon
          clear hon h1
          go_wp2_with fail
          refine (on_any w1.heap.size (fun _ => 0) n _ bs _ (by omega) (by omega) hN TOK.zero hB2).mono ?_
          rintro e w2 ⟨rfl, rfl⟩
          rw [Int.toNat_natCast, HO.out]
          go_wp2
          go_ret
          exact ⟨rfl, hE⟩
end Go.Proofs.Ytjkikpfccmhfmaa
