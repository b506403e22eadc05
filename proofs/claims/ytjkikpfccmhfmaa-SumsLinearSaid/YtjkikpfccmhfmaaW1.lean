import Derived.Test.YtjkikpfccmhfmaaProg
import Derived.Test.YtjkikpfccmhfmaaW0
import Derived.Test.YtjkikpfccmhfmaaKit
import Derived.WalkKit
import Derived.Lib.Hide
import Derived.KernelRfl
namespace Go.Proofs.Ytjkikpfccmhfmaa
open Go.RowKit
theorem info23 : (Try.prog.info? 23).map (·.size) = some 256 := by kernel_rfl
def aggOf (T : Nat → Nat) : Array Value := ((List.range 256).map fun i => Value.int .u32 (T i : Nat)).toArray
def Z256 : Array Value := aggOf (fun _ => 0)
theorem zero23 (w : World) : (zeroValue 23).run Try.prog w = .ok (.agg Z256) w := by kernel_rfl
theorem build23 (w : World) : (Instr.build 23 #[]).run Try.prog w = .ok (.agg Z256) w := by kernel_rfl
theorem aggOf_size (T : Nat → Nat) : (aggOf T).size = 256 := by simp [aggOf]
theorem aggOf_at (T : Nat → Nat) (i : Nat) (h : i < 256) : (aggOf T)[i]? = some (.int .u32 (T i : Nat)) := by simp [aggOf, h]
theorem aggOf_ext (T : Nat → Nat) (cs : Array Value) (hs : cs.size = 256) (h : ∀ j, j < 256 → cs[j]? = some (.int .u32 (T j : Nat))) : cs = aggOf T := by
  apply Array.ext_getElem?
  intro i
  by_cases hi : i < 256
  · rw [h i hi, aggOf_at T i hi]
  · rw [Array.getElem?_eq_none (by omega), Array.getElem?_eq_none (by rw [aggOf_size]; omega)]
theorem aggOf_one (T : Nat → Nat) : (aggOf T).all (·.oneCell') = true := by
  rw [Array.all_eq_true_iff_forall_mem]
  intro x hx
  simp only [aggOf, List.mem_toArray, List.mem_map] at hx
  obtain ⟨i, _, rfl⟩ := hx
  rfl
theorem store23 (T : Nat → Nat) (w : World) : (Instr.storeAt 23 (.pointer (some ⟨w.heap.size, 0, none⟩)) (.agg (aggOf T))).run Try.prog (w.alloc (.cells Z256 23)) = .ok () (w.alloc (.cells (aggOf T) 23)) :=
  run_storeAt_new w 23 _ _ (by rw [aggOf_size]; exact info23) (by rw [Z256, aggOf_size, aggOf_size]) (aggOf_one T)
def TabRow (T : Nat → Nat) (k : Nat) (B : Nat) (w : World) : Prop := ∃ cs : Array Value, w.heap[B]? = some (.cells cs 23 (0, 0)) ∧ cs.size = 256 ∧ ∀ j, j < k → cs[j]? = some (.int .u32 (T j : Nat))
theorem TabRow.cell {T : Nat → Nat} {k B : Nat} {w : World} (h : TabRow T k B w) (i : Nat) (hi : i < 256) : ∃ v, w.cell? ⟨B, i, none⟩ = some v := by
  obtain ⟨cs, h1, h2, _⟩ := h
  rw [cell_of_row w B i cs 23 (0, 0) h1]
  exact ⟨_, Array.getElem?_eq_getElem (by omega)⟩
theorem TabRow.free {T : Nat → Nat} {k B : Nat} {w : World} (h : TabRow T k B w) (i : Nat) : w.frozen? ⟨B, i, none⟩ = false := by
  obtain ⟨cs, h1, _, _⟩ := h
  exact frozen_of_row w B i cs 23 h1
theorem TabRow.put {T : Nat → Nat} {k B : Nat} {w : World} (h : TabRow T k B w) (hk : k < 256) : TabRow T (k + 1) B (w.setCell ⟨B, k, none⟩ (.int .u32 (T k : Nat))) := by
  obtain ⟨cs, h1, h2, h3⟩ := h
  refine ⟨cs.setIfInBounds k (.int .u32 (T k : Nat)), heap_setCell_same w B k cs 23 _ h1, by simp [h2], ?_⟩
  intro j hj
  rw [Array.getElem?_setIfInBounds]
  by_cases e : k = j
  · subst e; simp [h2, hk]
  · simp [e]; exact h3 j (by omega)
theorem TabRow.full {T : Nat → Nat} {B : Nat} {w : World} (h : TabRow T 256 B w) : w.heap[B]? = some (.cells (aggOf T) 23 (0, 0)) := by
  obtain ⟨cs, h1, h2, h3⟩ := h
  rw [h1, aggOf_ext T cs h2 h3]
theorem TabRow.start {T : Nat → Nat} {w : World} : TabRow T 0 w.heap.size (w.alloc (.cells Z256 23)) :=
  ⟨Z256, heap_alloc_new _ _, by simp [Z256, aggOf_size], fun j hj => by omega⟩



set_option maxRecDepth 100000 in
set_option maxHeartbeats 400000 in
theorem on_some (bt b off len cap : Nat) (T : Nat → Nat) (bs : List Nat) (s : Nat) (w : World) (hs : s < 4294967296) (hlen : bs.length = len) (hcap : len ≤ 9223372036854775807)
    (hb : ∀ c ∈ bs, c < 256) (hT : ∀ i, i < 256 → T i < 4294967296)
    (hc : ∀ i, i < 256 → w.cell? ⟨bt, i, none⟩ = some (.int .u32 (T i : Nat)))
    (hd : ∀ i, i < len → w.cell? ⟨b, off + i, none⟩ = some (.int .u8 (bs.getD i 0 : Nat))) :
    Calls Try.prog 19 #[.pointer (some ⟨bt, 0, none⟩), .int .u32 s, .slice (some ⟨b, off, none⟩) len cap] w fun e w' => e = .returned (.int .u32 (Crc.on T s bs : Nat)) ∧ w = w' := by
  have HL := Lib.hid hlen; clear hlen
  have HM := xor_maxi s hs
  have hi := Crc.inv_lt s
  go_enter Try.func19, Try.ntmps19
  go_wp2
  clear HM
  go_loop [7, 16] (fun n i => ∃ k : Nat, k ≤ len ∧ i = .int .i64 k ∧ n = .int .u32 (Crc.run T (Crc.inv s) (bs.take k) : Nat)) (fun _ i => len - (intOf i).toNat)
  case atStart => exact ⟨0, Nat.zero_le _, rfl, rfl⟩
  case round =>
    obtain ⟨k, hk, rfl, rfl⟩ := hrel
    have hr : Crc.run T (Crc.inv s) (bs.take k) < 4294967296 := run_lt T hT _ _ hi (fun c h => hb c (List.mem_of_mem_take h))
    by_cases hlt : k < len
    · have hdk := hd k hlt
      have hbk : bs.getD k 0 < 256 := by
        have : k < bs.length := by rw [HL.out]; exact hlt
        have e : bs.getD k 0 = bs[k] := by simp [List.getD, this]
        rw [e]; exact hb _ (List.getElem_mem _)
      have HS := Lib.hid (run_snoc T (Crc.inv s) bs k (by rw [HL.out]; exact hlt))
      generalize bs.getD k 0 = c at *
      generalize Crc.run T (Crc.inv s) (bs.take k) = n at *
      have hx := xor8 n c hbk
      have hxl := xor8_lt n c hbk
      have hcx := hc _ hxl
      have hy := shr8 n _ hr (hT _ hxl)
      obtain ⟨m, hm⟩ : ∃ m, m = n % 256 ^^^ c := ⟨_, rfl⟩
      have HO : Hid (Crc.one T n c = n / 256 ^^^ T m) := by rw [hm]; rfl
      rw [← hm] at hx hxl hcx hy
      clear hm
      obtain ⟨r, hr'⟩ : ∃ r, r = n / 256 ^^^ T m := ⟨_, rfl⟩
      rw [← hr'] at hy HO
      clear hr'
      clear hd hc
      go_wp2
      go_round
      case rel => exact ⟨k + 1, by omega, by go_num, by rw [HS.out, HO.out]⟩
      case measure => simp [intOf]; omega
    · have e : bs.take k = bs := List.take_of_length_le (by rw [HL.out]; omega)
      rw [e] at hr ⊢
      have HM := xor_maxi _ hr
      clear hd hc e
      go_wp2
      go_ret
      exact ⟨rfl, rfl⟩


def TabAt (w : World) (b : Nat) (T : Nat → Nat) : Prop := ∀ i, i < 256 → w.cell? ⟨b, i, none⟩ = some (.int .u32 (T i : Nat))
def TOK (T : Nat → Nat) : Prop := ∀ i, i < 256 → T i < 4294967296
def u8s (bs : List Nat) : List Value := bs.map fun (c : Nat) => Value.int .u8 ((c : Nat) : Int)
theorem u8s_append (a b : List Nat) : u8s (a ++ b) = u8s a ++ u8s b := by simp [u8s]
theorem u8s_length (a : List Nat) : (u8s a).length = a.length := by simp [u8s]
def BytesAt (w : World) (v : Value) (bs : List Nat) : Prop := (∀ c ∈ bs, c < 256) ∧ RowIs w 1 v bs.length (u8s bs)
theorem BytesAt.ext {w w' : World} {v : Value} {bs : List Nat} (h : BytesAt w v bs) (he : Ext w w') : BytesAt w' v bs := ⟨h.1, h.2.ext he⟩
theorem TabAt.ext {w w' : World} {b : Nat} {T : Nat → Nat} (h : TabAt w b T) (he : Ext w w') : TabAt w' b T := fun i hi => he.cell (h i hi)
theorem tab_ok : TOK Crc.tab := fun i hi => Crc.it_lt 8 (Nat.lt_trans hi (by decide))
set_option maxRecDepth 100000 in
set_option maxHeartbeats 400000 in
theorem on_empty (bt cap : Nat) (a : Option Addr) (s : Nat) (w : World) (hs : s < 4294967296) :
    Calls Try.prog 19 #[.pointer (some ⟨bt, 0, none⟩), .int .u32 s, .slice a 0 cap] w fun e w' => e = .returned (.int .u32 s) ∧ w = w' := by
  have HM := xor_maxi s hs
  have HM2 := xor_maxi (Crc.inv s) (Crc.inv_lt s)
  rw [Crc.inv_inv hs] at HM2
  go_enter Try.func19, Try.ntmps19
  go_wp2
  refine wp_loop_rounds 1 ?_
  rw [rounds_succ]
  go_wp2
  go_ret
  exact ⟨rfl, rfl⟩
set_option maxRecDepth 100000 in
set_option maxHeartbeats 400000 in
theorem on_nil (s : Int) (v : Value) (w : World) :
    Calls Try.prog 19 #[.pointer none, .int .u32 s, v] w fun e w' => e = .returned (.int .u32 0) ∧ w = w' := by
  go_enter Try.func19, Try.ntmps19
  go_wp2
  go_ret
  exact ⟨rfl, rfl⟩
theorem on_any (bt : Nat) (T : Nat → Nat) (s : Int) (v : Value) (bs : List Nat) (w : World) (h0 : 0 ≤ s) (h1 : s < 4294967296) (hT : TabAt w bt T) (hO : TOK T) (hB : BytesAt w v bs) :
    Calls Try.prog 19 #[.pointer (some ⟨bt, 0, none⟩), .int .u32 s, v] w fun e w' => e = .returned (.int .u32 (Crc.on T s.toNat bs : Nat)) ∧ w = w' := by
  obtain ⟨n, rfl⟩ := Int.eq_ofNat_of_zero_le h0
  have hn : n < 4294967296 := by omega
  rw [Int.toNat_natCast]
  obtain ⟨hb, _, hl, ⟨hl0, a, cap, rfl, _⟩ | ⟨b, off, cap, rfl, _, hd⟩⟩ := hB
  · obtain rfl := List.eq_nil_of_length_eq_zero hl0
    refine (on_empty bt cap a n w hn).mono fun e w' ⟨he, hw⟩ => ⟨?_, hw⟩
    rw [he]
    unfold Crc.on Crc.run
    rw [List.foldl_nil, Crc.inv_inv hn]
  · exact on_some bt b off bs.length cap T bs n w hn rfl hl hb hO hT (fun i hi => by rw [hd i (by omega)]; simp [u8s, hi])
set_option maxRecDepth 100000 in
set_option maxHeartbeats 400000 in
theorem of_any (bt : Nat) (T : Nat → Nat) (v : Value) (bs : List Nat) (w : World) (hT : TabAt w bt T) (hO : TOK T) (hB : BytesAt w v bs) :
    Calls Try.prog 17 #[.pointer (some ⟨bt, 0, none⟩), v] w fun e w' => e = .returned (.int .u32 (Crc.on T 0 bs : Nat)) ∧ w = w' := by
  go_enter Try.func17, Try.ntmps17
  go_wp2_with fail
  refine (on_any bt T 0 v bs w (by omega) (by omega) hT hO hB).mono ?_
  rintro e w' ⟨rfl, rfl⟩
  go_wp2
  go_ret
  exact ⟨rfl, rfl⟩
set_option maxRecDepth 100000 in
set_option maxHeartbeats 400000 in
theorem of_nil (v : Value) (w : World) :
    Calls Try.prog 17 #[.pointer none, v] w fun e w' => e = .returned (.int .u32 0) ∧ w = w' := by
  go_enter Try.func17, Try.ntmps17
  go_wp2_with fail
  refine (on_nil 0 v w).mono ?_
  rintro e w' ⟨rfl, rfl⟩
  go_wp2
  go_ret
  exact ⟨rfl, rfl⟩
set_option maxRecDepth 100000 in
set_option maxHeartbeats 400000 in
theorem table_any (w : World) : Calls Try.prog 13 #[] w fun e w' => e = .returned (.agg (aggOf Crc.tab)) ∧ Below w.heap.size w w' := by
  have hz := zero23
  go_enter Try.func13, Try.ntmps13
  go_wp2
  clear hz
  go_loopw [1, 2, 3, 8] (fun _ _ i _ wr => ∃ k : Nat, k ≤ 256 ∧ i = .int .i64 k ∧ TabRow Crc.tab k w.heap.size wr ∧ Below w.heap.size w wr) (fun _ _ i _ _ => 256 - (intOf i).toNat)
  case atStart => exact ⟨0, by omega, rfl, TabRow.start, (Below.refl _ _).alloc (Nat.le_refl _) _⟩
  case round =>
    obtain ⟨k, hk, rfl, hrow, hbel⟩ := hrel
    by_cases hlt : k < 256
    · go_wp2
      go_loop [2, 8] (fun n i => ∃ j : Nat, j ≤ 8 ∧ i = .int .i64 j ∧ n = .int .u32 (Crc.it j k : Nat)) (fun _ i => 8 - (intOf i).toNat)
      case atStart => exact ⟨0, by omega, rfl, rfl⟩
      case round =>
        obtain ⟨j, hj, rfl, rfl⟩ := hrel
        by_cases hj8 : j < 8
        · have HS := Lib.hid (step_u32 (Crc.it j k) (Crc.it_lt j (Nat.lt_trans hlt (by decide))))
          go_wp2
          go_round
          case rel => exact ⟨j + 1, by omega, by go_num, by rw [HS.out, ← it_step]⟩
          case measure => simp [intOf]; omega
        · obtain rfl : j = 8 := by omega
          obtain ⟨v, hv⟩ := hrow.cell k hlt
          have hf := hrow.free k
          go_wp2
          go_roundw
          case rel => exact ⟨k + 1, by omega, by go_num, hrow.put hlt, hbel.setCell (Nat.le_refl _) _⟩
          case measure => simp [intOf]; omega
    · obtain rfl : k = 256 := by omega
      have hfull := hrow.full
      go_wp2_with (first | (refine wpList_load_row rfl 23 _ rfl w.heap.size rfl 23 _ _ _ hfull Try.underlying23 rfl (by rw [aggOf_size]; exact info23) ?_) | (refine wpList_store_row rfl 23 _ _ rfl w.heap.size (aggOf Crc.tab) rfl rfl 23 _ hfull (by rw [aggOf_size]; exact info23) rfl (aggOf_one _) ?_))
      have hset := setRow_heap wr w.heap.size (aggOf Crc.tab) (aggOf Crc.tab) 23 _ hfull
      exact bodyPost_ret (v := .agg (aggOf Crc.tab)) (results_cell_row (p := 0) (ty := 23) rfl _ _ w.heap.size 23 _ _ _ rfl hset Try.underlying23 rfl (by rw [aggOf_size]; exact info23)) rfl ⟨rfl, Ext.setRow hbel (Nat.le_refl _) _⟩


end Go.Proofs.Ytjkikpfccmhfmaa
