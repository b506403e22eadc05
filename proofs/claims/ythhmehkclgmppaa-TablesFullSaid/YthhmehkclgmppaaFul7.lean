/- The law TablesFull. No condition. -/
import Derived.Test.YthhmehkclgmppaaFul7a
import Derived.Deep.RegionWith
import Derived.Deep.CutRange
import Derived.IntWalk
import Derived.Laws.BytesArg
namespace Go.Proofs.Ythhmehkclgmppaa
open Go.RowKit
theorem run_conv2 {w : World} {b : Nat} {x y : Int} (h0 : w.cell? ⟨b, 0, none⟩ = some (.int .u8 x)) (h1 : w.cell? ⟨b, 1, none⟩ = some (.int .u8 y)) : (convert 40 9 (.slice (some ⟨b, 0, none⟩) 2 2)).run Try.prog w = .ok (.string (strOfNums [x, y])) w := by
  refine run_convert_bytes_arg w 40 5 Try.underlying40 Try.underlying5 b 0 2 2 [x, y] rfl (fun i hi => ?_) 9 Try.underlying9
  obtain rfl | rfl : i = 0 ∨ i = 1 := by omega
  · exact h0
  · exact h1
theorem conv_new (w : World) (x y : Int) : (convert 40 9 (.slice (some ⟨w.heap.size, 0, none⟩) 2 2)).run Try.prog (w.alloc (.cells #[.int .u8 x, .int .u8 y] 5)).drew = .ok (.string (strOfNums [x, y])) (w.alloc (.cells #[.int .u8 x, .int .u8 y] 5)).drew := by
  have h : (w.alloc (.cells #[.int .u8 x, .int .u8 y] 5)).drew.heap[w.heap.size]? = some (.cells #[.int .u8 x, .int .u8 y] 5 (0, 0)) := heap_alloc_new w _
  refine run_conv2 ?_ ?_
  · rw [cell_of_row _ _ 0 _ 5 (0, 0) h]; rfl
  · rw [cell_of_row _ _ 1 _ 5 (0, 0) h]; rfl
set_option maxRecDepth 100000 in
set_option maxHeartbeats 2000000 in
theorem tablesFull_walk (w : World) (f : Int) (o0 : ∃ n, OKC Try.prog w n 5 [.int .u8 f]) (t : Int) (o1 : ∃ n, OKC Try.prog w n 5 [.int .u8 t]) (vc : Array Value) (o2 : ∃ n, OKC Try.prog w n 50 vc.toList) :
    Calls Try.prog 7 #[.int .u8 f, .int .u8 t, .agg vc] w fun e w' => e = .returned (.bool true) ∧ Ext w w' := by
  obtain ⟨f, rfl, hf⟩ := okc_nat Try.underlying5 (fun _ h => wf_u8 h) o0
  obtain ⟨t, rfl, ht⟩ := okc_nat Try.underlying5 (fun _ h => wf_u8 h) o1
  obtain ⟨v0, v1, rfl, hv0, hv1⟩ : ∃ v0 v1 : Nat, vc = #[.int .u8 (v0 : Int), .int .u8 (v1 : Int)] ∧ v0 < 256 ∧ v1 < 256 := by
    obtain ⟨n, o2⟩ := o2
    cases n with
    | zero => exact o2.elim
    | succ n =>
      unfold OKC at o2
      rw [Try.underlying50] at o2
      simp only [show Try.prog.cellsOf 50 = 2 by kernel_rfl, show Try.prog.cellsOf 5 = 1 by kernel_rfl] at o2
      obtain ⟨hl, hi⟩ := o2
      obtain ⟨cs, rfl⟩ : ∃ cs : List Value, vc = cs.toArray := ⟨vc.toList, by simp⟩
      match cs, hl with
      | [x, y], _ =>
        have h0 := hi 0 (by decide)
        have h1 := hi 1 (by decide)
        simp at h0 h1
        obtain ⟨a, ha, ha2⟩ := okc_int Try.underlying5 h0
        obtain ⟨b, hb, hb2⟩ := okc_int Try.underlying5 h1
        obtain ⟨a0, a1⟩ := wf_u8 ha2
        obtain ⟨b0, b1⟩ := wf_u8 hb2
        obtain ⟨c, rfl⟩ := Int.eq_ofNat_of_zero_le a0
        obtain ⟨d, rfl⟩ := Int.eq_ofNat_of_zero_le b0
        simp at ha hb
        subst ha; subst hb
        exact ⟨c, d, rfl, by omega, by omega⟩
  clear o0 o1 o2
  obtain ⟨W, hW⟩ : ∃ W, W = w.alloc (.cells #[.int .u8 (v0 : Int), .int .u8 (v1 : Int)] 50) := ⟨_, rfl⟩
  have hE0 : Ext w W := by rw [hW]; exact (Ext.refl _).alloc _
  have hB : W.heap[w.heap.size]? = some (.cells #[.int .u8 (v0 : Int), .int .u8 (v1 : Int)] 50 (0, 0)) := by rw [hW]; exact heap_alloc_new w _
  have hW' := Lib.hid hW
  clear hW
  go_enter Try.func7, Try.ntmps7
  go_wp2_with fail
  rw [← hW'.out]
  clear hW'
  obtain ⟨bv, hbv⟩ : ∃ bv, bv = w.heap.size := ⟨_, rfl⟩
  rw [← hbv] at hB ⊢
  clear hbv
  refine (tx_new W).mono ?_
  rintro e w1 ⟨rfl, hT⟩
  generalize W.heap.size + 1 = tb at *
  obtain ⟨nn, hn1, hn2, hn3⟩ : ∃ nn : Nat, (4096 : Int) - (f : Int) % 3 = (nn : Int) ∧ 0 < nn ∧ nn ≤ 4096 := ⟨4096 - f % 3, by omega, by omega, by omega⟩
  have hn1' := Lib.hid hn1
  clear hn1
  go_upto_region 3 with fail
  rw [hn1'.out]
  clear hn1'
  obtain ⟨val, hval⟩ : ∃ val : ByteArray, val = ⟨#[UInt8.ofNat v0, UInt8.ofNat v1]⟩ := ⟨_, rfl⟩
  have hvs : val.size = 2 := by rw [hval]; rfl
  have hb0 : ∀ w', Ext W w' → w'.cell? ⟨bv, 0, none⟩ = some (.int .u8 (v0 : Int)) ∧ w'.cell? ⟨bv, 1, none⟩ = some (.int .u8 (v1 : Int)) := fun w' h => by
    have h1 := h.row hB
    exact ⟨by rw [cell_of_row _ _ 0 _ 50 (0, 0) h1]; rfl, by rw [cell_of_row _ _ 1 _ 50 (0, 0) h1]; rfl⟩
  have hb := Lib.hid hb0
  have hval' := Lib.hid hval
  clear hb0 hB hval
  go_wp2_with fail
  go_loopw [9] (fun i wr => ∃ k : Nat, k ≤ nn ∧ i = .int .i64 k ∧ TabX W wr tb (fL val k)) (fun i _ => nn - (intOf i).toNat)
  case atStart => exact ⟨0, by omega, rfl, hT⟩
  case round =>
    clear hT
    obtain ⟨k, hk, rfl, hT⟩ := hrel
    by_cases hlt : k < nn
    · have hli : (k : Int) < (nn : Int) := by omega
      obtain ⟨c0, c1⟩ := hb.out wr hT.1
      have hT' := Lib.hid hT
      have hW0 := hT.1
      have hS0 : ∀ w', Ext W w' → Ext W w' ∧ w'.cell? ⟨bv, 0, none⟩ = some (.int .u8 (v0 : Int)) ∧ w'.cell? ⟨bv, 1, none⟩ = some (.int .u8 (v1 : Int)) := fun w' h => ⟨h, hb.out w' h⟩
      have hS := Lib.hid hS0
      clear hT hS0 c0 c1
      obtain ⟨q, hq⟩ : ∃ q : Nat, q = k / 200 := ⟨_, rfl⟩
      obtain ⟨a0, ha0⟩ : ∃ a0 : Nat, a0 = 97 + k / 200 := ⟨_, rfl⟩
      obtain ⟨a1, ha1⟩ : ∃ a1 : Nat, a1 = k % 7 := ⟨_, rfl⟩
      obtain ⟨kt, hkt⟩ : ∃ kt : Nat, kt = k + t := ⟨_, rfl⟩
      obtain ⟨r, hr⟩ : ∃ r : Nat, r = (k + t) % 8 := ⟨_, rfl⟩
      obtain ⟨h, hh⟩ : ∃ h : Nat, h = 1 + (k + t) % 8 := ⟨_, rfl⟩
      have hh1 : 1 ≤ h := by omega
      have hh8 : h ≤ 8 := by omega
      have e24 : IntKind.i64.wrap ((k : Int) / 200) = (q : Int) := by rw [IntKind.wrap_i64]; omega
      have e25 : IntKind.u8.wrap (q : Int) = (q : Int) := by rw [IntKind.wrap_u8]; omega
      have e26 : IntKind.u8.wrap (97 + (q : Int)) = (a0 : Int) := by rw [IntKind.wrap_u8]; omega
      have e28 : (k : Int).tmod 7 = (a1 : Int) := by rw [Int.tmod_eq_emod_of_nonneg (by omega)]; omega
      have e29 : IntKind.u8.wrap (a1 : Int) = (a1 : Int) := by rw [IntKind.wrap_u8]; omega
      have e33 : IntKind.u64.wrap (k : Int) = (k : Int) := by rw [IntKind.wrap_u64]; omega
      have e40 : IntKind.i64.wrap (t : Int) = (t : Int) := by rw [IntKind.wrap_i64]; omega
      have e41 : IntKind.i64.wrap ((k : Int) + (t : Int)) = (kt : Int) := by rw [IntKind.wrap_i64]; omega
      have e42 : (kt : Int).tmod 8 = (r : Int) := by rw [Int.tmod_eq_emod_of_nonneg (by omega)]; omega
      have e43 : IntKind.i64.wrap (1 + (r : Int)) = (h : Int) := by rw [IntKind.wrap_i64]; omega
      have hput : ∀ w', TabX W w' tb (fL val k) → Calls Try.prog 11 #[.pointer (some ⟨tb, 0, none⟩), .agg #[.string (strOfNums [(a0 : Int), (a1 : Int)]), .int .u64 (k : Int), .bool false, .string (strOfNums [(v0 : Int), (v1 : Int)])], .int .i64 (h : Int)] w' fun e w'' => e = .returned (.int .i64 0) ∧ TabX W w'' tb (fL val (k + 1)) := fun w' hx => by
        have h9 := fL_putC val hvs k (by omega) h hh1 hh8
        have := tx_put hx (fe val k) (h : Int) (by rw [fL_length val hvs k (by omega)]; omega) ⟨(by show 2 ≤ 140737488351232; omega), by show val.size ≤ _; omega⟩
        rw [h9.1, h9.2] at this
        have e1 : strOfNums [(a0 : Int), (a1 : Int)] = (fe val k).mark.key := by rw [ha0, ha1]; rfl
        have e2 : strOfNums [(v0 : Int), (v1 : Int)] = (fe val k).val := by show _ = val; rw [hval'.out]; rfl
        rw [e1, e2]
        exact this
      have hput' := Lib.hid hput
      clear hput
      have hids := Lib.hid (And.intro hq (And.intro ha0 (And.intro ha1 (And.intro hkt (And.intro hr hh)))))
      clear hq ha0 ha1 hkt hr hh
      go_upto_region 6 with fail
      go_cut [45] from 22 to 45 (fun s wx => s = .bool false ∧ TabX W wx tb (fL val (k + 1)))
      case first =>
        have hd1 : ∀ w', Ext W w' → (convert 40 9 (.slice (some ⟨bv, 0, none⟩) 2 2)).run Try.prog w' = .ok (.string (strOfNums [(v0 : Int), (v1 : Int)])) w' := fun w' h => run_conv2 (hb.out w' h).1 (hb.out w' h).2
        have hc1 := hd1 _ hW0.drew
        have hc2 := hd1 _ ((hW0.alloc (.cells #[.int .u8 (a0 : Int), .int .u8 (a1 : Int)] 5)).drew)
        have hc3 := conv_new wr (a0 : Int) (a1 : Int)
        have hb' := Lib.hid hb
        clear hd1 hb hS
        go_region_with (first | (go_at_call 11; refine (hput'.out _ (hT'.out.ext ((Ext.refl wr).alloc _).drew)).mono ?_; rintro e w5 ⟨rfl, hT5⟩; have hW5 := hT5.1) | fail)
        all_goals (go_wp2_with fail; go_meet; exact ⟨rfl, hT5⟩)
      case rest =>
      obtain ⟨rfl, hT2⟩ := hcut
      go_wp2_with fail
      go_roundw
      case rel => first | exact ⟨k + 1, by omega, by go_num, hT2⟩ | ((repeat apply Exists.intro); exact ⟨⟨k + 1, by omega, by go_num, hT2⟩, rfl⟩)
      case measure => simp [intOf]; omega
    · have hli : ¬ (k : Int) < (nn : Int) := by omega
      obtain rfl : k = nn := by omega
      go_wp2_with fail
      go_loopw [10] (fun i wr2 => ∃ (j : Nat) (M : List En), j ≤ 4099 ∧ k ≤ j ∧ i = .int .i64 j ∧ TabX W wr2 tb M ∧ Full val j M) (fun i _ => 4099 - (intOf i).toNat)
      case atStart => exact ⟨k, fL val k, by omega, by omega, rfl, hT, Full.start hvs hn2 hn3⟩
      case round =>
        clear hT
        obtain ⟨j, M, hj, hkj, rfl, hT, hM⟩ := hrel
        have hMl := hM.len
        have hMl2 : M.length ≤ 4096 := by omega
        by_cases hjl : j < 4099
        · have hji : (j : Int) < 4099 := by omega
          have hMp := hM.put
          have hen : ∀ w', Calls Try.prog 22 #[.string ⟨#[122]⟩, .int .u64 (j : Int), .string ⟨#[118]⟩] w' fun e w'' => e = .returned (.agg (enRow (ze j))) ∧ Ext w' w'' := fun w' => entry_any w' ⟨#[122]⟩ j ⟨#[118]⟩
          have hpt : ∀ w', TabX W w' tb M → Calls Try.prog 11 #[.pointer (some ⟨tb, 0, none⟩), .agg (enRow (ze j)), .int .i64 1] w' fun e w'' => e = .returned (.int .i64 (if j < 4096 then 0 else 6)) ∧ TabX W w'' tb (putL M (ze j) 1) := fun w' h => by
            have := tx_put h (ze j) 1 hMl2 ⟨(by show 1 ≤ 140737488351232; omega), (by show 1 ≤ 140737488351232; omega)⟩
            rw [hMp.1] at this; exact this
          have hM2 := hMp.2
          generalize putL M (ze j) 1 = M2 at *
          generalize enRow (ze j) = row at *
          have hT' := Lib.hid hT
          have hen' := Lib.hid hen
          clear hT hMp hen hMl
          by_cases hj6 : j < 4096
          · rw [if_pos hj6] at hpt
            have hpt' := Lib.hid hpt
            have hd : decide ((j : Int) < 4096) = true := decide_eq_true (by omega)
            clear hpt
            go_wp2_with fail
            refine (hen'.out _).mono ?_
            rintro e w4 ⟨rfl, hE4⟩
            go_wp2_with fail
            refine (hpt'.out _ (hT'.out.ext hE4)).mono ?_
            rintro e w5 ⟨rfl, hT5⟩
            go_wp2_with fail
            go_roundw
            case rel => exact ⟨j + 1, M2, by omega, by omega, by go_num, hT5, hM2⟩
            case measure => simp [intOf]; omega
          · rw [if_neg hj6] at hpt
            have hpt' := Lib.hid hpt
            have hd : decide ((j : Int) < 4096) = false := decide_eq_false (by omega)
            clear hpt
            go_wp2_with fail
            refine (hen'.out _).mono ?_
            rintro e w4 ⟨rfl, hE4⟩
            go_wp2_with fail
            refine (hpt'.out _ (hT'.out.ext hE4)).mono ?_
            rintro e w5 ⟨rfl, hT5⟩
            go_wp2_with fail
            go_roundw
            case rel => exact ⟨j + 1, M2, by omega, by omega, by go_num, hT5, hM2⟩
            case measure => simp [intOf]; omega
        · have hji : ¬ (j : Int) < 4099 := by omega
          have hlen : ∀ w', TabX W w' tb M → Calls Try.prog 14 #[.pointer (some ⟨tb, 0, none⟩)] w' fun e w'' => e = .returned (.int .i64 4096) ∧ w' = w'' := fun w' h => by
            have := tx_len h
            rw [show ((M.length : Nat) : Int) = 4096 by omega] at this; exact this
          have hpt : ∀ w', TabX W w' tb M → Calls Try.prog 11 #[.pointer (some ⟨tb, 0, none⟩), .agg #[.string ⟨#[97, 0]⟩, .int .u64 0, .bool false, .string ⟨#[111, 116, 104, 101, 114]⟩], .int .i64 1] w' fun e w'' => e = .returned (.int .i64 8) ∧ Ext W w'' := fun w' h => by
            have := tx_put h otherE 1 hMl2 ⟨(by show 2 ≤ 140737488351232; omega), (by show 5 ≤ 140737488351232; omega)⟩
            rw [hM.again] at this
            exact this.mono fun e w'' ⟨a, b⟩ => ⟨a, b.1⟩
          have hlen' := Lib.hid hlen
          have hpt' := Lib.hid hpt
          have hT' := Lib.hid hT
          clear hT hlen hpt hMl
          go_wp2_with fail
          refine (alive_any _).mono ?_
          rintro e w4 ⟨rfl, hE4⟩
          have hT4 := hT'.out.ext hE4
          go_wp2_with fail
          refine (hlen'.out _ hT4).mono ?_
          rintro e w5 ⟨rfl, rfl⟩
          go_wp2_with fail
          refine (hpt'.out _ hT4).mono ?_
          rintro e w5 ⟨rfl, hE5⟩
          go_wp2_with fail
          go_ret
          exact ⟨rfl, hE0.trans hE5⟩
end Go.Proofs.Ythhmehkclgmppaa
