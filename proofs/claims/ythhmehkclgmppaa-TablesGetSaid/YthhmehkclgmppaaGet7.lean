/- The law TablesGet. No condition. -/
import Derived.Test.YthhmehkclgmppaaPre7
namespace Go.Proofs.Ythhmehkclgmppaa
open Go.RowKit
set_option maxRecDepth 100000 in
set_option maxHeartbeats 2000000 in
theorem tablesGet_walk (w : World) (v : Value) (o0 : ∃ n, OKC Try.prog w n 36 [v]) (key : ByteArray) (_o1 : ∃ n, OKC Try.prog w n 9 [.string key]) (s0 : Int) (o2 : ∃ n, OKC Try.prog w n 22 [.int .u64 s0]) :
    Calls Try.prog 5 #[v, .string key, .int .u64 s0] w fun e w' => e = .returned (.bool true) ∧ Ext w w' := by
  obtain ⟨l, a, cap, rfl, hg, h1, hby⟩ := okc_entries o0
  obtain ⟨s, rfl, hs⟩ := okc_nat Try.underlying22 (fun _ h => wf_u64 h) o2
  have hgs : ∀ x ∈ l, x.small := fun x hx => (hg x hx).1
  have hgs' := Lib.hid hgs
  have h1' := Lib.hid h1
  have hll : l.length ≤ 140737488351232 := by omega
  clear o0 o2 _o1 hg hgs h1 hby
  go_enter Try.func5, Try.ntmps5
  go_wp2_with fail
  refine (alive_any w).mono ?_
  rintro e w1 ⟨rfl, hE1⟩
  go_wp2_with fail
  refine (many_any w1 l a cap hgs'.out hll (h1'.out.ext hE1)).mono ?_
  rintro e w2 ⟨rfl, hE2⟩
  replace hE2 := hE1.trans hE2
  clear hE1
  cases hm : manyB l
  · have hml := many_false hm
    have hm' := Lib.hid hm
    clear hm
    by_cases hk : 1000 < key.size
    · have hki : (1000 : Int) < (key.size : Int) := by omega
      go_wp2_with fail
      refine (alive_any w2).mono ?_
      rintro e w3 ⟨rfl, hE3⟩
      go_wp2_with fail
      go_ret
      exact ⟨rfl, hE2.trans hE3⟩
    · have hki : ¬ (1000 : Int) < (key.size : Int) := by omega
      go_wp2_with fail
      refine (putl_nil w2 l a cap hgs'.out (by omega) (h1'.out.ext hE2)).mono ?_
      rintro e w3 ⟨rfl, hT⟩
      have hLr := tabL_rises l
      have hLn := tabL_length l
      have hLf : ∀ e ∈ tabL l, fineB e = true := fun _ h => (tabL_fine h).2
      generalize w2.heap.size + 1 = tb at *
      generalize tabL l = L at *
      have hE3 := hE2.trans hT.1
      go_wp2_with fail
      refine (tx_all hT (by omega) hLf).mono ?_
      rintro e w4 ⟨ra, rc, rfl, hR, hE4⟩
      replace hT := hT.ext hE4
      replace hE4 := hE3.trans hE4
      have hLr' := Lib.hid hLr
      clear hE3 hE2 hLr hLf
      have hT' := Lib.hid hT
      have hR' := Lib.hid hR
      clear hT hR
      go_wp2_with (first | (refine wpList_store_whole (by rfl) 26 (.tmp 9) (.tmp 35) (by rfl) w4 _ #[.string ⟨#[]⟩, .int .u64 0, .bool false, .string ⟨#[]⟩] w4.heap.size (by rfl) rfl (by rfl) info_entry rfl rfl ?_) | fail)
      have hz : (w4.alloc (.cells (enRow zEn) 26)).heap[w4.heap.size]? = some (.cells (enRow zEn) 26 (0, 0)) := heap_alloc_new w4 _
      have hE5 : Ext w4 (w4.alloc (.cells (enRow zEn) 26)) := (Ext.refl _).alloc _
      rw [show (#[.string ⟨#[]⟩, .int .u64 0, .bool false, .string ⟨#[]⟩] : Array Value) = enRow zEn from rfl]
      generalize w4.alloc _ = w5 at *
      obtain ⟨g, hgg⟩ : ∃ g, g = w4.heap.size := ⟨_, rfl⟩
      have hgle : w4.heap.size ≤ g := by omega
      rw [← hgg] at hz ⊢
      clear hgg
      go_loopw [10, 11] (fun th i wr => ∃ k : Nat, k ≤ L.length ∧ i = .int .i64 k ∧ th = .bool ((L.take k).find? (isP key s)).isSome ∧ wr.heap[g]? = some (.cells (enRow (((L.take k).find? (isP key s)).getD zEn)) 26 (0, 0)) ∧ Ext w4 wr) (fun _ i _ => L.length - (intOf i).toNat)
      case atStart => exact ⟨0, by omega, rfl, rfl, hz, hE5⟩
      case round =>
        clear hz hE5
        obtain ⟨k, hk2, rfl, rfl, hrow, hE⟩ := hrel
        cases hF : (L.take k).find? (isP key s) with
        | none =>
          rw [hF] at hrow
          simp only [Option.getD_none] at hrow
          by_cases hlt : k < L.length
          · have hli : (k : Int) < (L.length : Int) := by omega
            obtain ⟨c, hc⟩ : ∃ c, L[k]? = some c := ⟨_, List.getElem?_eq_getElem hlt⟩
            obtain ⟨b, off, hat⟩ := (hR'.out.ext hE).at
            obtain ⟨rfl, _, hd⟩ := hat (by omega)
            have pe := ens_range hd hc
            have p0 := pe 0 _ rfl
            have p1 := pe 1 _ rfl
            rw [Nat.add_zero] at p0
            have hFk := find_take (p := isP key s) hc
            rw [hF] at hFk
            simp only [Option.none_or] at hFk
            clear hd hat
            have hF' := Lib.hid hF
            have hc' := Lib.hid hc
            clear hF hc
            cases hkk : c.mark.key.toList == key.toList
            · rw [if_neg (by unfold isP; rw [hkk]; simp)] at hFk
              have hFk' := Lib.hid hFk
              clear hFk pe
              go_wp2_with fail
              go_roundw
              case rel => exact ⟨k + 1, by omega, by go_num, by rw [hFk'.out] <;> rfl, by rw [hFk'.out]; exact hrow, hE⟩
              case measure => simp [intOf]; omega
            · by_cases hsq : c.mark.seq ≤ s
              · have hsi : (c.mark.seq : Int) ≤ (s : Int) := by omega
                rw [if_pos (by unfold isP; rw [hkk]; simpa using hsq)] at hFk
                have hFk' := Lib.hid hFk
                clear hFk
                go_wp2_with (first | (refine wpList_load_mid (by rfl) 26 (.tmp 66) (by rfl) b (off + k * 4) (by rfl) (enRow c).toList _ pe Try.underlying26 rfl (by exact info_entry) ?_) | (refine wpList_store_row (by rfl) 26 (.tmp 9) (.tmp 67) (by rfl) g (enRow c) (by rfl) (by rfl) 26 (enRow zEn) hrow (by exact info_entry) (by rfl) (by exact en_one c) ?_) | fail)
                have hset : (wr.setRow g (enRow c)).heap[g]? = some (.cells (enRow c) 26 (0, 0)) := by rw [setRow_heap _ _ _ _ _ _ hrow]
                go_roundw
                case rel => exact ⟨k + 1, by omega, by go_num, by rw [hFk'.out] <;> rfl, by rw [hFk'.out]; exact hset, hE.setRow hgle _⟩
                case measure => simp [intOf]; omega
              · have hsi : ¬ (c.mark.seq : Int) ≤ (s : Int) := by omega
                rw [if_neg (by unfold isP; rw [hkk]; simpa using hsq)] at hFk
                have hFk' := Lib.hid hFk
                clear hFk pe
                go_wp2_with fail
                go_roundw
                case rel => exact ⟨k + 1, by omega, by go_num, by rw [hFk'.out] <;> rfl, by rw [hFk'.out]; exact hrow, hE⟩
                case measure => simp [intOf]; omega
          · have hli : ¬ (k : Int) < (L.length : Int) := by omega
            have hfin : L.find? (isP key s) = none := by rw [← hF, List.take_of_length_le (by omega)]
            clear hF
            obtain ⟨X, hX⟩ : ∃ X, X = zEn := ⟨_, rfl⟩
            rw [← hX] at hrow
            have hget : ∀ w', TabX w2 w' tb L → Calls Try.prog 10 #[.pointer (some ⟨tb, 0, none⟩), .string key, .int .u64 (s : Int)] w' fun e w'' => e = .returned (.tuple #[.agg (enRow X), .bool false]) ∧ Ext w' w'' := fun w' h => by
              have := tx_get h key s
              rw [getS_find hLr'.out, hfin] at this; rw [hX]; exact this
            have hget2 : ∀ w', TabX w2 w' tb L → Calls Try.prog 10 #[.pointer (some ⟨tb, 0, none⟩), .string key, .int .u64 (X.mark.seq : Int)] w' fun e w'' => ∃ (y : En) (q : Bool), e = .returned (.tuple #[.agg (enRow y), .bool q]) ∧ Ext w' w'' := fun w' h =>
              (tx_get h key X.mark.seq).mono fun _ _ h => ⟨_, _, h⟩
            have hg1 := Lib.hid hget
            have hg2 := Lib.hid hget2
            clear hget hget2 hfin hX
            go_wp2_with fail
            refine (hg1.out _ (hT'.out.ext hE)).mono ?_
            rintro e w6 ⟨rfl, hE6⟩
            replace hrow := hE6.row hrow
            replace hE6 := hE.trans hE6
            clear hE
            go_upto_region 16 with (first | (refine wpList_store_whole (by rfl) 26 (.tmp 12) (.tmp 73) (by rfl) w6 _ (enRow X) w6.heap.size (by rfl) rfl (by rfl) info_entry rfl (en_one X) ?_) | fail)
            have hr12 := heap_alloc_new w6 (.cells (enRow X) 26)
            have hE7 := (Ext.refl w6).alloc (.cells (enRow X) 26)
            replace hrow := hE7.row hrow
            replace hE7 := hE6.trans hE7
            clear hE6
            generalize w6.alloc _ = w7 at *
            generalize w6.heap.size = g2 at *
            obtain ⟨y0, y1, y2, y3⟩ := en_cells hr12
            go_wp2_with fail
            refine (hg2.out _ (hT'.out.ext hE7)).mono ?_
            rintro e w8 ⟨y, q, rfl, hE8⟩
            clear y0 y1 y2 y3
            replace hrow := hE8.row hrow
            replace hr12 := hE8.row hr12
            replace hE8 := hE7.trans hE8
            clear hE7
            go_upto_region 17 with (first | (refine wpList_store_whole (by rfl) 26 (.tmp 14) (.tmp 82) (by rfl) w8 _ (enRow y) w8.heap.size (by rfl) rfl (by rfl) info_entry rfl (en_one y) ?_) | fail)
            have hr14 := heap_alloc_new w8 (.cells (enRow y) 26)
            have hE9 := (Ext.refl w8).alloc (.cells (enRow y) 26)
            replace hrow := hE9.row hrow
            replace hr12 := hE9.row hr12
            replace hE9 := hE8.trans hE9
            clear hE8
            generalize w8.alloc _ = w9 at *
            generalize w8.heap.size = g3 at *
            have hrow2 := en_range hrow
            have hr122 := en_range hr12
            have hr142 := en_range hr14
            have hxx : sameEB X X = true := sameE_iff.2 rfl
            clear hrow hr12 hr14
            go_wp2_with (first | (refine wpList_load_mid (by rfl) 26 (.tmp 12) (by rfl) g2 0 (by rfl) (enRow X).toList _ hr122 Try.underlying26 rfl (by exact info_entry) ?_) | (refine wpList_load_mid (by rfl) 26 (.tmp 9) (by rfl) g 0 (by rfl) (enRow X).toList _ hrow2 Try.underlying26 rfl (by exact info_entry) ?_) | (refine wpList_load_mid_on (by rfl) 26 (.tmp 14) (by rfl) g3 0 (by rfl) (enRow y).toList _ hr142 Try.underlying26 rfl (by exact info_entry) ?_) | (refine wpList_load_mid_on (by rfl) 26 (.tmp 12) (by rfl) g2 0 (by rfl) (enRow X).toList _ hr122 Try.underlying26 rfl (by exact info_entry) ?_) | (refine wpList_eql_en (by rfl) (.tmp 84) (.tmp 85) (by rfl) X X (by rfl) (by rfl) ?_; rw [hxx]) | (refine wpList_eql_en (by rfl) (.tmp 98) (.tmp 99) (by rfl) X X (by rfl) (by rfl) ?_; rw [hxx]) | fail)
            go_ret
            exact ⟨rfl, hE4.trans hE9⟩
        | some x =>
          rw [hF] at hrow
          simp only [Option.getD_some] at hrow
          have hfin : L.find? (isP key s) = some x := by
            have h0 := hF
            rw [List.find?_eq_some_iff_append] at h0 ⊢
            obtain ⟨h1, p, r, h2, h3⟩ := h0
            exact ⟨h1, p, r ++ L.drop k, by rw [← List.cons_append, ← List.append_assoc, ← h2, List.take_append_drop], h3⟩
          clear hF
          by_cases hlt : k < L.length
          · have hli : (k : Int) < (L.length : Int) := by omega
            obtain ⟨X, hX⟩ : ∃ X, X = x := ⟨_, rfl⟩
            rw [← hX] at hrow hfin
            have hget : ∀ w', TabX w2 w' tb L → Calls Try.prog 10 #[.pointer (some ⟨tb, 0, none⟩), .string key, .int .u64 (s : Int)] w' fun e w'' => e = .returned (.tuple #[.agg (enRow X), .bool true]) ∧ Ext w' w'' := fun w' h => by
              have := tx_get h key s
              rw [getS_find hLr'.out, hfin] at this; exact this
            have hget2 : ∀ w', TabX w2 w' tb L → Calls Try.prog 10 #[.pointer (some ⟨tb, 0, none⟩), .string key, .int .u64 (X.mark.seq : Int)] w' fun e w'' => e = .returned (.tuple #[.agg (enRow X), .bool true]) ∧ Ext w' w'' := fun w' h => by
              have := tx_get h key X.mark.seq
              rw [getS_find hLr'.out, find_again hfin] at this; exact this
            have hg1 := Lib.hid hget
            have hg2 := Lib.hid hget2
            clear hget hget2 hfin hX
            go_wp2_with fail
            refine (hg1.out _ (hT'.out.ext hE)).mono ?_
            rintro e w6 ⟨rfl, hE6⟩
            replace hrow := hE6.row hrow
            replace hE6 := hE.trans hE6
            clear hE
            go_upto_region 16 with (first | (refine wpList_store_whole (by rfl) 26 (.tmp 12) (.tmp 73) (by rfl) w6 _ (enRow X) w6.heap.size (by rfl) rfl (by rfl) info_entry rfl (en_one X) ?_) | fail)
            have hr12 := heap_alloc_new w6 (.cells (enRow X) 26)
            have hE7 := (Ext.refl w6).alloc (.cells (enRow X) 26)
            replace hrow := hE7.row hrow
            replace hE7 := hE6.trans hE7
            clear hE6
            generalize w6.alloc _ = w7 at *
            generalize w6.heap.size = g2 at *
            obtain ⟨y0, y1, y2, y3⟩ := en_cells hr12
            go_wp2_with fail
            refine (hg2.out _ (hT'.out.ext hE7)).mono ?_
            rintro e w8 ⟨rfl, hE8⟩
            clear y0 y1 y2 y3
            replace hrow := hE8.row hrow
            replace hr12 := hE8.row hr12
            replace hE8 := hE7.trans hE8
            clear hE7
            go_upto_region 17 with (first | (refine wpList_store_whole (by rfl) 26 (.tmp 14) (.tmp 82) (by rfl) w8 _ (enRow X) w8.heap.size (by rfl) rfl (by rfl) info_entry rfl (en_one X) ?_) | fail)
            have hr14 := heap_alloc_new w8 (.cells (enRow X) 26)
            have hE9 := (Ext.refl w8).alloc (.cells (enRow X) 26)
            replace hrow := hE9.row hrow
            replace hr12 := hE9.row hr12
            replace hE9 := hE8.trans hE9
            clear hE8
            generalize w8.alloc _ = w9 at *
            generalize w8.heap.size = g3 at *
            have hrow2 := en_range hrow
            have hr122 := en_range hr12
            have hr142 := en_range hr14
            have hxx : sameEB X X = true := sameE_iff.2 rfl
            clear hrow hr12 hr14
            go_wp2_with (first | (refine wpList_load_mid (by rfl) 26 (.tmp 12) (by rfl) g2 0 (by rfl) (enRow X).toList _ hr122 Try.underlying26 rfl (by exact info_entry) ?_) | (refine wpList_load_mid (by rfl) 26 (.tmp 9) (by rfl) g 0 (by rfl) (enRow X).toList _ hrow2 Try.underlying26 rfl (by exact info_entry) ?_) | (refine wpList_load_mid_on (by rfl) 26 (.tmp 14) (by rfl) g3 0 (by rfl) (enRow X).toList _ hr142 Try.underlying26 rfl (by exact info_entry) ?_) | (refine wpList_load_mid_on (by rfl) 26 (.tmp 12) (by rfl) g2 0 (by rfl) (enRow X).toList _ hr122 Try.underlying26 rfl (by exact info_entry) ?_) | (refine wpList_eql_en (by rfl) (.tmp 84) (.tmp 85) (by rfl) X X (by rfl) (by rfl) ?_; rw [hxx]) | (refine wpList_eql_en (by rfl) (.tmp 98) (.tmp 99) (by rfl) X X (by rfl) (by rfl) ?_; rw [hxx]) | fail)
            go_ret
            exact ⟨rfl, hE4.trans hE9⟩
          · have hli : ¬ (k : Int) < (L.length : Int) := by omega
            obtain ⟨X, hX⟩ : ∃ X, X = x := ⟨_, rfl⟩
            rw [← hX] at hrow hfin
            have hget : ∀ w', TabX w2 w' tb L → Calls Try.prog 10 #[.pointer (some ⟨tb, 0, none⟩), .string key, .int .u64 (s : Int)] w' fun e w'' => e = .returned (.tuple #[.agg (enRow X), .bool true]) ∧ Ext w' w'' := fun w' h => by
              have := tx_get h key s
              rw [getS_find hLr'.out, hfin] at this; exact this
            have hget2 : ∀ w', TabX w2 w' tb L → Calls Try.prog 10 #[.pointer (some ⟨tb, 0, none⟩), .string key, .int .u64 (X.mark.seq : Int)] w' fun e w'' => e = .returned (.tuple #[.agg (enRow X), .bool true]) ∧ Ext w' w'' := fun w' h => by
              have := tx_get h key X.mark.seq
              rw [getS_find hLr'.out, find_again hfin] at this; exact this
            have hg1 := Lib.hid hget
            have hg2 := Lib.hid hget2
            clear hget hget2 hfin hX
            go_wp2_with fail
            refine (hg1.out _ (hT'.out.ext hE)).mono ?_
            rintro e w6 ⟨rfl, hE6⟩
            replace hrow := hE6.row hrow
            replace hE6 := hE.trans hE6
            clear hE
            go_upto_region 16 with (first | (refine wpList_store_whole (by rfl) 26 (.tmp 12) (.tmp 73) (by rfl) w6 _ (enRow X) w6.heap.size (by rfl) rfl (by rfl) info_entry rfl (en_one X) ?_) | fail)
            have hr12 := heap_alloc_new w6 (.cells (enRow X) 26)
            have hE7 := (Ext.refl w6).alloc (.cells (enRow X) 26)
            replace hrow := hE7.row hrow
            replace hE7 := hE6.trans hE7
            clear hE6
            generalize w6.alloc _ = w7 at *
            generalize w6.heap.size = g2 at *
            obtain ⟨y0, y1, y2, y3⟩ := en_cells hr12
            go_wp2_with fail
            refine (hg2.out _ (hT'.out.ext hE7)).mono ?_
            rintro e w8 ⟨rfl, hE8⟩
            clear y0 y1 y2 y3
            replace hrow := hE8.row hrow
            replace hr12 := hE8.row hr12
            replace hE8 := hE7.trans hE8
            clear hE7
            go_upto_region 17 with (first | (refine wpList_store_whole (by rfl) 26 (.tmp 14) (.tmp 82) (by rfl) w8 _ (enRow X) w8.heap.size (by rfl) rfl (by rfl) info_entry rfl (en_one X) ?_) | fail)
            have hr14 := heap_alloc_new w8 (.cells (enRow X) 26)
            have hE9 := (Ext.refl w8).alloc (.cells (enRow X) 26)
            replace hrow := hE9.row hrow
            replace hr12 := hE9.row hr12
            replace hE9 := hE8.trans hE9
            clear hE8
            generalize w8.alloc _ = w9 at *
            generalize w8.heap.size = g3 at *
            have hrow2 := en_range hrow
            have hr122 := en_range hr12
            have hr142 := en_range hr14
            have hxx : sameEB X X = true := sameE_iff.2 rfl
            clear hrow hr12 hr14
            go_wp2_with (first | (refine wpList_load_mid (by rfl) 26 (.tmp 12) (by rfl) g2 0 (by rfl) (enRow X).toList _ hr122 Try.underlying26 rfl (by exact info_entry) ?_) | (refine wpList_load_mid (by rfl) 26 (.tmp 9) (by rfl) g 0 (by rfl) (enRow X).toList _ hrow2 Try.underlying26 rfl (by exact info_entry) ?_) | (refine wpList_load_mid_on (by rfl) 26 (.tmp 14) (by rfl) g3 0 (by rfl) (enRow X).toList _ hr142 Try.underlying26 rfl (by exact info_entry) ?_) | (refine wpList_load_mid_on (by rfl) 26 (.tmp 12) (by rfl) g2 0 (by rfl) (enRow X).toList _ hr122 Try.underlying26 rfl (by exact info_entry) ?_) | (refine wpList_eql_en (by rfl) (.tmp 84) (.tmp 85) (by rfl) X X (by rfl) (by rfl) ?_; rw [hxx]) | (refine wpList_eql_en (by rfl) (.tmp 98) (.tmp 99) (by rfl) X X (by rfl) (by rfl) ?_; rw [hxx]) | fail)
            go_ret
            exact ⟨rfl, hE4.trans hE9⟩
  · have hm' := Lib.hid hm
    clear hm
    go_wp2_with fail
    refine (alive_any w2).mono ?_
    rintro e w3 ⟨rfl, hE3⟩
    go_wp2_with fail
    go_ret
    exact ⟨rfl, hE2.trans hE3⟩
end Go.Proofs.Ythhmehkclgmppaa
