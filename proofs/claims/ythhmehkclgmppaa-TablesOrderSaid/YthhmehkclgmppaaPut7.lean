/- 'put' of bucketlinelaw07: the table that it makes. No condition. -/
import Derived.Test.YthhmehkclgmppaaTabX
import Derived.Deep.CutRange
namespace Go.Proofs.Ythhmehkclgmppaa
open Go.RowKit
/-- The table that the entries make, put one behind the other. -/
def tabL (l : List En) : List En := l.foldl (fun a x => putL a x 1) []
theorem tabL_putAll (l : List En) : tabL l = putAll (l.map fun x => (x, 1)) := by unfold tabL putAll; rw [List.foldl_map]
theorem tabL_snoc (l : List En) (x : En) : tabL (l ++ [x]) = putL (tabL l) x 1 := by unfold tabL; rw [List.foldl_append]; rfl
theorem tabL_take {l : List En} {k : Nat} {x : En} (h : l[k]? = some x) : tabL (l.take (k + 1)) = putL (tabL (l.take k)) x 1 := by
  rw [List.take_add_one, h]; exact tabL_snoc _ _
theorem tabL_length (l : List En) : (tabL l).length ≤ l.length := by
  have := putAll_length (l.map fun x => (x, 1)) l.length
  rw [List.take_of_length_le (by simp), ← tabL_putAll] at this; exact this
theorem tabL_rises (l : List En) : Rises (tabL l) := by
  have := putAll_rises (l.map fun x => (x, 1)) l.length List.Pairwise.nil
  rw [List.take_of_length_le (by simp), ← tabL_putAll] at this; exact this
theorem okB_one (x : En) : okB x 1 = fineB x := by unfold okB; simp
theorem okB_fine {x : En} {t : Nat} (h1 : 1 ≤ t) (h8 : t ≤ 8) : okB x (t : Int) = fineB x := by
  unfold okB
  rw [decide_eq_true (show (1 : Int) ≤ (t : Int) by omega), decide_eq_true (show (t : Int) ≤ 8 by omega)]; simp
theorem putL_tall {l : List En} {x : En} {t : Nat} (h1 : 1 ≤ t) (h8 : t ≤ 8) : putL l x (t : Int) = putL l x 1 := by
  unfold putL; rw [okB_fine h1 h8, okB_one]
theorem tabL_there {l : List En} (hl : l.length ≤ 4096) (m : Mk) : thereB (tabL l) m = true ↔ ∃ x ∈ l, fineB x = true ∧ x.mark = m := by
  have h := putAll_there (l.map fun x => (x, 1)) l.length hl m
  rw [List.take_of_length_le (by simp), ← tabL_putAll] at h
  rw [h]
  constructor
  · rintro ⟨p, hp, h1, h2⟩
    obtain ⟨x, hx, rfl⟩ := List.mem_map.1 hp
    exact ⟨x, hx, by rw [← okB_one]; exact h1, h2⟩
  · rintro ⟨x, hx, h1, h2⟩
    exact ⟨(x, 1), List.mem_map.2 ⟨x, hx, rfl⟩, by rw [okB_one]; exact h1, h2⟩
/-- Does one of these entries, that may be, have the mark? -/
def thF (l : List En) (m : Mk) : Bool := l.any fun y => sameB y.mark m && fineB y
theorem thF_iff {l : List En} {m : Mk} : thF l m = true ↔ ∃ x ∈ l, fineB x = true ∧ x.mark = m := by
  unfold thF
  rw [List.any_eq_true]
  constructor
  · rintro ⟨x, hx, h⟩
    rw [Bool.and_eq_true, same_iff] at h
    exact ⟨x, hx, h.2, h.1⟩
  · rintro ⟨x, hx, h1, h2⟩
    exact ⟨x, hx, by rw [Bool.and_eq_true, same_iff]; exact ⟨h2, h1⟩⟩
theorem thF_tabL {l : List En} (hl : l.length ≤ 4096) (m : Mk) : thereB (tabL l) m = thF l m := by
  rw [Bool.eq_iff_iff, tabL_there hl, thF_iff]
theorem thF_take {l : List En} {m : Mk} {k : Nat} {y : En} (h : l[k]? = some y) : thF (l.take (k + 1)) m = (thF (l.take k) m || (sameB y.mark m && fineB y)) := by
  unfold thF
  rw [List.take_add_one, h, List.any_append]
  simp
theorem ens_mark {w : World} {l : List En} {b off : Nat} (hd : ∀ i, i < l.length * 4 → w.cell? ⟨b, off + i, none⟩ = (l.flatMap enL)[i]?) {k : Nat} {x : En} (h : l[k]? = some x) : w.rangeAt b (off + k * 4) (mkRow x.mark) := fun r v hv => by
  have hr : r < 3 := (List.getElem?_eq_some_iff.1 hv).1
  refine ens_range hd h r v ?_
  obtain rfl | rfl | rfl : r = 0 ∨ r = 1 ∨ r = 2 := by omega
  all_goals exact hv
theorem row_cell {w wr : World} (he : Ext w wr) {b off n : Nat} {xs : List Value} (hn : xs.length = n) (hd : ∀ i, i < n → w.cell? ⟨b, off + i, none⟩ = xs[i]?) : ∀ i, i < n → wr.cell? ⟨b, off + i, none⟩ = xs[i]? := fun i hi => by
  have h := hd i hi
  rw [List.getElem?_eq_getElem (by omega)] at h ⊢
  exact he.cell h
/-- How tall. -/
def High (v : Value) : Prop := ∃ t : Nat, v = .int .i64 (t : Int) ∧ 1 ≤ t ∧ t ≤ 8
set_option maxRecDepth 100000 in
set_option maxHeartbeats 2000000 in
theorem putl_any (w : World) (l : List En) (a : Option Addr) (cap : Nat) (hg : ∀ x ∈ l, x.small) (hl : l.length ≤ 4096) (h1 : RowIs w 4 (.slice a l.length cap) l.length (l.flatMap enL))
    (tl : List Nat) (ta : Option Addr) (tcap : Nat) (ht : ∀ c ∈ tl, c < 256) (h2 : RowIs w 1 (.slice ta tl.length tcap) tl.length (tl.flatMap fun (c : Nat) => [Value.int .u8 (c : Int)])) :
    Calls Try.prog 17 #[.slice a l.length cap, .slice ta tl.length tcap] w fun e w' => e = .returned (.pointer (some ⟨w.heap.size + 1, 0, none⟩)) ∧ TabX w w' (w.heap.size + 1) (tabL l) := by
  have h1' := Lib.hid h1
  have h2' := Lib.hid h2
  have hg' := Lib.hid hg
  have ht' := Lib.hid ht
  have htn := h2.2.1
  clear h1 h2 hg ht
  have hnew := tx_new w
  obtain ⟨tb, htb⟩ : ∃ tb, tb = w.heap.size + 1 := ⟨_, rfl⟩
  rw [← htb] at hnew ⊢
  clear htb
  go_enter Try.func17, Try.ntmps17
  go_wp2_with fail
  refine hnew.mono ?_
  clear hnew
  rintro e w0 ⟨rfl, hT⟩
  go_wp2_with fail
  go_loopw [6] (fun i wr => ∃ k : Nat, k ≤ l.length ∧ i = .int .i64 k ∧ TabX w wr tb (tabL (l.take k))) (fun i _ => l.length - (intOf i).toNat)
  case atStart => exact ⟨0, by omega, rfl, hT⟩
  case round =>
    clear hT
    obtain ⟨k, hk, rfl, hT⟩ := hrel
    by_cases hlt : k < l.length
    · have hli : (k : Int) < (l.length : Int) := by omega
      obtain ⟨c, hc⟩ : ∃ c, l[k]? = some c := ⟨_, List.getElem?_eq_getElem hlt⟩
      have hcs := hg'.out c (List.mem_of_getElem? hc)
      have hcc := Lib.hid hc
      clear hc
      obtain ⟨b, off, hat⟩ := h1'.out.at
      obtain ⟨rfl, _, hd⟩ := hat (by omega)
      have hd' := Lib.hid hd
      clear hat hd
      have hTE := hT.1
      go_upto_if 20 with fail
      go_cut [7] from 18 to 30 (fun n wx => High n ∧ wx = wr)
      case first =>
        clear hT
        by_cases htl : 0 < tl.length
        · have htli : (0 : Int) < (tl.length : Int) := by omega
          obtain ⟨d, hdd⟩ : ∃ d, tl[k % tl.length]? = some d := ⟨_, List.getElem?_eq_getElem (Nat.mod_lt _ htl)⟩
          have hd256 := ht'.out d (List.mem_of_getElem? hdd)
          obtain ⟨b2, off2, hat2⟩ := (h2'.out.ext hTE).at
          obtain ⟨rfl, _, he2⟩ := hat2 htl
          have hml := Nat.mod_lt k htl
          have e3 := he2 (k % tl.length) (by omega)
          rw [u8row_at tl _ d hdd] at e3
          have em0 : 0 ≤ (k : Int) % (tl.length : Int) := by omega
          have em1 : (k : Int) % (tl.length : Int) < (tl.length : Int) := by omega
          have emt : ((k : Int) % (tl.length : Int)).toNat = k % tl.length := by omega
          clear hat2 he2
          have hdd' := Lib.hid hdd
          clear hdd
          go_wp2_with fail
          go_meet
          refine ⟨⟨1 + d % 8, ?_, by omega, by omega⟩, rfl⟩
          go_num
        · have htli : ¬ (0 : Int) < (tl.length : Int) := by omega
          go_wp2_with fail
          go_meet
          exact ⟨⟨1, rfl, by omega, by omega⟩, rfl⟩
      case rest =>
      obtain ⟨⟨t, rfl, ht1, ht8⟩, rfl⟩ := hcut
      go_wp2_with fail
      go_loopw [8, 9] (fun th q wr2 => ∃ j : Nat, j ≤ k ∧ q = .int .i64 j ∧ th = .bool (thF (l.take j) c.mark) ∧ Ext wc wr2) (fun _ q _ => k - (intOf q).toNat)
      case atStart => exact ⟨0, by omega, rfl, rfl, Ext.refl _⟩
      case round =>
        obtain ⟨j, hj, rfl, rfl, hE⟩ := hrel
        by_cases hjk : j < k
        · have hji : (j : Int) < (k : Int) := by omega
          have hjl : (j : Int) < (l.length : Int) := by omega
          obtain ⟨y, hy⟩ : ∃ y, l[j]? = some y := ⟨_, List.getElem?_eq_getElem (by omega)⟩
          have hys := hg'.out y (List.mem_of_getElem? hy)
          have hEw := hTE.trans hE
          have hdr : ∀ i, i < l.length * 4 → wr.cell? ⟨b, off + i, none⟩ = (l.flatMap enL)[i]? := fun i hi => row_cell hEw h1'.out.1 hd'.out i hi
          have py := ens_mark hdr hy
          have pe := ens_range hdr hy
          have pc := ens_mark hdr hcc.out
          have hth := thF_take (m := c.mark) hy
          have hth' := Lib.hid hth
          have hyy := Lib.hid hy
          clear hdr hth hy
          go_upto_region 12 with fail
          cases hB : thF (l.take j) c.mark
          · refine wp_region_class (Ext wr) (by kernel_rfl) (by kernel_rfl) (Ext.refl _).drew ?_
            iterate 6 (refine wpQuiet_step (fun K hK => ?_); go_simp; first | (refine hK _ ?_; clear hK K) | (refine ⟨_, fun _ _ => rfl, hK _ ?_⟩; clear hK K))
            refine wpQuiet_load_mid (by rfl) 24 _ (by rfl) b (off + j * 4) (by rfl) _ _ (fun w' h r v hv => h.cell (py r v hv)) Try.underlying24 rfl (by exact info_mark) ?_
            iterate 4 (refine wpQuiet_step (fun K hK => ?_); go_simp; first | (refine hK _ ?_; clear hK K) | (refine ⟨_, fun _ _ => rfl, hK _ ?_⟩; clear hK K))
            refine wpQuiet_load_mid (by rfl) 24 _ (by rfl) b (off + k * 4) (by rfl) _ _ (fun w' h r v hv => h.cell (pc r v hv)) Try.underlying24 rfl (by exact info_mark) ?_
            refine wpQuiet_eql_mark (by rfl) (.tmp 42) (.tmp 47) (by rfl) y.mark c.mark (by rfl) (by rfl) ?_
            simp only [Act.put, List.setIfInBounds_toArray, List.set_cons_zero, List.set_cons_succ]
            cases hS : sameB y.mark c.mark
            · iterate 9 (refine wpQuiet_step (fun K hK => ?_); go_simp; first | (refine hK _ ?_; clear hK K) | (refine ⟨_, fun _ _ => rfl, hK _ ?_⟩; clear hK K))
              refine wpQuiet_nil (fun w4 hE4 => ?_)
              have hB' := Lib.hid hB
              have hS' := Lib.hid hS
              clear hB hS
              go_wp2_with fail
              go_roundw
              case rel => exact ⟨j + 1, by omega, by go_num, by rw [hth'.out, hB'.out, hS'.out]; rfl, hE.trans hE4⟩
              case measure => simp [intOf]; omega
            · iterate 4 (refine wpQuiet_step (fun K hK => ?_); go_simp; first | (refine hK _ ?_; clear hK K) | (refine ⟨_, fun _ _ => rfl, hK _ ?_⟩; clear hK K))
              refine wpQuiet_load_mid (by rfl) 26 _ (by rfl) b (off + j * 4) (by rfl) _ _ (fun w' h r v hv => h.cell (pe r v hv)) Try.underlying26 rfl (by exact info_entry) ?_
              refine wpQuiet_step (fun K hK => ?_); go_simp
              refine ⟨_, fun w' hw => calls_ext hw (fine_any w' y hys), hK _ ?_⟩; clear hK K
              iterate 3 (refine wpQuiet_step (fun K hK => ?_); go_simp; first | (refine hK _ ?_; clear hK K) | (refine ⟨_, fun _ _ => rfl, hK _ ?_⟩; clear hK K))
              refine wpQuiet_nil (fun w4 hE4 => ?_)
              have hB' := Lib.hid hB
              have hS' := Lib.hid hS
              clear hB hS
              go_wp2_with fail
              go_roundw
              case rel => exact ⟨j + 1, by omega, by go_num, by rw [hth'.out, hB'.out, hS'.out]; simp, hE.trans hE4⟩
              case measure => simp [intOf]; omega
          · go_quiet (fail)
            have hB' := Lib.hid hB
            clear hB
            go_wp2_with fail
            go_roundw
            case rel => exact ⟨j + 1, by omega, by go_num, by rw [hth'.out, hB'.out]; rfl, hE.trans (ext_draws (Ext.refl _) _)⟩
            case measure => simp [intOf]; omega
        · obtain rfl : j = k := by omega
          have hji : ¬ (j : Int) < (j : Int) := by omega
          have hT2 := hT.ext hE
          have hdr : ∀ i, i < l.length * 4 → wr.cell? ⟨b, off + i, none⟩ = (l.flatMap enL)[i]? := fun i hi => row_cell (hTE.trans hE) h1'.out.1 hd'.out i hi
          have pe := ens_range hdr hcc.out
          have hpe0 : ∀ w', Ext w w' → w'.rangeAt b (off + j * 4) (enRow c).toList := fun w' he => ens_range (fun i hi => row_cell he h1'.out.1 hd'.out i hi) hcc.out
          have hpe := Lib.hid hpe0
          have hlen : (tabL (l.take j)).length ≤ 4096 := by have := tabL_length (l.take j); rw [List.length_take] at this; omega
          have hlen2 : ¬ 4096 ≤ (tabL (l.take j)).length := by have := tabL_length (l.take j); rw [List.length_take] at this; omega
          have hth2 := thF_tabL (l := l.take j) (by rw [List.length_take]; omega) c.mark
          have hpl : putL (tabL (l.take j)) c (t : Int) = tabL (l.take (j + 1)) := by rw [putL_tall ht1 ht8, tabL_take hcc.out]
          have hput0 : TabX w wr tb (tabL (l.take j)) → Calls Try.prog 11 #[.pointer (some ⟨tb, 0, none⟩), .agg (enRow c), .int .i64 (t : Int)] wr fun e w' => e = .returned (.int .i64 (if fineB c then if thF (l.take j) c.mark then 8 else 0 else 1)) ∧ TabX w w' tb (tabL (l.take (j + 1))) := fun h => by
            have := tx_put h c (t : Int) hlen hcs
            rw [hpl] at this
            unfold putC at this
            rw [okB_fine ht1 ht8, hth2, if_neg hlen2] at this
            exact this
          have hfin0 : ∀ w', Calls Try.prog 18 #[.agg (enRow c)] w' fun e w'' => e = .returned (.bool (fineB c)) ∧ Ext w' w'' := fun w' => fine_any w' c hcs
          have hT2' := hT2
          clear hpe0 hdr hlen hlen2 hth2 hpl hT hT2 hE hTE
          cases hf : fineB c
          · rw [hf] at hput0 hfin0
            have hput := Lib.hid hput0
            have hfin := Lib.hid hfin0
            clear hput0 hfin0 hf
            generalize thF (l.take j) c.mark = tb2 at *
            go_wp2_with (first | (refine wpList_load_mid (by rfl) 26 (.tmp 60) (by rfl) b (off + j * 4) (by rfl) (enRow c).toList _ pe Try.underlying26 rfl (by exact info_entry) ?_) | fail)
            refine (hput.out hT2').mono ?_
            rintro e w3 ⟨rfl, hT3⟩
            have p3 := hpe.out w3 hT3.1
            go_wp2_with (first | (refine wpList_load_mid (by rfl) 26 (.tmp 66) (by rfl) b (off + j * 4) (by rfl) (enRow c).toList _ p3 Try.underlying26 rfl (by exact info_entry) ?_) | fail)
            refine (hfin.out w3).mono ?_
            rintro e w4 ⟨rfl, hE4⟩
            have hT4 := hT3.ext hE4
            have p4 := hpe.out w4 hT4.1
            go_wp2_with (first | (refine wpList_load_mid_on (by rfl) 26 (.tmp 78) (by rfl) b (off + j * 4) (by rfl) (enRow c).toList _ p4 Try.underlying26 rfl (by exact info_entry) ?_) | fail)
            refine (hfin.out w4).mono ?_
            rintro e w5 ⟨rfl, hE5⟩
            have hT5 := hT4.ext hE5
            have p5 := hpe.out w5 hT5.1
            go_wp2_with (first | (refine wpList_load_mid_on (by rfl) 26 (.tmp 93) (by rfl) b (off + j * 4) (by rfl) (enRow c).toList _ p5 Try.underlying26 rfl (by exact info_entry) ?_) | fail)
            refine (hfin.out w5).mono ?_
            rintro e w6 ⟨rfl, hE6⟩
            have hT6 := hT5.ext hE6
            have p6 := hpe.out w6 hT6.1
            go_wp2_with fail
            go_roundw
            case rel => exact ⟨j + 1, by omega, by go_num, hT6⟩
            case measure => simp [intOf]; omega
          · rw [hf] at hput0 hfin0
            have hfin := Lib.hid hfin0
            cases hB : thF (l.take j) c.mark
            all_goals
              rw [hB] at hput0
              have hput := Lib.hid hput0
              clear hput0 hfin0 hf hB
              go_wp2_with (first | (refine wpList_load_mid (by rfl) 26 (.tmp 60) (by rfl) b (off + j * 4) (by rfl) (enRow c).toList _ pe Try.underlying26 rfl (by exact info_entry) ?_) | fail)
              refine (hput.out hT2').mono ?_
              rintro e w3 ⟨rfl, hT3⟩
              have p3 := hpe.out w3 hT3.1
              go_wp2_with (first | (refine wpList_load_mid (by rfl) 26 (.tmp 66) (by rfl) b (off + j * 4) (by rfl) (enRow c).toList _ p3 Try.underlying26 rfl (by exact info_entry) ?_) | fail)
              refine (hfin.out w3).mono ?_
              rintro e w4 ⟨rfl, hE4⟩
              have hT4 := hT3.ext hE4
              have p4 := hpe.out w4 hT4.1
              go_wp2_with (first | (refine wpList_load_mid_on (by rfl) 26 (.tmp 78) (by rfl) b (off + j * 4) (by rfl) (enRow c).toList _ p4 Try.underlying26 rfl (by exact info_entry) ?_) | fail)
              refine (hfin.out w4).mono ?_
              rintro e w5 ⟨rfl, hE5⟩
              have hT5 := hT4.ext hE5
              have p5 := hpe.out w5 hT5.1
              go_wp2_with (first | (refine wpList_load_mid_on (by rfl) 26 (.tmp 93) (by rfl) b (off + j * 4) (by rfl) (enRow c).toList _ p5 Try.underlying26 rfl (by exact info_entry) ?_) | fail)
              refine (hfin.out w5).mono ?_
              rintro e w6 ⟨rfl, hE6⟩
              have hT6 := hT5.ext hE6
              have p6 := hpe.out w6 hT6.1
              go_wp2_with fail
              go_roundw
              case rel => exact ⟨j + 1, by omega, by go_num, hT6⟩
              case measure => simp [intOf]; omega
    · have hli : ¬ (k : Int) < (l.length : Int) := by omega
      have hkl : l.take k = l := List.take_of_length_le (by omega)
      rw [hkl] at hT
      clear hkl
      go_wp2_with fail
      go_ret
      exact ⟨rfl, hT⟩
end Go.Proofs.Ythhmehkclgmppaa
