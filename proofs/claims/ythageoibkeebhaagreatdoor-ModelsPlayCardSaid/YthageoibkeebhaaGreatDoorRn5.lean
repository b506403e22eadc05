/- The document's Make, of any rows and any that were said. No condition. -/
import Derived.Test.YthageoibkeebhaaGreatDoorGrP
namespace Go.Proofs.YthageoibkeebhaaGreatDoor
open Go.RowKit
set_option maxRecDepth 100000
set_option maxHeartbeats 4000000
theorem mkrR_any (w : World) (l : List Rw) (la : Option Addr) (lc : Nat) (hlr : RowIs w 2 (.slice la l.length lc) l.length (l.flatMap rwL)) (hl : l.length ≤ 50000) (hsm : ∀ r ∈ l, r.key.size ≤ 140737488351232 ∧ r.val.size ≤ 140737488351232)
    (q : List Sa) (qa : Option Addr) (qc : Nat) (hqr : RowIs w 5 (.slice qa q.length qc) q.length (q.flatMap Sa.cells)) (hq : q.length ≤ 50000) (hqv : SaAt w q) (hqn : ∀ p ∈ q, p.rows.length ≤ 1000000) :
    Calls Tryz.prog 10 #[.slice la l.length lc, .slice qa q.length qc] w (RMkE l q w) := by
  obtain ⟨n, hn0⟩ : ∃ n, n = l.length := ⟨_, rfl⟩
  obtain ⟨m, hm0⟩ : ∃ m, m = q.length := ⟨_, rfl⟩
  rw [← hn0] at hlr hl ⊢
  rw [← hm0] at hqr hq ⊢
  have hn := Lib.hid hn0
  have hm := Lib.hid hm0
  have hlr' := Lib.hid hlr
  have hqr' := Lib.hid hqr
  have hsm' := Lib.hid hsm
  have hqv' := Lib.hid hqv
  have hqn' := Lib.hid hqn
  clear hn0 hm0 hlr hqr hsm hqv hqn
  go_enter Tryz.func10, Tryz.ntmps10
  go_wp2_with fail
  refine (newR_any w).mono ?_
  rintro e w1 ⟨rfl, hM1, hE1⟩
  obtain ⟨st, hst⟩ : ∃ st, Hid (st = w.heap.size) := ⟨_, Lib.hid rfl⟩
  rw [← hst.out] at hM1 ⊢
  go_wp2_with fail
  go_loopw [7] (fun i wr => ∃ (k : Nat) (acc : List Rw), k ≤ n ∧ i = .int .i64 k ∧ Hid (mkR [] l = mkR acc (l.drop k)) ∧ RefM w.heap.size wr st acc [] ∧ Hid (acc.length ≤ k ∧ ∀ r ∈ acc, r.key.size ≤ 140737488351232) ∧ Ext w wr) (fun i _ => n - (intOf i).toNat)
  case atStart => exact ⟨0, [], by omega, rfl, Lib.hid rfl, by rw [hst.out] at hM1 ⊢; exact hM1, Lib.hid ⟨Nat.le_refl _, fun _ h => nomatch h⟩, hE1⟩
  case round =>
    clear hM1 hE1
    obtain ⟨k, acc, hk, rfl, hmk, hM, hacc, hE⟩ := hrel
    by_cases hlt : k < n
    · have hli : (k : Int) < (n : Int) := by omega
      obtain ⟨y, hy⟩ : ∃ y, l[k]? = some y := ⟨_, List.getElem?_eq_getElem (by rw [← hn.out]; exact hlt)⟩
      obtain ⟨ob, oo, hat⟩ := hlr'.out.at
      obtain ⟨rfl, _, hdy⟩ := hat (by omega)
      have hrg := rws_range (by rw [← hn.out]; exact hdy) hy
      have p0 := hrg 0 _ rfl
      have p1 := hrg 1 _ rfl
      rw [Nat.add_zero] at p0
      have hcc : Hid (∀ W, Ext w W → W.cell? ⟨ob, oo + k * 2, none⟩ = some (.string y.key) ∧ W.cell? ⟨ob, oo + k * 2 + 1, none⟩ = some (.string y.val)) := Lib.hid (fun W hE4 => ⟨hE4.cell p0, hE4.cell p1⟩)
      clear p0 p1
      obtain ⟨p0, p1⟩ := hcc.out wr hE
      obtain ⟨hks, hvs⟩ := hsm'.out y (List.mem_of_getElem? hy)
      have hdr : Hid (mkR [] l = if keyB y.key = true ∧ valB y.val = true ∧ findW acc y.key = none then mkR (chR acc ⟨y.key, y.val, false⟩) (l.drop (k + 1)) else none) := Lib.hid (by
        obtain ⟨hlt2, he⟩ := List.getElem?_eq_some_iff.1 hy
        rw [hmk.out, List.drop_eq_getElem_cons hlt2, he]
        rfl)
      clear hat hdy hy hrg
      go_wp2_with fail
      refine (getR_any hM y.key).mono ?_
      rintro e w2 ⟨rfl, hE2⟩
      obtain ⟨b8, hb8⟩ : ∃ b, Hid (b = w2.heap.size) := ⟨_, Lib.hid rfl⟩
      obtain ⟨W3, hW3⟩ : ∃ W, Hid (W = w2.alloc (.cells (rowR ((findW acc y.key).getD zRw)) 84)) := ⟨_, Lib.hid rfl⟩
      have hE3 : Ext wr W3 := by rw [hW3.out]; exact hE2.alloc _
      obtain ⟨is, his⟩ : ∃ b, Hid (b = (findW acc y.key).isSome) := ⟨_, Lib.hid rfl⟩
      rw [← his.out]
      obtain ⟨Z, hZ⟩ : ∃ Z, Hid (Z = (findW acc y.key).getD zRw) := ⟨_, Lib.hid rfl⟩
      rw [← hZ.out] at hW3 ⊢
      go_upto_region 6 with (first | (refine wpList_store_whole (by rfl) 84 (.tmp 8) (.tmp 28) (by rfl) w2 _ (rowR Z) w2.heap.size (by rfl) rfl (by rfl) (by exact info_row) (by rfl) (rowR_one _) ?_; rw [← hW3.out]) | fail)
      have p0 := hE3.cell p0
      have p1 := hE3.cell p1
      have hM3 := hM.ext hE3
      have hXw := hE.trans hE3
      clear hM hE3 hE2
      go_wp2_with fail
      refine (keyR_any W3 y.key hks).mono ?_
      rintro e w' ⟨rfl, rfl⟩
      cases hkb : keyB y.key
      · have hno : Hid (mkR [] l = none) := Lib.hid (by rw [hdr.out, if_neg (by rw [hkb]; simp)])
        clear hkb
        go_wp2_with fail
        go_ret2
        exact rmk_no hXw hno.out
      · have hkb' := Lib.hid hkb
        clear hkb
        go_wp2_with fail
        refine (valR_any W3 y.val hvs).mono ?_
        rintro e w' ⟨rfl, rfl⟩
        cases hvb : valB y.val
        · have hno : Hid (mkR [] l = none) := Lib.hid (by rw [hdr.out, if_neg (by rw [hvb]; simp)])
          clear hvb
          go_wp2_with fail
          go_ret2
          exact rmk_no hXw hno.out
        · have hvb' := Lib.hid hvb
          clear hvb
          cases is
          · have hfn : Hid (findW acc y.key = none) := Lib.hid (by
              have h5 := his.out
              cases hf : findW acc y.key with
              | none => rfl
              | some p => rw [hf] at h5; cases h5)
            have hnx : Hid (mkR [] l = mkR (chR acc ⟨y.key, y.val, false⟩) (l.drop (k + 1))) := Lib.hid (by rw [hdr.out, if_pos ⟨hkb'.out, hvb'.out, hfn.out⟩])
            have hcall := Lib.hid (fun W (hE4 : Ext W3 W) => chgR_any (hM3.ext hE4) (fun r hr => hacc.out.2 r hr) (by have := hacc.out.1; omega) ⟨y.key, y.val, false⟩ hks)
            have hk1 : Hid ((chR acc ⟨y.key, y.val, false⟩).length ≤ k + 1 ∧ ∀ r ∈ chR acc ⟨y.key, y.val, false⟩, r.key.size ≤ 140737488351232) := Lib.hid ⟨by have h1 := chR_len acc ⟨y.key, y.val, false⟩; have h2 := hacc.out.1; omega, fun r hr => by
              rcases chR_mem hr with h | h
              · exact hacc.out.2 r h
              · rw [h]; exact hks⟩
            clear p0 p1
            go_upto_region 8 with fail
            go_region_held3 (fun w' => w'.cell? ⟨ob, oo + k * 2, none⟩ = some (.string y.key) ∧ w'.cell? ⟨ob, oo + k * 2 + 1, none⟩ = some (.string y.val)) (first | exact hcc.out _ hXw.drew | exact hcc.out _ hX5) (first | (go_at_call 47; refine (hcall.out _ (Ext.refl W3).drew).mono ?_; rintro e w5 ⟨rfl, hb5, _, hM5⟩; have hX5 : Ext w w5 := Below.trans hXw.drew hb5; have hM5' := Lib.hid hM5; clear hM5 hb5) | fail)
            all_goals
              go_wp2_with fail
              go_roundw
              case rel => exact ⟨k + 1, chR acc ⟨y.key, y.val, false⟩, by omega, by go_num, hnx, hM5'.out, hk1, hX5⟩
              case measure => simp [intOf]; omega
          · have hno : Hid (mkR [] l = none) := Lib.hid (by
              have h5 := his.out
              rw [hdr.out, if_neg (fun h => by rw [h.2.2] at h5; cases h5)])
            go_wp2_with fail
            go_ret2
            exact rmk_no hXw hno.out
    · have hli : ¬ (k : Int) < (n : Int) := by omega
      have hall : Hid (mkR [] l = some acc) := Lib.hid (by rw [hmk.out, List.drop_of_length_le (by rw [← hn.out]; omega)]; rfl)
      have hXw := hE
      clear hlr' hsm' hmk hacc hn
      go_wp2_with fail
      go_loopw [10] (fun i wr => ∃ (j : Nat) (sd : List Sa), j ≤ m ∧ i = .int .i64 j ∧ Hid (mkS [] [] q = mkS (q.take j) (sd.map Sa.bare) (q.drop j)) ∧ RefM w.heap.size wr st acc sd ∧ Hid (sd.length ≤ j) ∧ Ext w wr) (fun i _ => m - (intOf i).toNat)
      case atStart => exact ⟨0, [], by omega, rfl, Lib.hid rfl, hM, Lib.hid (Nat.le_refl _), hE⟩
      case round =>
        clear hM hE hXw
        obtain ⟨j, sd, hj, rfl, hmk, hM, hsl, hE⟩ := hrel
        by_cases hlt : j < m
        · have hji : (j : Int) < (m : Int) := by omega
          obtain ⟨y, hy⟩ : ∃ y, q[j]? = some y := ⟨_, List.getElem?_eq_getElem (by rw [← hm.out]; exact hlt)⟩
          obtain ⟨ob, oo, hat⟩ := hqr'.out.at
          obtain ⟨rfl, _, hdy⟩ := hat (by omega)
          have hcl : Hid (∀ (t : Nat) (z : Sa), q[t]? = some z → ∀ W, Ext w W → W.cell? ⟨ob, oo + t * 5, none⟩ = some (.int .u8 (z.cl : Int))) := Lib.hid (fun t z hz W hW => by
            have p := sas_range (by rw [← hm.out]; exact hdy) hz 0 (.int .u8 (z.cl : Int)) rfl
            exact hW.cell p)
          have hrg := sas_range (by rw [← hm.out]; exact hdy) hy
          obtain ⟨va, vc, hv, hyr0⟩ := hqv'.out y (List.mem_of_getElem? hy)
          have hyr := Lib.hid hyr0
          rw [sa_cells hv] at hrg
          have hrg : wr.rangeAt ob (oo + j * 5) (saRow y va y.rows.length vc).toList := fun r v hv => hE.cell (hrg r v hv)
          have hyn := hqn'.out y (List.mem_of_getElem? hy)
          have hmk2 : Hid (mkS [] [] q = if goodS (q.take j) y then mkS (q.take (j + 1)) (keepS (sd.map Sa.bare) y.bare) (q.drop (j + 1)) else none) := Lib.hid (by
            obtain ⟨hlt2, he⟩ := List.getElem?_eq_some_iff.1 hy
            have htk : q.take (j + 1) = q.take j ++ [y] := by rw [List.take_add_one, hy]; rfl
            rw [hmk.out, List.drop_eq_getElem_cons hlt2, he, htk]
            rfl)
          obtain ⟨g, hg⟩ : ∃ g, g = wr.heap.size := ⟨_, rfl⟩
          obtain ⟨W5, hW5⟩ : ∃ W, W = wr.alloc (.cells (saRow y va y.rows.length vc) 87) := ⟨_, rfl⟩
          have hr5 : W5.heap[g]? = some (.cells (saRow y va y.rows.length vc) 87 (0, 0)) := by rw [hW5, hg]; exact heap_alloc_new wr _
          have hE5 : Ext wr W5 := by rw [hW5]; exact (Ext.refl _).alloc _
          have hsz := hE.size
          have hW5' := Lib.hid hW5
          have hr5' := Lib.hid hr5
          have hg' := Lib.hid hg
          have hM' := Lib.hid hM
          clear hat hdy hy hv hW5 hr5 hg hmk hM hyr0
          go_upto_region 13 with (first | (refine wpList_load_mid (by rfl) 87 (.tmp 70) (by rfl) ob (oo + j * 5) (by rfl) (saRow y va y.rows.length vc).toList _ hrg Tryz.underlying87 rfl (by exact info_said) ?_) | (refine wpList_store_whole (by rfl) 87 (.tmp 11) (.tmp 71) (by rfl) wr _ (saRow y va y.rows.length vc) wr.heap.size (by rfl) rfl (by rfl) (by exact info_said) (by rfl) (saRow_one _ _ _ _) ?_; rw [← hW5'.out, ← hg'.out]) | fail)
          clear hrg
          obtain ⟨wo, hwo⟩ : ∃ wo : World, wo = wr := ⟨_, rfl⟩
          rw [← hwo] at hg' hE hE5 hsz hW5' hM'
          clear hwo
          go_wp2_with fail
          go_loopw [12] (fun i wi => ∃ t : Nat, t ≤ j ∧ i = .int .i64 t ∧ Hid (∀ p ∈ q.take t, p.cl ≠ y.cl) ∧ Ext W5 wi) (fun i _ => j - (intOf i).toNat)
          case atStart => exact ⟨0, by omega, rfl, Lib.hid (fun _ h => nomatch h), Ext.refl _⟩
          case round =>
            obtain ⟨t, ht, rfl, hno, hEi⟩ := hrel
            have hr6 := Lib.hid (hEi.row hr5'.out)
            have hX6 := (hE.trans hE5).trans hEi
            by_cases htj : t < j
            · have hti : (t : Int) < (j : Int) := by omega
              have htm : (t : Int) < (m : Int) := by omega
              obtain ⟨z, hz⟩ : ∃ z, q[t]? = some z := ⟨_, List.getElem?_eq_getElem (by rw [← hm.out]; omega)⟩
              have c1 := hcl.out t z hz wr hX6
              have c2 := (sa_cs hr6.out).1
              have hz' := Lib.hid hz
              clear hz
              go_upto_region 16 with fail
              go_still (by kernel_rfl)
              have hX7 := Lib.hid hX6.drew
              have hE7 := Lib.hid hEi.drew
              clear c1 c2 hEi hX6 hr6
              by_cases hzc : z.cl = y.cl
              · have hzi : (z.cl : Int) = (y.cl : Int) := by omega
                have hng : Hid (mkS [] [] q = none) := Lib.hid (by
                  rw [hmk2.out, if_neg (fun h => ?_)]
                  refine h.2.2.2 z (List.mem_iff_getElem?.2 ⟨t, ?_⟩) hzc
                  rw [List.getElem?_take, if_pos htj]; exact hz'.out)
                go_wp2_with fail
                go_ret2
                exact rmk_no2 hX7.out hall.out hng.out
              · have hzi : ¬ (z.cl : Int) = (y.cl : Int) := by omega
                have hno2 : Hid (∀ p ∈ q.take (t + 1), p.cl ≠ y.cl) := Lib.hid (fun p hp => by
                  rw [List.take_add_one, hz'.out] at hp
                  rcases List.mem_append.1 hp with hp | hp
                  · exact hno.out p hp
                  · rw [List.mem_singleton.1 hp]; exact hzc)
                go_wp2_with fail
                go_roundw
                case rel => exact ⟨t + 1, by omega, by go_num, hno2, hE7.out⟩
                case measure => simp [intOf]; omega
            · have hti : ¬ (t : Int) < (j : Int) := by omega
              have hno2 : Hid (∀ p ∈ q.take j, p.cl ≠ y.cl) := Lib.hid (by rw [show j = t by omega]; exact hno.out)
              obtain ⟨c0, c1, c2, c3, c4⟩ := sa_cs hr6.out
              have hX6' := Lib.hid hX6
              have hEi' := Lib.hid hEi
              clear hno hX6 hEi
              by_cases i1 : y.cl < 1
              · have hi1 : (y.cl : Int) < 1 := by omega
                have hng : Hid (mkS [] [] q = none) := Lib.hid (by rw [hmk2.out, if_neg (fun h => by have := h.1; omega)])
                go_wp2_with fail
                go_ret2
                exact rmk_no2 hX6'.out hall.out hng.out
              · have hi1 : ¬ (y.cl : Int) < 1 := by omega
                by_cases i2 : 8 < y.cl
                · have hi2 : (8 : Int) < (y.cl : Int) := by omega
                  have hng : Hid (mkS [] [] q = none) := Lib.hid (by rw [hmk2.out, if_neg (fun h => by have := h.2.1; omega)])
                  go_wp2_with fail
                  go_ret2
                  exact rmk_no2 hX6'.out hall.out hng.out
                · have hi2 : ¬ (8 : Int) < (y.cl : Int) := by omega
                  by_cases i3 : y.num = 0
                  · have hi3 : (y.num : Int) = 0 := by omega
                    have hng : Hid (mkS [] [] q = none) := Lib.hid (by rw [hmk2.out, if_neg (fun h => h.2.2.1 i3)])
                    go_wp2_with fail
                    go_ret2
                    exact rmk_no2 hX6'.out hall.out hng.out
                  · have hi3 : ¬ (y.num : Int) = 0 := by omega
                    have hyes : Hid (mkS [] [] q = mkS (q.take (j + 1)) (keepS (sd.map Sa.bare) y.bare) (q.drop (j + 1))) := Lib.hid (by rw [hmk2.out, if_pos ⟨by omega, by omega, i3, hno2.out⟩])
                    go_upto_region 20 with fail
                    clear hi1 hi2 hi3 i1 i2 i3 c0 c1 c2 c3 c4
                    have hrr := sa_reply_range hr6.out
                    go_wp2_with (first | (refine wpList_load_mid (by rfl) 74 (.tmp 98) (by rfl) g 2 (by rfl) (reH y.e y.yes (.slice va y.rows.length vc)).toList _ hrr Tryz.underlying74 rfl (by exact info_reply) ?_) | fail)
                    refine (twinR_any wr y.e y.yes y.rows va vc (hyr.out.ext hX6'.out) hyn).mono ?_
                    rintro e w6 ⟨a2, c2, rfl, ho2, hE6⟩
                    have hr8 := hE6.row hr6.out
                    have hth := sa_there hr8
                    have hO7 : OffB (fun k => k = g) w6 (w6.setCells g 2 (reH y.e y.yes (.slice a2 y.rows.length c2)).toList) := OffB.setCells (B := fun k => k = g) (OffB.refl _) rfl _ _
                    have hr7 := sa_put hr8 a2 y.rows.length c2
                    have hgW : g < wr.heap.size := (Array.getElem?_eq_some_iff.1 hr6.out).1
                    have hgo : wo.heap.size ≤ g := by rw [hg'.out]; exact Nat.le_refl _
                    have hE7 : Ext wo (w6.setCells g 2 (reH y.e y.yes (.slice a2 y.rows.length c2)).toList) := ext_setCells ((hE5.trans hEi'.out).trans hE6) hgo _ _
                    have ho7 := Lib.hid ((ho2.offB hO7 (fun q hq hB => by have h5 := (ho2.lt q hq).1; have hB : q = g := hB; omega)).weak (show w.heap.size ≤ wr.heap.size from hX6'.out.size))
                    clear hrr hr8 ho2
                    go_upto_region 21 with (first | (refine wpList_store_mid (by rfl) 74 (.tmp 101) (.tmp 100) (by rfl) g 2 (reH y.e y.yes (.slice a2 y.rows.length c2)) (by rfl) (by rfl) hth (by exact info_reply) (reH_one _ _ _ _ _) ?_) | fail)
                    generalize w6.setCells g 2 (reH y.e y.yes (.slice a2 y.rows.length c2)).toList = W7 at *
                    have hrw := sa_whole hr7
                    have hM7 := hM'.out.ext hE7
                    have hX7 := hE.trans hE7
                    clear hth hO7
                    go_wp2_with (first | (refine wpList_load_mid (by rfl) 87 (.tmp 11) (by rfl) g 0 (by rfl) (saRow y a2 y.rows.length c2).toList _ hrw Tryz.underlying87 rfl (by exact info_said) ?_) | fail)
                    refine (keepR_any hM7 (by have := hsl.out; omega) ⟨y.cl, y.num, y.e, y.yes, y.rows, .slice a2 y.rows.length c2⟩ a2 y.rows.length c2 rfl ho7.out).mono ?_
                    rintro e w8 ⟨rfl, hb8, _, hM8⟩
                    have hX8 : Ext w w8 := Below.trans hX7 hb8
                    clear hrw
                    go_wp2_with fail
                    go_roundw
                    case rel => exact ⟨j + 1, _, by omega, by go_num, Lib.hid (by rw [hyes.out, keepS_bare]; rfl), hM8, Lib.hid (by have h1 := keepS_len sd ⟨y.cl, y.num, y.e, y.yes, y.rows, .slice a2 y.rows.length c2⟩; have h2 := hsl.out; omega), hX8⟩
                    case measure => simp [intOf]; omega
        · have hji : ¬ (j : Int) < (m : Int) := by omega
          have hfin : Hid (mkS [] [] q = some (sd.map Sa.bare)) := Lib.hid (by rw [hmk.out, List.drop_of_length_le (by rw [← hm.out]; omega)]; rfl)
          go_wp2_with fail
          go_ret2
          exact rmk_yes hE hall.out hfin.out ⟨sd, hM, rfl⟩
end Go.Proofs.YthageoibkeebhaaGreatDoor
