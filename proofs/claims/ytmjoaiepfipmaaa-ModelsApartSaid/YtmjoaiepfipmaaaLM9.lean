/- alive. (Printed by wip/tools/galm.py.) No condition. -/
import Derived.Test.YtmjoaiepfipmaaaLM8
import Derived.Test.YtmjoaiepfipmaaaLM7
import Derived.Test.YtmjoaiepfipmaaaOff
import Derived.Deep.CutRange
namespace Go.Proofs.Ytmjoaiepfipmaaa
open Go.RowKit
set_option maxRecDepth 100000
set_option maxHeartbeats 4000000
theorem rowsM_any {w0 w : World} {st mb : Nat} {m : Md} (hS : StM w0 w st mb m) (hg : smallR m.rows) (hrn : m.rows.length ≤ 50000) : Calls Try.prog 13 #[.pointer (some ⟨st, 0, none⟩)] w (RowsE m.rows w) := by
  obtain ⟨rs, hX, hr, _⟩ := hS
  rw [← hr] at hg hrn ⊢
  rw [List.length_map] at hrn
  exact st_rows hX (by omega) (fun p hp => by have := keyB_size (hg p.1 (List.mem_map_of_mem hp)).1; omega)
theorem chgM_any {w0 w : World} {st mb : Nat} {m : Md} (hS : StM w0 w st mb m) (x : Ak) (a : Option Addr) (cap : Nat) (h : ChsAt w x.chs a cap) (hs : x.small) (hok : x.okB = true) {v : Array Value} (hv : v = x.row (.slice a x.chs.length cap)) : Calls Try.prog 15 #[.pointer (some ⟨st, 0, none⟩), .agg v] w (ChgE (chgW m.rows x) w) := by
  obtain ⟨rs, hX, hr, _⟩ := hS
  subst hv
  have := st_changes hX x a cap h hs
  rw [chgL_eq rs x hok, hr] at this
  exact this
theorem alive_any (w : World) : Calls Try.prog 16 #[] w fun e w' => e = .returned (.bool true) ∧ Ext w w' := by
  go_enter Try.func16, Try.ntmps16
  go_wp2_with fail
  refine (st_newM w).mono ?_
  rintro e w0 ⟨st, mb, rfl, hS⟩
  go_wp2_with fail
  refine (put_mk _ ⟨#[97]⟩ ⟨#[120]⟩).mono ?_
  rintro e w1 ⟨rfl, hE⟩
  replace hS := hS.ext hE
  clear hE
  go_wp2_with fail
  refine (yes_b hS (fun r hr => by cases hr) (by decide) (chs_nil _) ⟨by decide, by decide, by decide, by decide, by decide, by decide, by decide⟩ a01 (b := true) rfl (ci := 1) (ni := 1) rfl rfl rfl).mono ?_
  clear hS
  rintro e w2 ⟨rfl, hS, hO⟩
  clear hO
  go_wp2_with fail
  refine (put_mk _ ⟨#[97]⟩ ⟨#[121]⟩).mono ?_
  rintro e w3 ⟨rfl, hE⟩
  replace hS := hS.ext hE
  clear hE
  go_wp2_with fail
  refine (do_b hS (one_small _ _ rfl rfl) (by decide) (chs_nil _) ⟨by decide, by decide, by decide, by decide, by decide, by decide, by decide⟩ a12 (ci := 1) (ni := 1) rfl rfl rfl).mono ?_
  have hlt := hS.lt
  clear hS
  rintro e w4 ⟨ra2, rc2, rfl, hr2, hr2p, hS, hO⟩
  clear hO
  have hr2o : ∀ (ad : Addr) (q c : Nat), Value.slice ra2 0 rc2 = .slice (some ad) q c → st ≠ ad.block ∧ mb ≠ ad.block := fun ad q c hv => by
    have := hr2p ad q c hv
    have h3 : ¬ ad.block < w3.heap.size := this
    omega
  clear hr2p hlt
  go_wp2_with fail
  have b2 := heap_alloc_new w4 (.cells #[.int .i64 0, .bool true, .slice ra2 0 rc2] 32)
  have hE := (Ext.refl w4).alloc (.cells #[.int .i64 0, .bool true, .slice ra2 0 rc2] 32)
  have g2lt := hS.lt
  replace hS := hS.ext hE
  replace hr2 := hr2.ext hE
  clear hE
  generalize hw : w4.alloc (.cells #[.int .i64 0, .bool true, .slice ra2 0 rc2] 32) = w5 at *
  clear hw
  generalize hg : w4.heap.size = g2 at *
  clear hg
  refine (get_mk _ ⟨#[97]⟩).mono ?_
  rintro e w6 ⟨rfl, hE⟩
  replace hS := hS.ext hE
  replace b2 := hE.row b2
  replace hr2 := hr2.ext hE
  clear hE
  go_wp2_with fail
  refine (do_b hS (one_small _ _ rfl rfl) (by decide) (chs_nil _) ⟨by decide, by decide, by decide, by decide, by decide, by decide, by decide⟩ a13 (ci := 1) (ni := 2) rfl rfl rfl).mono ?_
  have hlt := hS.lt
  clear hS
  rintro e w7 ⟨ra4, rc4, rfl, hr4, hr4p, hS, hO⟩
  replace b2 := hO.row b2 (by omega)
  replace hr2 := hr2.off (fun ad q k hv hB => by have := hr2o ad q k hv; have hB : ad.block = st ∨ ad.block = mb := hB; omega) hO
  clear hO
  have hr4o : ∀ (ad : Addr) (q c : Nat), Value.slice ra4 1 rc4 = .slice (some ad) q c → st ≠ ad.block ∧ mb ≠ ad.block := fun ad q c hv => by
    have := hr4p ad q c hv
    have h3 : ¬ ad.block < w6.heap.size := this
    omega
  clear hr4p hlt
  go_wp2_with fail
  have b4 := heap_alloc_new w7 (.cells #[.int .i64 0, .bool true, .slice ra4 1 rc4] 32)
  have hE := (Ext.refl w7).alloc (.cells #[.int .i64 0, .bool true, .slice ra4 1 rc4] 32)
  have g4lt := hS.lt
  replace hS := hS.ext hE
  replace b2 := hE.row b2
  replace hr2 := hr2.ext hE
  replace hr4 := hr4.ext hE
  clear hE
  generalize hw : w7.alloc (.cells #[.int .i64 0, .bool true, .slice ra4 1 rc4] 32) = w8 at *
  clear hw
  generalize hg : w7.heap.size = g4 at *
  clear hg
  refine (get_mk _ ⟨#[97]⟩).mono ?_
  rintro e w9 ⟨rfl, hE⟩
  replace hS := hS.ext hE
  replace b2 := hE.row b2
  replace b4 := hE.row b4
  replace hr2 := hr2.ext hE
  replace hr4 := hr4.ext hE
  clear hE
  go_wp2_with fail
  refine (do_b hS (one_small _ _ rfl rfl) (by decide) (chs_nil _) ⟨by decide, by decide, by decide, by decide, by decide, by decide, by decide⟩ a14 (ci := 1) (ni := 1) rfl rfl rfl).mono ?_
  have hlt := hS.lt
  clear hS
  rintro e w10 ⟨ra6, rc6, rfl, hr6, hr6p, hS, hO⟩
  replace b2 := hO.row b2 (by omega)
  replace b4 := hO.row b4 (by omega)
  replace hr2 := hr2.off (fun ad q k hv hB => by have := hr2o ad q k hv; have hB : ad.block = st ∨ ad.block = mb := hB; omega) hO
  replace hr4 := hr4.off (fun ad q k hv hB => by have := hr4o ad q k hv; have hB : ad.block = st ∨ ad.block = mb := hB; omega) hO
  clear hO hr6 hr6p hlt
  obtain ⟨x0, x1, x2⟩ := re_cells b2
  obtain ⟨y0, y1, y2⟩ := re_cells b4
  go_upto_region 7 with fail
  have b6 := heap_alloc_new w10 (.cells #[.int .i64 0, .bool false, .slice ra6 0 rc6] 32)
  have hE := (Ext.refl w10).alloc (.cells #[.int .i64 0, .bool false, .slice ra6 0 rc6] 32)
  have g6lt := hS.lt
  replace hS := hS.ext hE
  replace x0 := hE.cell x0
  replace x1 := hE.cell x1
  replace x2 := hE.cell x2
  replace y0 := hE.cell y0
  replace y1 := hE.cell y1
  replace y2 := hE.cell y2
  replace hr2 := hr2.ext hE
  replace hr4 := hr4.ext hE
  clear hE
  generalize hw : w10.alloc (.cells #[.int .i64 0, .bool false, .slice ra6 0 rc6] 32) = w11 at *
  clear hw
  generalize hg : w10.heap.size = g6 at *
  clear hg
  obtain ⟨z0, z1, z2⟩ := re_cells b6
  clear b2 b4
  have hr4' := Lib.hid hr4
  clear hr2 hr4 x2 hr2o hr4o b6
  have hL := World.ownsRow_lit (base := 0) (e := 62) (size := 2) w11 #[.string ⟨#[97]⟩, .string ⟨#[120]⟩] 1 (Nat.zero_le _) (by unfold maxLen; omega) rfl
  have hq := srows_any (w11.alloc (.cells #[.string ⟨#[97]⟩, .string ⟨#[120]⟩] 62)) [⟨⟨#[97]⟩, ⟨#[120]⟩⟩] [⟨⟨#[97]⟩, ⟨#[120]⟩⟩] ra4 _ rc4 1 (hr4'.out.ext ((Ext.refl w11).alloc _)) (RowIs.of_own hL)
  rw [decide_eq_true rfl] at hq
  have hq' := Lib.hid hq
  clear hq hL
  go_wp2_with fail
  refine hq'.out.mono ?_
  rintro e w12 ⟨rfl, hE⟩
  replace hE := ((Ext.refl w11).alloc (.cells #[.string ⟨#[97]⟩, .string ⟨#[120]⟩] 62)).trans hE
  replace hS := hS.ext hE
  replace z1 := hE.cell z1
  replace z2 := hE.cell z2
  clear hE hq' hr4' x0 x1 y0 y1 y2 z0
  go_wp2_with fail
  refine (cas_mk w12 ⟨#[97]⟩ ⟨#[120]⟩ ⟨#[122]⟩).mono ?_
  rintro e w13 ⟨rfl, hE⟩
  replace hS := hS.ext hE
  clear hE z1 z2
  go_wp2_with fail
  refine (yes_b hS (one_small _ _ rfl rfl) (by decide) (chs_nil _) ⟨by decide, by decide, by decide, by decide, by decide, by decide, by decide⟩ a15 (b := true) rfl (ci := 2) (ni := 5) rfl rfl rfl).mono ?_
  clear hS
  rintro e w14 ⟨rfl, hS, _⟩
  go_wp2_with fail
  refine (yes_b hS (one_small _ _ rfl rfl) (by decide) (chs_nil _) ⟨by decide, by decide, by decide, by decide, by decide, by decide, by decide⟩ a16 (b := false) rfl (ci := 2) (ni := 6) rfl rfl rfl).mono ?_
  clear hS
  rintro e w15 ⟨rfl, hS, _⟩
  go_wp2_with fail
  refine (del_mk w15 ⟨#[98]⟩).mono ?_
  rintro e w16 ⟨rfl, hE⟩
  replace hS := hS.ext hE
  clear hE
  go_wp2_with fail
  refine (yes_b hS (one_small _ _ rfl rfl) (by decide) (chs_nil _) ⟨by decide, by decide, by decide, by decide, by decide, by decide, by decide⟩ a17 (b := false) rfl (ci := 2) (ni := 7) rfl rfl rfl).mono ?_
  clear hS
  rintro e w17 ⟨rfl, hS, _⟩
  have hL := World.ownsRow_lit (base := 0) (e := 79) (size := 3) w17 #[.string ⟨#[98]⟩, .string ⟨#[49]⟩, .bool false, .string ⟨#[97]⟩, .string ⟨#[]⟩, .bool true] 2 (Nat.zero_le _) (by unfold maxLen; omega) rfl
  have hE := (Ext.refl w17).alloc (.cells #[.string ⟨#[98]⟩, .string ⟨#[49]⟩, .bool false, .string ⟨#[97]⟩, .string ⟨#[]⟩, .bool true] 79)
  replace hS := hS.ext hE
  have hC : ChsAt (w17.alloc (.cells #[.string ⟨#[98]⟩, .string ⟨#[49]⟩, .bool false, .string ⟨#[97]⟩, .string ⟨#[]⟩, .bool true] 79)) alB (some ⟨w17.heap.size, 0, none⟩) 2 := ⟨RowIs.of_own hL, by decide, fun c hc => by simp [alB] at hc; rcases hc with rfl | rfl <;> exact ⟨by decide, by decide⟩⟩
  have hC' := Lib.hid hC
  clear hL hE hC
  go_wp2_with fail
  refine (yes_b hS (one_small _ _ rfl rfl) (by decide) hC'.out ⟨by decide, by decide, by decide, by decide, by decide, by decide, by decide⟩ a18 (b := true) rfl (ci := 2) (ni := 8) rfl rfl rfl).mono ?_
  clear hS hC'
  rintro e w18 ⟨rfl, hS, _⟩
  go_wp2_with fail
  refine (rowsM_any hS (one_small _ _ rfl rfl) (by decide)).mono ?_
  rintro e w19 ⟨ra, rc, rfl, _, hown, hE⟩
  replace hS := hS.ext hE
  clear hE
  have hL := World.ownsRow_lit (base := 0) (e := 62) (size := 2) w19 #[.string ⟨#[98]⟩, .string ⟨#[49]⟩] 1 (Nat.zero_le _) (by unfold maxLen; omega) rfl
  have hq := srows_any (w19.alloc (.cells #[.string ⟨#[98]⟩, .string ⟨#[49]⟩] 62)) [⟨⟨#[98]⟩, ⟨#[49]⟩⟩] [⟨⟨#[98]⟩, ⟨#[49]⟩⟩] ra _ rc 1 ((RowIs.of_own hown).ext ((Ext.refl w19).alloc _)) (RowIs.of_own hL)
  rw [decide_eq_true rfl] at hq
  have hq' := Lib.hid hq
  clear hq hL hown
  go_wp2_with fail
  refine hq'.out.mono ?_
  rintro e w20 ⟨rfl, hE⟩
  replace hE := ((Ext.refl w19).alloc (.cells #[.string ⟨#[98]⟩, .string ⟨#[49]⟩] 62)).trans hE
  replace hS := hS.ext hE
  clear hE hq'
  go_wp2_with fail
  refine (get_mk _ ⟨#[97]⟩).mono ?_
  rintro e w21 ⟨rfl, hE⟩
  replace hS := hS.ext hE
  clear hE
  go_wp2_with fail
  refine (do_b hS (one_small _ _ rfl rfl) (by decide) (chs_nil _) ⟨by decide, by decide, by decide, by decide, by decide, by decide, by decide⟩ a19 (ci := 0) (ni := 1) rfl rfl rfl).mono ?_
  clear hS
  rintro e w22 ⟨ra20, rc20, rfl, _, _, hS, _⟩
  go_wp2_with fail
  replace hS := hS.ext ((Ext.refl w22).alloc (.cells #[.int .i64 0, .bool false, .slice ra20 0 rc20] 32))
  generalize hw : w22.alloc (.cells #[.int .i64 0, .bool false, .slice ra20 0 rc20] 32) = w23 at *
  clear hw
  skip
  refine (get_mk _ ⟨#[97]⟩).mono ?_
  rintro e w24 ⟨rfl, hE⟩
  replace hS := hS.ext hE
  clear hE
  go_wp2_with fail
  refine (do_b hS (one_small _ _ rfl rfl) (by decide) (chs_nil _) ⟨by decide, by decide, by decide, by decide, by decide, by decide, by decide⟩ a1a (ci := 9) (ni := 1) rfl rfl rfl).mono ?_
  clear hS
  rintro e w25 ⟨ra23, rc23, rfl, _, _, hS, _⟩
  go_wp2_with fail
  replace hS := hS.ext ((Ext.refl w25).alloc (.cells #[.int .i64 0, .bool false, .slice ra23 0 rc23] 32))
  generalize hw : w25.alloc (.cells #[.int .i64 0, .bool false, .slice ra23 0 rc23] 32) = w26 at *
  clear hw
  skip
  refine (get_mk _ ⟨#[97]⟩).mono ?_
  rintro e w27 ⟨rfl, hE⟩
  replace hS := hS.ext hE
  clear hE
  go_wp2_with fail
  refine (do_b hS (one_small _ _ rfl rfl) (by decide) (chs_nil _) ⟨by decide, by decide, by decide, by decide, by decide, by decide, by decide⟩ a1b (ci := 1) (ni := 0) rfl rfl rfl).mono ?_
  clear hS
  rintro e w28 ⟨ra26, rc26, rfl, _, _, hS, _⟩
  go_wp2_with fail
  replace hS := hS.ext ((Ext.refl w28).alloc (.cells #[.int .i64 0, .bool false, .slice ra26 0 rc26] 32))
  generalize hw : w28.alloc (.cells #[.int .i64 0, .bool false, .slice ra26 0 rc26] 32) = w29 at *
  clear hw
  skip
  refine (put_mk _ ⟨#[]⟩ ⟨#[120]⟩).mono ?_
  rintro e w30 ⟨rfl, hE⟩
  replace hS := hS.ext hE
  clear hE
  go_wp2_with fail
  refine (do_b hS (one_small _ _ rfl rfl) (by decide) (chs_nil _) ⟨by decide, by decide, by decide, by decide, by decide, by decide, by decide⟩ a1c (ci := 1) (ni := 9) rfl rfl rfl).mono ?_
  clear hS
  rintro e w31 ⟨ra29, rc29, rfl, _, _, hS, _⟩
  go_wp2_with fail
  replace hS := hS.ext ((Ext.refl w31).alloc (.cells #[.int .i64 0, .bool false, .slice ra29 0 rc29] 32))
  generalize hw : w31.alloc (.cells #[.int .i64 0, .bool false, .slice ra29 0 rc29] 32) = w32 at *
  clear hw
  refine (st_said hS).mono ?_
  rw [alSaid]
  rintro e v0 ⟨sa, sc, rfl, hown, hE⟩
  replace hS := hS.ext hE
  clear hE
  obtain ⟨sg, rfl, _⟩ := own_some hown (by decide)
  have q0 := hown.cellAt 0 (by decide)
  have q1 := hown.cellAt 1 (by decide)
  have q5 := hown.cellAt 5 (by decide)
  have q6 := hown.cellAt 6 (by decide)
  replace q0 : v0.cell? ⟨sg, 0, none⟩ = some (.int .u8 1) := q0
  replace q1 : v0.cell? ⟨sg, 1, none⟩ = some (.int .u32 1) := q1
  replace q5 : v0.cell? ⟨sg, 5, none⟩ = some (.int .u8 2) := q5
  replace q6 : v0.cell? ⟨sg, 6, none⟩ = some (.int .u32 8) := q6
  clear hown
  go_wp2_with fail
  refine (del_mk v0 ⟨#[113]⟩).mono ?_
  rintro e v1 ⟨rfl, hE⟩
  replace hS := hS.ext hE
  replace q0 := hE.cell q0
  replace q1 := hE.cell q1
  replace q5 := hE.cell q5
  replace q6 := hE.cell q6
  clear hE
  go_wp2_with fail
  refine (chgM_any hS (askDel ⟨#[113]⟩) none 0 (chs_nil _) ⟨by decide, by decide, by decide, by decide, by decide, by decide, by decide⟩ (by rw [ok_del]; rfl) (v := (askDel ⟨#[113]⟩).nil) rfl).mono ?_
  rw [show chgW al5.rows (askDel ⟨#[113]⟩) = [⟨⟨#[113]⟩, ⟨#[]⟩, true⟩] from rfl]
  rintro e v2 ⟨ca, cc, rfl, hcr, hE⟩
  replace hS := hS.ext hE
  replace q0 := hE.cell q0
  replace q1 := hE.cell q1
  replace q5 := hE.cell q5
  replace q6 := hE.cell q6
  clear hE
  have hL := World.ownsRow_lit (base := 0) (e := 79) (size := 3) v2 #[.string ⟨#[113]⟩, .string ⟨#[]⟩, .bool true] 1 (Nat.zero_le _) (by unfold maxLen; omega) rfl
  have hq := schgs_any (v2.alloc (.cells #[.string ⟨#[113]⟩, .string ⟨#[]⟩, .bool true] 79)) [⟨⟨#[113]⟩, ⟨#[]⟩, true⟩] [⟨⟨#[113]⟩, ⟨#[]⟩, true⟩] ca _ cc 1 (hcr.ext ((Ext.refl v2).alloc _)) (RowIs.of_own hL)
  rw [decide_eq_true rfl] at hq
  have hq' := Lib.hid hq
  clear hq hL hcr
  go_wp2_with fail
  refine hq'.out.mono ?_
  rintro e v3 ⟨rfl, hE⟩
  replace hE := ((Ext.refl v2).alloc (.cells #[.string ⟨#[113]⟩, .string ⟨#[]⟩, .bool true] 79)).trans hE
  replace hS := hS.ext hE
  replace q0 := hE.cell q0
  replace q1 := hE.cell q1
  replace q5 := hE.cell q5
  replace q6 := hE.cell q6
  clear hE hq'
  go_wp2_with fail
  refine (cas_mk v3 ⟨#[97]⟩ ⟨#[122]⟩ ⟨#[119]⟩).mono ?_
  rintro e v4 ⟨rfl, hE⟩
  replace hS := hS.ext hE
  replace q0 := hE.cell q0
  replace q1 := hE.cell q1
  replace q5 := hE.cell q5
  replace q6 := hE.cell q6
  clear hE
  go_wp2_with fail
  refine (chgM_any hS (askCas ⟨#[97]⟩ ⟨#[122]⟩ ⟨#[119]⟩) none 0 (chs_nil _) ⟨by decide, by decide, by decide, by decide, by decide, by decide, by decide⟩ (by rw [ok_cas]; rfl) (v := (askCas ⟨#[97]⟩ ⟨#[122]⟩ ⟨#[119]⟩).nil) rfl).mono ?_
  rw [show chgW al5.rows (askCas ⟨#[97]⟩ ⟨#[122]⟩ ⟨#[119]⟩) = [] from rfl]
  rintro e v5 ⟨ca2, cc2, rfl, _, hE⟩
  replace hS := hS.ext hE
  replace q0 := hE.cell q0
  replace q1 := hE.cell q1
  replace q5 := hE.cell q5
  replace q6 := hE.cell q6
  clear hE
  have hG := hS.ground
  clear hS
  go_wp2_with fail
  go_ret
  exact ⟨rfl, hG⟩
end Go.Proofs.Ytmjoaiepfipmaaa
