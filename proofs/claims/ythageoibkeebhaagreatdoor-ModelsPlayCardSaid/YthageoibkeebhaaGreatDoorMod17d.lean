/- Do: done, and kept. (Printed by wip/tools/gdo.py.) No condition. -/
import Derived.Test.YthageoibkeebhaaGreatDoorMod17
import Derived.Deep.RegionHeld3
import Derived.Deep.CutRange
namespace Go.Proofs.YthageoibkeebhaaGreatDoor
open Go.RowKit Go.Maps Go.WideMaps
set_option maxRecDepth 100000
set_option maxHeartbeats 4000000
theorem do_del {w0 w : World} {st mb : Nat} {m : Md} (hS : StM w0 w st mb m) (_hg : smallR m.rows) (hrn : m.rows.length ≤ 50000) (c n : Nat) (x : Ak) (a : Option Addr) (cap : Nat) (h : ChsAt w x.chs a cap) (hs : x.small) (h1 : 1 ≤ c) (h8 : c ≤ 8) (hok : x.okB = true) (hlt : m.num c < n) (hk : keptP x) (hF : (x.kind, 147) ∈ kindF)
    (hC : ∀ W, StM w0 W st mb m → Calls Tryz.prog 147 #[.pointer (some ⟨st, 0, none⟩), .agg (x.row (.slice a x.chs.length cap))] W fun e w' => e = .returned (.agg (reG 0 (yesW m.rows x))) ∧ Ext W w') :
    Calls Tryz.prog 30 #[.pointer (some ⟨st, 0, none⟩), .int .u8 (c : Int), .int .u32 (n : Int), .agg (x.row (.slice a x.chs.length cap))] w (DoE w0 w st mb 0 (yesW m.rows x) [] 0 (m.act c n x)) := by
  obtain ⟨s, hsc⟩ : ∃ s, m.sd[c]? = some s := ⟨_, List.getElem?_eq_getElem (by rw [hS.len]; omega)⟩
  rw [Md.num_at hsc] at hlt
  obtain ⟨W, hW⟩ : ∃ W, W = (w.alloc (.cells (x.row (.slice a x.chs.length cap)) 66)).alloc (.cells zRe 74) := ⟨_, rfl⟩
  have hE : Ext w W := by rw [hW]; exact ((Ext.refl _).alloc _).alloc _
  have hX : W.heap[w.heap.size]? = some (.cells (x.row (.slice a x.chs.length cap)) 66 (0, 0)) := by rw [hW]; exact ((Ext.refl _).alloc _).row (heap_alloc_new w _)
  have hR : W.heap[w.heap.size + 1]? = some (.cells zRe 74 (0, 0)) := by
    have h1 := heap_alloc_new (w.alloc (.cells (x.row (.slice a x.chs.length cap)) 66)) (.cells zRe 74)
    rw [show (w.alloc (.cells (x.row (.slice a x.chs.length cap)) 66)).heap.size = w.heap.size + 1 by simp] at h1
    rw [hW]; exact h1
  have hrg := ask_rng hX
  have hax := Lib.hid (askc hX)
  obtain ⟨k0, _⟩ := askc hX
  obtain ⟨rs, hX0, _⟩ := id hS
  obtain ⟨_, _, _, _, _, hst, _⟩ := (hS.ext hE).at
  have hth := st_there (hX0.ext hE)
  obtain ⟨d0, _⟩ := sd_cells hst hsc
  have hR' := Lib.hid hR
  have hW' := Lib.hid hW
  have hok' := Lib.hid hok
  have hch := Lib.hid (check_any W x a cap (h.ext hE) hs)
  have hS' := Lib.hid hS
  clear hW hX hst hX0 hR hsc hS
  have i1 : ¬ (c : Int) < 1 := by omega
  have i2 : ¬ (8 : Int) < (c : Int) := by omega
  have i3 : ¬ (n : Int) = 0 := by omega
  have i4 : ¬ (n : Int) = (s.num : Int) := by omega
  have i5 : decide (n ≤ s.num) = false := decide_eq_false (by omega)
  obtain ⟨k5, k6⟩ := hk
  have b6 : (x.kind != 6) = true := by simp [k6]
  have b5 : (x.kind != 5) = true := by simp [k5]
  obtain ⟨Y, hY⟩ : ∃ Y, Y = yesW m.rows x := ⟨_, rfl⟩
  rw [← hY] at hC ⊢
  have hY' := Lib.hid hY
  clear hY
  have hC0 := hC
  unfold Ak.row at hC
  have hC' := Lib.hid hC
  have hF' := Lib.hid hF
  have hok2 := Lib.hid hok
  clear hC hF hok hC0 hlt
  unfold Ak.row zRe at hW'
  unfold Ak.row at hrg
  unfold Ak.row
  go_enter Tryz.func30, Tryz.ntmps30
  go_upto_region 1 with fail
  rw [← hW'.out]
  clear hW'
  go_wp2_with fail
  refine hth.mono ?_
  rintro e w' ⟨rfl, rfl⟩
  clear hth
  go_wp2_with (first | (refine wpList_load_mid_on (by rfl) 66 (.tmp 7) (by rfl) w.heap.size 0 (by rfl) (x.row (.slice a x.chs.length cap)).toList _ hrg Tryz.underlying66 rfl (by rw [ask_ln]; exact ask_inf) ?_) | fail)
  refine hch.out.mono ?_
  rw [hok'.out]
  rintro e w1 ⟨rfl, hE1⟩
  replace k0 := hE1.cell k0
  replace d0 := hE1.cell d0
  have hw1 : w.heap.size + 1 < w1.heap.size := (Array.getElem?_eq_some_iff.1 (hE1.row hR'.out)).1
  have hR1 := Lib.hid (hE1.row hR'.out)
  clear hrg hch
  go_upto_region 5 with fail
  have hEw := hE.trans hE1
  have hS1 := Lib.hid (hS'.out.ext hEw)
  obtain ⟨z0, z1, z2, z3, z4, z5, z6, z7⟩ := hax.out
  have hSS : ∀ w', Ext w1 w' → Ext w1 w' ∧ w'.cell? ⟨w.heap.size, 0, none⟩ = some (.int .u8 x.kind) ∧ w'.cell? ⟨w.heap.size, 1, none⟩ = some (.string x.key) ∧ w'.cell? ⟨w.heap.size, 2, none⟩ = some (.string x.val) ∧ w'.cell? ⟨w.heap.size, 3, none⟩ = some (.string x.old) ∧ w'.cell? ⟨w.heap.size, 4, none⟩ = some (.bool x.new) ∧ w'.cell? ⟨w.heap.size, 5, none⟩ = some (.string x.to) ∧ w'.cell? ⟨w.heap.size, 6, none⟩ = some (.int .i64 x.many) ∧ w'.cell? ⟨w.heap.size, 7, none⟩ = some (.slice a x.chs.length cap) := fun w' he => ⟨he, he.cell (hE1.cell z0), he.cell (hE1.cell z1), he.cell (hE1.cell z2), he.cell (hE1.cell z3), he.cell (hE1.cell z4), he.cell (hE1.cell z5), he.cell (hE1.cell z6), he.cell (hE1.cell z7)⟩
  have hS2 := Lib.hid hSS
  clear hSS z0 z1 z2 z3 z4 z5 z6 z7 hE hE1 hax hR'
  go_upto_region 11 with fail
  go_cut [12] from 71 to 77 (fun p wx => ∃ b : Nat, p = .pointer (some ⟨b, 0, none⟩) ∧ w1.heap.size ≤ b ∧ wx.heap[b]? = some (.cells (reG 0 Y) 74 (0, 0)) ∧ Ext w1 wx)
  case first =>
    go_region_held3 (fun w' => Ext w1 w' ∧ w'.cell? ⟨w.heap.size, 0, none⟩ = some (.int .u8 x.kind) ∧ w'.cell? ⟨w.heap.size, 1, none⟩ = some (.string x.key) ∧ w'.cell? ⟨w.heap.size, 2, none⟩ = some (.string x.val) ∧ w'.cell? ⟨w.heap.size, 3, none⟩ = some (.string x.old) ∧ w'.cell? ⟨w.heap.size, 4, none⟩ = some (.bool x.new) ∧ w'.cell? ⟨w.heap.size, 5, none⟩ = some (.string x.to) ∧ w'.cell? ⟨w.heap.size, 6, none⟩ = some (.int .i64 x.many) ∧ w'.cell? ⟨w.heap.size, 7, none⟩ = some (.slice a x.chs.length cap)) ((refine hS2.out _ ?_; first | exact (Ext.refl _).drew | exact ((Ext.refl _).alloc _).drew | assumption | (go_split_ands; assumption) | (refine Ext.alloc ?_ _; go_split_ands; assumption) | (refine Ext.trans ?_ (by assumption); go_split_ands; assumption) | (refine Ext.trans (Ext.alloc ?_ _) (by assumption); go_split_ands; assumption))) (first | (go_at_call 103; refine (st_replies _).mono ?_; rintro e w2 ⟨mb2, rfl, hE2, hlk⟩; have l0 := hlk w2 (Ext.refl _) _ hF'.out; have l1 := fun o => hlk (w2.alloc o) ((Ext.refl _).alloc _) _ hF'.out; simp only at l0 l1; have hw2 := le_thru (by go_split_ands; assumption) hE2; first | have hb2 := hE2.row ((Ext.refl _).drew.row (heap_alloc_new w1 (.cells zRe 74))) | skip) | (go_at_call 147; (with_reducible refine (hC'.out _ (hS1.out.ext (by go_split_ands; assumption))).mono ?_); rintro e w3 ⟨rfl, hE3⟩; have hw3 := le_thru (by go_split_ands; assumption) hE3; first | have hb := hE3.row (heap_alloc_new w2 (.cells zRe 74)) | have hb := hE3.row hb2 | skip) | (obtain ⟨W', e1, hE', hb'⟩ := st_reg (wr := w1) (heap_alloc_new w3 (.cells zRe 74)) (by go_split_ands; assumption) hw3 Y; rw [show (#[.int .i64 0, .bool false, .slice none 0 0] : Array Value) = zRe from rfl, e1]; go_simp) | (obtain ⟨W', e1, hE', hb'⟩ := st_reg (wr := w1) hb (by go_split_ands; assumption) (by first | exact hw2 | exact Nat.le_refl _) Y; rw [e1]; go_simp) | fail)
    all_goals go_wp2_with fail
    all_goals go_meet
    all_goals first | exact ⟨_, rfl, hw3, hb', hE'⟩ | exact ⟨_, rfl, hw2, hb', hE'⟩ | exact ⟨_, rfl, Nat.le_refl _, hb', hE'⟩
  case rest =>
  obtain ⟨b, rfl, hb1, hbr, hEc⟩ := hcut
  have hSc := hS1.out.ext hEc
  obtain ⟨_, _, _, _, _, e6, es, cl, e7⟩ := hSc.at
  obtain ⟨e1, _, e3, e4, e5, _⟩ := hS'.out.at
  have hbm : b ≠ mb := fun e => by rw [e, e7] at hbr; cases hbr
  have hbs : b ≠ st := fun e => by
    rw [e, e6] at hbr
    injection hbr with q; injection q with _ q; cases q
  obtain ⟨rs', hXc, hrc, hcm⟩ := id hSc
  obtain ⟨cs, hcs⟩ : ∃ cs, cs = chgL rs' x := ⟨_, rfl⟩
  have hcw : cs = chgW m.rows x := by rw [hcs, chgL_eq rs' x hok2.out, hrc]
  have hcc := st_changes hXc x a cap (h.ext (hEw.trans hEc)) hs
  rw [← hcs] at hcc
  have hco := chg_ok (l := m.rows) hok2.out
  rw [← hcw] at hco
  have hcc' := Lib.hid hcc
  have hcw' := Lib.hid hcw
  have hrc' := Lib.hid hrc
  have hcm' := Lib.hid hcm
  have hbr' := Lib.hid hbr
  have e7' := Lib.hid e7
  have hco' := Lib.hid hco.1
  have hcn := hco.2
  have hrn' : rs'.length ≤ 50000 := by rw [← hrc, List.length_map] at hrn; exact hrn
  have hRc := Lib.hid (hEc.row hR1.out)
  obtain ⟨_, z0, z1, z2, z3, z4, z5, z6, z7⟩ := hS2.out _ hEc
  have hEwc := hEw.trans hEc
  clear hcs hcw hcc hco hrc hcm hbr e6 e7 d0 k0 hSc hR1 hC' hF' hS1 hS2
  unfold Ak.row at hcc'
  go_wp2_with fail
  refine hcc'.out.mono ?_
  rintro e w4 ⟨ca, cc, rfl, hcr, hE4⟩
  have hmk := st_make (hXc.ext hE4) (hE4.cell hcm'.out) (by omega) cs ca cc (by omega) ⟨hcr, by omega, fun d hd => ch_small_ok (hco'.out d hd)⟩ (fun h0 => out_map (by decide) hcr (hE4.row e7'.out) h0)
  have hmk' := Lib.hid hmk
  have hcr' := Lib.hid hcr
  clear hmk z0 z1 z2 z3 z4 z5 z6 z7 hcc' hcr
  obtain ⟨g, hgn⟩ : ∃ g, g = cs.length := ⟨_, rfl⟩
  rw [← hgn] at hmk' ⊢
  have hgn' := Lib.hid hgn
  clear hgn
  go_wp2_with fail
  refine hmk'.out.mono ?_
  rintro e w5 ⟨⟨rfl, rs2, hX5, hr5, hn5⟩, hO5⟩
  have hS5 : StM w0 w5 st mb ⟨chsW m.rows (chgW m.rows x), m.sd⟩ := ⟨rs2, hX5, by rw [hr5, hrc'.out, hcw'.out], hO5.cell (hE4.cell hcm'.out) (show ¬ st = mb from e5)⟩
  have hs4 : wc.heap.size ≤ w4.heap.size := hE4.size
  have hswc : w1.heap.size ≤ wc.heap.size := hEc.size
  have hb5 := (hO5.block b (by have := (Array.getElem?_eq_some_iff.1 hbr'.out).1; omega) hbm).trans (hE4.row hbr'.out)
  have hR5 := (hO5.block (w.heap.size + 1) (by omega) (by show ¬ w.heap.size + 1 = mb; omega)).trans (hE4.row hRc.out)
  have hO := ((OffB.of_ext (B := fun i => i = st ∨ i = mb) (hEwc.trans hE4)).trans (hO5.mono fun k hk => .inr hk))
  have hO' := Lib.hid hO
  have hb5' := Lib.hid hb5
  have hR5' := Lib.hid hR5
  have hS5' := Lib.hid hS5
  clear hO hb5 hR5 hS5 hX5 hr5 hn5 hmk' hO5 hXc hbr' hRc hcr' hcm' hcw' hrc'
  obtain ⟨y0, y1, y2⟩ := re_cells hb5'.out
  have hth := sd_there hS5'.out (show c < 9 by omega)
  go_upto_region 15 with (first | (refine wpList_store_mid (by rfl) 93 (.tmp 88) (.tmp 87) (by rfl) st (1 + c * 4) (svc ⟨n, 0, Y⟩).toArray (by rfl) (by rfl) hth (by exact info_last) (svc_one _) ?_) | fail)
  have hS6 := hS5'.out.say (show c < 9 by omega) ⟨n, 0, Y⟩
  have hO6 := setCells_off (b := st) (svc ⟨n, 0, Y⟩) (1 + c * 4) w5
  have hb6 := (hO6.block b (Array.getElem?_eq_some_iff.1 hb5'.out).1 hbs).trans hb5'.out
  have hR6 := (hO6.block (w.heap.size + 1) (Array.getElem?_eq_some_iff.1 hR5'.out).1 (by show ¬ w.heap.size + 1 = st; omega)).trans hR5'.out
  have hOf := hO'.out.trans (hO6.mono fun k hk => .inl hk)
  have hOf' := Lib.hid hOf
  have hS6' := Lib.hid hS6
  have hR6' := Lib.hid hR6
  have hb6' := Lib.hid hb6
  clear hb5' hR5' hS5' hO' y0 y1 y2 hth hO6 hb6 hR6 hOf hS6
  generalize w5.setCells st (1 + c * 4) (svc ⟨n, 0, Y⟩) = w6 at *
  obtain ⟨y0, y1, y2⟩ := re_cells hb6'.out
  go_wp2_with fail
  refine (st_twin w6 0 Y).mono ?_
  rintro e w7 ⟨rfl, hE7⟩
  have hR7 := Lib.hid (hE7.row hR6'.out)
  have hS7 := hS6'.out.ext hE7
  have hm : (⟨chsW m.rows (chgW m.rows x), m.sd.set c ⟨n, 0, Y⟩⟩ : Md) = m.act c n x := by unfold Md.act; rw [if_pos ⟨k5, k6⟩, hY'.out]
  rw [hm] at hS7
  have hfin := do_fin (hOf'.out.trans (.of_ext hE7)) hS7 (show w0.heap.size ≤ w.heap.size from hS'.out.ground.size) e3 e4 hR7.out 0 Y [] none 0 (RowIs.nil _ _ _ _ (fun _ => rfl)) (OwnC.nil _ _ _ _) Out.nil 0
  replace hfin : DoE w0 w st mb 0 Y [] 0 (m.act c n x) (.returned (.tuple #[.agg (reG 0 Y), .int .i64 0])) (w7.setRow (w.heap.size + 1) (reG 0 Y)) := hfin
  have hfin' := Lib.hid hfin
  clear hfin hm hS7 hE7 hOf' hS6' hR6' hb6' y0 y1 y2
  go_wp2_with (first | (refine wpList_store_row (by rfl) 74 (.tmp 8) (.tmp 90) (by rfl) (w.heap.size + 1) (reG 0 Y) (by rfl) (by rfl) 74 zRe hR7.out (by exact info_reply) (by rfl) (reG_one _ _) ?_) | fail)
  have hset : (w7.setRow (w.heap.size + 1) (reG 0 Y)).heap[w.heap.size + 1]? = some (.cells (reG 0 Y) 74 (0, 0)) := by rw [setRow_heap _ _ _ _ _ _ hR7.out]
  generalize w7.setRow (w.heap.size + 1) (reG 0 Y) = Wf at *
  obtain ⟨b0, b1, b2⟩ := re_cells hset
  exact bodyPost_ret (v := .tuple #[.agg (reG 0 Y), .int .i64 0]) (by simp [results, Tryz.results30, go_sem, b0, b1, b2, reG]) rfl hfin'.out
end Go.Proofs.YthageoibkeebhaaGreatDoor
