/- The law ModelsApart. (Printed by wip/tools/glaw.py.) No condition. -/
import Derived.Test.YtmjoaiepfipmaaaMod27
import Derived.Deep.RegionHeld3
import Derived.Deep.CutRange
import Derived.StillTailTactics
namespace Go.Proofs.Ytmjoaiepfipmaaa
open Go.RowKit
set_option maxRecDepth 100000
set_option maxHeartbeats 4000000
theorem Out.mono {B B' : Nat → Prop} {v : Value} (h : Out B v) (hb : ∀ k, B' k → B k) : Out B' v := fun a n c hv hB => h a n c hv (hb _ hB)
theorem ok_len {x : Ak} (h : x.okB = true) : x.chs.length ≤ 16 := by
  unfold Ak.okB at h
  split at h
  · unfold Ak.putB at h; simp only [Bool.and_eq_true, beq_iff_eq] at h; omega
  · split at h
    · unfold Ak.casB at h; simp only [Bool.and_eq_true, beq_iff_eq] at h; omega
    · split at h
      · unfold Ak.batchB at h; simp only [Bool.and_eq_true, decide_eq_true_eq] at h; omega
      · split at h
        · unfold Ak.scanB at h; simp only [Bool.and_eq_true, beq_iff_eq] at h; omega
        · split at h
          · unfold Ak.plainB at h; simp only [Bool.and_eq_true, beq_iff_eq] at h; omega
          · split at h
            · unfold Ak.plainB at h; simp only [Bool.and_eq_true, beq_iff_eq] at h; omega
            · cases h
theorem modelsApart_walk (w : World) (v : Value) (o0 : ∃ n, OKC Try.prog w n 46 [v]) (cx : Array Value) (o1 : ∃ n, OKC Try.prog w n 26 cx.toList) (cy : Array Value) (o2 : ∃ n, OKC Try.prog w n 26 cy.toList) :
    Calls Try.prog 9 #[v, .agg cx, .agg cy] w fun e w' => e = .returned (.bool true) ∧ Ext w w' := by
  obtain ⟨l, a, cap, rfl, hg, h1, hll⟩ := okc_acts o0
  obtain ⟨n1, o1⟩ := o1
  obtain ⟨x, xa, xc, hxc, hCx, hsx⟩ := okc_ask o1
  obtain rfl : cx = x.row (.slice xa x.chs.length xc) := by rw [← Array.toList_inj]; exact hxc
  obtain ⟨n2, o2⟩ := o2
  obtain ⟨y, ya, yc, hyc, hCy, hsy⟩ := okc_ask o2
  obtain rfl : cy = y.row (.slice ya y.chs.length yc) := by rw [← Array.toList_inj]; exact hyc
  have hg' := Lib.hid hg
  have h1' := Lib.hid h1
  have hCx' := Lib.hid hCx
  have hCy' := Lib.hid hCy
  clear o0 o1 o2 hg h1 hCx hCy hxc hyc
  have hB := heap_alloc_new w (.cells (x.row (.slice xa x.chs.length xc)) 26)
  have hE := (Ext.refl w).alloc (.cells (x.row (.slice xa x.chs.length xc)) 26)
  have hB2 := heap_alloc_new (w.alloc (.cells (x.row (.slice xa x.chs.length xc)) 26)) (.cells (y.row (.slice ya y.chs.length yc)) 26)
  have hE2 := (Ext.refl (w.alloc (.cells (x.row (.slice xa x.chs.length xc)) 26))).alloc (.cells (y.row (.slice ya y.chs.length yc)) 26)
  replace hE := hE.trans hE2
  replace hB := hE2.row hB
  rw [show (w.alloc (.cells (x.row (.slice xa x.chs.length xc)) 26)).heap.size = w.heap.size + 1 by simp] at hB2
  clear hE2
  unfold Ak.row at hB hB2 hE
  unfold Ak.row
  go_enter Try.func9, Try.ntmps9
  go_upto_region 1 with fail
  generalize (w.alloc _).alloc _ = W at *
  have hgW : w.heap.size + 1 < W.heap.size := (Array.getElem?_eq_some_iff.1 hB2).1
  generalize w.heap.size = g at *
  have hXr : ∀ w', Ext W w' → w'.rangeAt g 0 (x.row (.slice xa x.chs.length xc)).toList := fun w' he => ask_rng (x := x) (v := .slice xa x.chs.length xc) (he.row hB)
  have hYr : ∀ w', Ext W w' → w'.rangeAt (g + 1) 0 (y.row (.slice ya y.chs.length yc)).toList := fun w' he => ask_rng (x := y) (v := .slice ya y.chs.length yc) (he.row hB2)
  have hXk : ∀ w', Ext W w' → w'.cell? ⟨g, 0, none⟩ = some (.int .u8 x.kind) := fun w' he => hXr w' he 0 _ rfl
  have hYk : ∀ w', Ext W w' → w'.cell? ⟨g + 1, 0, none⟩ = some (.int .u8 y.kind) := fun w' he => hYr w' he 0 _ rfl
  have hXr' := Lib.hid hXr
  have hYr' := Lib.hid hYr
  have hXk' := Lib.hid hXk
  have hYk' := Lib.hid hYk
  have hsz1 := Ak.sz_le hsx hCx'.out.2.2 (by have := hCx'.out.2.1; omega)
  have hsz2 := Ak.sz_le hsy hCy'.out.2.2 (by have := hCy'.out.2.1; omega)
  obtain ⟨S1, hS1⟩ : ∃ S, S = x.sz := ⟨_, rfl⟩
  obtain ⟨S2, hS2⟩ : ∃ S, S = y.sz := ⟨_, rfl⟩
  rw [← hS1] at hsz1
  rw [← hS2] at hsz2
  obtain ⟨B1, hB1⟩ : ∃ B, B = x.okB := ⟨_, rfl⟩
  obtain ⟨B2', hB2e⟩ : ∃ B, B = y.okB := ⟨_, rfl⟩
  obtain ⟨G, hG⟩ : ∃ B, B = greatB l := ⟨_, rfl⟩
  obtain ⟨K1, hK1⟩ : ∃ B, B = (x.kind == 6) := ⟨_, rfl⟩
  obtain ⟨K2, hK2⟩ : ∃ B, B = (y.kind == 6) := ⟨_, rfl⟩
  obtain ⟨Mt, hMt⟩ : ∃ B, B = meetB x y := ⟨_, rfl⟩
  have kAl : ∀ w', Ext W w' → Calls Try.prog 16 #[] w' fun e w'' => e = .returned (.bool true) ∧ Ext w' w'' := fun w' _ => alive_any w'
  have kGr : ∀ w', Ext W w' → Calls Try.prog 17 #[.slice a l.length cap] w' fun e w'' => e = .returned (.bool G) ∧ Ext w' w'' := fun w' he => by rw [hG]; exact great_any w' l a cap (fun x hx => (hg'.out x hx).ext (hE.trans he)) hll (h1'.out.ext (hE.trans he))
  have kA1 : ∀ w', Ext W w' → Calls Try.prog 18 #[.agg (x.row (.slice xa x.chs.length xc))] w' fun e w'' => e = .returned (.int .i64 (S1 : Nat)) ∧ Ext w' w'' := fun w' he => by rw [hS1]; exact asize_any w' x xa xc (hCx'.out.ext (hE.trans he)) hsx
  have kA2 : ∀ w', Ext W w' → Calls Try.prog 18 #[.agg (y.row (.slice ya y.chs.length yc))] w' fun e w'' => e = .returned (.int .i64 (S2 : Nat)) ∧ Ext w' w'' := fun w' he => by rw [hS2]; exact asize_any w' y ya yc (hCy'.out.ext (hE.trans he)) hsy
  have kC1 : ∀ w', Ext W w' → Calls Try.prog 19 #[.agg (x.row (.slice xa x.chs.length xc))] w' fun e w'' => e = .returned (.bool B1) ∧ Ext w' w'' := fun w' he => by rw [hB1]; exact check_any w' x xa xc (hCx'.out.ext (hE.trans he)) hsx
  have kC2 : ∀ w', Ext W w' → Calls Try.prog 19 #[.agg (y.row (.slice ya y.chs.length yc))] w' fun e w'' => e = .returned (.bool B2') ∧ Ext w' w'' := fun w' he => by rw [hB2e]; exact check_any w' y ya yc (hCy'.out.ext (hE.trans he)) hsy
  have kM : B1 = true → B2' = true → ∀ w', Ext W w' → Calls Try.prog 30 #[.agg (x.row (.slice xa x.chs.length xc)), .agg (y.row (.slice ya y.chs.length yc))] w' fun e w'' => e = .returned (.bool Mt) ∧ Ext w' w'' := fun h1 h2 w' he => by
    rw [hMt]
    rw [hB1] at h1
    rw [hB2e] at h2
    exact meet_any w' x y xa ya xc yc (hCx'.out.ext (hE.trans he)) (hCy'.out.ext (hE.trans he)) (Nat.le_trans (ok_len h1) (by decide)) (Nat.le_trans (ok_len h2) (by decide))
  have kAl' := Lib.hid kAl
  have kGr' := Lib.hid kGr
  have kA1' := Lib.hid kA1
  have kA2' := Lib.hid kA2
  have kC1' := Lib.hid kC1
  have kC2' := Lib.hid kC2
  have kM' := Lib.hid kM
  have hE' := Lib.hid hE
  have hG' := Lib.hid hG
  have hB1' := Lib.hid hB1
  have hB2' := Lib.hid hB2e
  have hMt' := Lib.hid hMt
  have hK1' := Lib.hid hK1
  have hK2' := Lib.hid hK2
  clear kAl kGr kA1 kA2 kC1 kC2 kM hXr hYr hXk hYk hB hB2 hE hS1 hS2 hB1 hB2e hG hMt hK1 hK2
  have esum : IntKind.i64.wrap ((S1 : Int) + (S2 : Int)) = (S1 : Int) + (S2 : Int) := by rw [IntKind.wrap_i64]; omega
  cases G
  case true =>
    refine wp_region_class (Ext W) (by kernel_rfl) (by kernel_rfl) (Ext.refl _).drew ?_
    refine wpQuiet_step (fun K hK => ?_); go_simp
    refine ⟨_, fun w' hw => calls_ext hw (kAl'.out w' hw), hK _ ?_⟩; clear hK K
    iterate 3 (refine wpQuiet_step (fun K hK => ?_); go_simp; first | (refine hK _ ?_; clear hK K) | (refine ⟨_, fun _ _ => rfl, hK _ ?_⟩; clear hK K))
    refine wpQuiet_step (fun K hK => ?_); go_simp
    refine ⟨_, fun w' hw => calls_ext hw (kGr'.out w' hw), hK _ ?_⟩; clear hK K
    iterate 34 (refine wpQuiet_step (fun K hK => ?_); go_simp; first | (refine hK _ ?_; clear hK K) | (refine ⟨_, fun _ _ => rfl, hK _ ?_⟩; clear hK K))
    refine wpQuiet_nil (fun w5 hE5 => ?_)
    go_wp2_with fail
    refine (alive_end w w5 (hE'.out.trans hE5)).mono ?_
    rintro e wz ⟨rfl, hEz⟩
    go_wp2_with fail
    go_ret
    exact ⟨rfl, hEz⟩
  by_cases hsz : 10000 < S1 + S2
  case pos =>
    have isz : (10000 : Int) < (S1 : Int) + (S2 : Int) := by omega
    have dsz : decide ((10000 : Int) < (S1 : Int) + (S2 : Int)) = true := decide_eq_true isz
    refine wp_region_class (Ext W) (by kernel_rfl) (by kernel_rfl) (Ext.refl _).drew ?_
    refine wpQuiet_step (fun K hK => ?_); go_simp
    refine ⟨_, fun w' hw => calls_ext hw (kAl'.out w' hw), hK _ ?_⟩; clear hK K
    iterate 3 (refine wpQuiet_step (fun K hK => ?_); go_simp; first | (refine hK _ ?_; clear hK K) | (refine ⟨_, fun _ _ => rfl, hK _ ?_⟩; clear hK K))
    refine wpQuiet_step (fun K hK => ?_); go_simp
    refine ⟨_, fun w' hw => calls_ext hw (kGr'.out w' hw), hK _ ?_⟩; clear hK K
    iterate 2 (refine wpQuiet_step (fun K hK => ?_); go_simp; first | (refine hK _ ?_; clear hK K) | (refine ⟨_, fun _ _ => rfl, hK _ ?_⟩; clear hK K))
    refine wpQuiet_load_mid (by rfl) 26 _ (by rfl) g 0 (by rfl) _ _ (fun w' hw => hXr'.out w' hw) Try.underlying26 rfl (by rw [ask_ln]; exact ask_inf) ?_
    refine wpQuiet_step (fun K hK => ?_); go_simp
    refine ⟨_, fun w' hw => calls_ext hw (kA1'.out w' hw), hK _ ?_⟩; clear hK K
    refine wpQuiet_load_mid (by rfl) 26 _ (by rfl) (g + 1) 0 (by rfl) _ _ (fun w' hw => hYr'.out w' hw) Try.underlying26 rfl (by rw [ask_ln]; exact ask_inf) ?_
    refine wpQuiet_step (fun K hK => ?_); go_simp
    refine ⟨_, fun w' hw => calls_ext hw (kA2'.out w' hw), hK _ ?_⟩; clear hK K
    iterate 28 (refine wpQuiet_step (fun K hK => ?_); go_simp; first | (refine hK _ ?_; clear hK K) | (refine ⟨_, fun _ _ => rfl, hK _ ?_⟩; clear hK K))
    refine wpQuiet_nil (fun w5 hE5 => ?_)
    go_wp2_with fail
    refine (alive_end w w5 (hE'.out.trans hE5)).mono ?_
    rintro e wz ⟨rfl, hEz⟩
    go_wp2_with fail
    go_ret
    exact ⟨rfl, hEz⟩
  have isz : ¬ (10000 : Int) < (S1 : Int) + (S2 : Int) := by omega
  have dsz : decide ((10000 : Int) < (S1 : Int) + (S2 : Int)) = false := decide_eq_false isz
  cases B1
  case false =>
    refine wp_region_class (Ext W) (by kernel_rfl) (by kernel_rfl) (Ext.refl _).drew ?_
    refine wpQuiet_step (fun K hK => ?_); go_simp
    refine ⟨_, fun w' hw => calls_ext hw (kAl'.out w' hw), hK _ ?_⟩; clear hK K
    iterate 3 (refine wpQuiet_step (fun K hK => ?_); go_simp; first | (refine hK _ ?_; clear hK K) | (refine ⟨_, fun _ _ => rfl, hK _ ?_⟩; clear hK K))
    refine wpQuiet_step (fun K hK => ?_); go_simp
    refine ⟨_, fun w' hw => calls_ext hw (kGr'.out w' hw), hK _ ?_⟩; clear hK K
    iterate 2 (refine wpQuiet_step (fun K hK => ?_); go_simp; first | (refine hK _ ?_; clear hK K) | (refine ⟨_, fun _ _ => rfl, hK _ ?_⟩; clear hK K))
    refine wpQuiet_load_mid (by rfl) 26 _ (by rfl) g 0 (by rfl) _ _ (fun w' hw => hXr'.out w' hw) Try.underlying26 rfl (by rw [ask_ln]; exact ask_inf) ?_
    refine wpQuiet_step (fun K hK => ?_); go_simp
    refine ⟨_, fun w' hw => calls_ext hw (kA1'.out w' hw), hK _ ?_⟩; clear hK K
    refine wpQuiet_load_mid (by rfl) 26 _ (by rfl) (g + 1) 0 (by rfl) _ _ (fun w' hw => hYr'.out w' hw) Try.underlying26 rfl (by rw [ask_ln]; exact ask_inf) ?_
    refine wpQuiet_step (fun K hK => ?_); go_simp
    refine ⟨_, fun w' hw => calls_ext hw (kA2'.out w' hw), hK _ ?_⟩; clear hK K
    iterate 4 (refine wpQuiet_step (fun K hK => ?_); go_simp; first | (refine hK _ ?_; clear hK K) | (refine ⟨_, fun _ _ => rfl, hK _ ?_⟩; clear hK K))
    refine wpQuiet_load_mid (by rfl) 26 _ (by rfl) g 0 (by rfl) _ _ (fun w' hw => hXr'.out w' hw) Try.underlying26 rfl (by rw [ask_ln]; exact ask_inf) ?_
    refine wpQuiet_step (fun K hK => ?_); go_simp
    refine ⟨_, fun w' hw => calls_ext hw (kC1'.out w' hw), hK _ ?_⟩; clear hK K
    iterate 22 (refine wpQuiet_step (fun K hK => ?_); go_simp; first | (refine hK _ ?_; clear hK K) | (refine ⟨_, fun _ _ => rfl, hK _ ?_⟩; clear hK K))
    refine wpQuiet_nil (fun w5 hE5 => ?_)
    go_wp2_with fail
    refine (alive_end w w5 (hE'.out.trans hE5)).mono ?_
    rintro e wz ⟨rfl, hEz⟩
    go_wp2_with fail
    go_ret
    exact ⟨rfl, hEz⟩
  cases B2'
  case false =>
    refine wp_region_class (Ext W) (by kernel_rfl) (by kernel_rfl) (Ext.refl _).drew ?_
    refine wpQuiet_step (fun K hK => ?_); go_simp
    refine ⟨_, fun w' hw => calls_ext hw (kAl'.out w' hw), hK _ ?_⟩; clear hK K
    iterate 3 (refine wpQuiet_step (fun K hK => ?_); go_simp; first | (refine hK _ ?_; clear hK K) | (refine ⟨_, fun _ _ => rfl, hK _ ?_⟩; clear hK K))
    refine wpQuiet_step (fun K hK => ?_); go_simp
    refine ⟨_, fun w' hw => calls_ext hw (kGr'.out w' hw), hK _ ?_⟩; clear hK K
    iterate 2 (refine wpQuiet_step (fun K hK => ?_); go_simp; first | (refine hK _ ?_; clear hK K) | (refine ⟨_, fun _ _ => rfl, hK _ ?_⟩; clear hK K))
    refine wpQuiet_load_mid (by rfl) 26 _ (by rfl) g 0 (by rfl) _ _ (fun w' hw => hXr'.out w' hw) Try.underlying26 rfl (by rw [ask_ln]; exact ask_inf) ?_
    refine wpQuiet_step (fun K hK => ?_); go_simp
    refine ⟨_, fun w' hw => calls_ext hw (kA1'.out w' hw), hK _ ?_⟩; clear hK K
    refine wpQuiet_load_mid (by rfl) 26 _ (by rfl) (g + 1) 0 (by rfl) _ _ (fun w' hw => hYr'.out w' hw) Try.underlying26 rfl (by rw [ask_ln]; exact ask_inf) ?_
    refine wpQuiet_step (fun K hK => ?_); go_simp
    refine ⟨_, fun w' hw => calls_ext hw (kA2'.out w' hw), hK _ ?_⟩; clear hK K
    iterate 4 (refine wpQuiet_step (fun K hK => ?_); go_simp; first | (refine hK _ ?_; clear hK K) | (refine ⟨_, fun _ _ => rfl, hK _ ?_⟩; clear hK K))
    refine wpQuiet_load_mid (by rfl) 26 _ (by rfl) g 0 (by rfl) _ _ (fun w' hw => hXr'.out w' hw) Try.underlying26 rfl (by rw [ask_ln]; exact ask_inf) ?_
    refine wpQuiet_step (fun K hK => ?_); go_simp
    refine ⟨_, fun w' hw => calls_ext hw (kC1'.out w' hw), hK _ ?_⟩; clear hK K
    iterate 3 (refine wpQuiet_step (fun K hK => ?_); go_simp; first | (refine hK _ ?_; clear hK K) | (refine ⟨_, fun _ _ => rfl, hK _ ?_⟩; clear hK K))
    refine wpQuiet_load_mid (by rfl) 26 _ (by rfl) (g + 1) 0 (by rfl) _ _ (fun w' hw => hYr'.out w' hw) Try.underlying26 rfl (by rw [ask_ln]; exact ask_inf) ?_
    refine wpQuiet_step (fun K hK => ?_); go_simp
    refine ⟨_, fun w' hw => calls_ext hw (kC2'.out w' hw), hK _ ?_⟩; clear hK K
    iterate 17 (refine wpQuiet_step (fun K hK => ?_); go_simp; first | (refine hK _ ?_; clear hK K) | (refine ⟨_, fun _ _ => rfl, hK _ ?_⟩; clear hK K))
    refine wpQuiet_nil (fun w5 hE5 => ?_)
    go_wp2_with fail
    refine (alive_end w w5 (hE'.out.trans hE5)).mono ?_
    rintro e wz ⟨rfl, hEz⟩
    go_wp2_with fail
    go_ret
    exact ⟨rfl, hEz⟩
  cases K1
  case true =>
    have dk1 : (x.kind == 6) = true := hK1'.out.symm
    refine wp_region_class (Ext W) (by kernel_rfl) (by kernel_rfl) (Ext.refl _).drew ?_
    refine wpQuiet_step (fun K hK => ?_); go_simp
    refine ⟨_, fun w' hw => calls_ext hw (kAl'.out w' hw), hK _ ?_⟩; clear hK K
    iterate 3 (refine wpQuiet_step (fun K hK => ?_); go_simp; first | (refine hK _ ?_; clear hK K) | (refine ⟨_, fun _ _ => rfl, hK _ ?_⟩; clear hK K))
    refine wpQuiet_step (fun K hK => ?_); go_simp
    refine ⟨_, fun w' hw => calls_ext hw (kGr'.out w' hw), hK _ ?_⟩; clear hK K
    iterate 2 (refine wpQuiet_step (fun K hK => ?_); go_simp; first | (refine hK _ ?_; clear hK K) | (refine ⟨_, fun _ _ => rfl, hK _ ?_⟩; clear hK K))
    refine wpQuiet_load_mid (by rfl) 26 _ (by rfl) g 0 (by rfl) _ _ (fun w' hw => hXr'.out w' hw) Try.underlying26 rfl (by rw [ask_ln]; exact ask_inf) ?_
    refine wpQuiet_step (fun K hK => ?_); go_simp
    refine ⟨_, fun w' hw => calls_ext hw (kA1'.out w' hw), hK _ ?_⟩; clear hK K
    refine wpQuiet_load_mid (by rfl) 26 _ (by rfl) (g + 1) 0 (by rfl) _ _ (fun w' hw => hYr'.out w' hw) Try.underlying26 rfl (by rw [ask_ln]; exact ask_inf) ?_
    refine wpQuiet_step (fun K hK => ?_); go_simp
    refine ⟨_, fun w' hw => calls_ext hw (kA2'.out w' hw), hK _ ?_⟩; clear hK K
    iterate 4 (refine wpQuiet_step (fun K hK => ?_); go_simp; first | (refine hK _ ?_; clear hK K) | (refine ⟨_, fun _ _ => rfl, hK _ ?_⟩; clear hK K))
    refine wpQuiet_load_mid (by rfl) 26 _ (by rfl) g 0 (by rfl) _ _ (fun w' hw => hXr'.out w' hw) Try.underlying26 rfl (by rw [ask_ln]; exact ask_inf) ?_
    refine wpQuiet_step (fun K hK => ?_); go_simp
    refine ⟨_, fun w' hw => calls_ext hw (kC1'.out w' hw), hK _ ?_⟩; clear hK K
    iterate 3 (refine wpQuiet_step (fun K hK => ?_); go_simp; first | (refine hK _ ?_; clear hK K) | (refine ⟨_, fun _ _ => rfl, hK _ ?_⟩; clear hK K))
    refine wpQuiet_load_mid (by rfl) 26 _ (by rfl) (g + 1) 0 (by rfl) _ _ (fun w' hw => hYr'.out w' hw) Try.underlying26 rfl (by rw [ask_ln]; exact ask_inf) ?_
    refine wpQuiet_step (fun K hK => ?_); go_simp
    refine ⟨_, fun w' hw => calls_ext hw (kC2'.out w' hw), hK _ ?_⟩; clear hK K
    iterate 4 (refine wpQuiet_step (fun K hK => ?_); go_simp; first | (refine hK _ ?_; clear hK K) | (refine ⟨_, fun _ _ => rfl, hK _ ?_⟩; clear hK K))
    refine wpQuiet_load_cell (by rfl) 23 _ (by rfl) g 0 (by rfl) _ (fun w' hw => hXk'.out w' hw) _ Try.underlying23 rfl ?_
    iterate 12 (refine wpQuiet_step (fun K hK => ?_); go_simp; first | (refine hK _ ?_; clear hK K) | (refine ⟨_, fun _ _ => rfl, hK _ ?_⟩; clear hK K))
    refine wpQuiet_nil (fun w5 hE5 => ?_)
    go_wp2_with fail
    refine (alive_end w w5 (hE'.out.trans hE5)).mono ?_
    rintro e wz ⟨rfl, hEz⟩
    go_wp2_with fail
    go_ret
    exact ⟨rfl, hEz⟩
  have dk1 : (x.kind == 6) = false := hK1'.out.symm
  cases K2
  case true =>
    have dk2 : (y.kind == 6) = true := hK2'.out.symm
    refine wp_region_class (Ext W) (by kernel_rfl) (by kernel_rfl) (Ext.refl _).drew ?_
    refine wpQuiet_step (fun K hK => ?_); go_simp
    refine ⟨_, fun w' hw => calls_ext hw (kAl'.out w' hw), hK _ ?_⟩; clear hK K
    iterate 3 (refine wpQuiet_step (fun K hK => ?_); go_simp; first | (refine hK _ ?_; clear hK K) | (refine ⟨_, fun _ _ => rfl, hK _ ?_⟩; clear hK K))
    refine wpQuiet_step (fun K hK => ?_); go_simp
    refine ⟨_, fun w' hw => calls_ext hw (kGr'.out w' hw), hK _ ?_⟩; clear hK K
    iterate 2 (refine wpQuiet_step (fun K hK => ?_); go_simp; first | (refine hK _ ?_; clear hK K) | (refine ⟨_, fun _ _ => rfl, hK _ ?_⟩; clear hK K))
    refine wpQuiet_load_mid (by rfl) 26 _ (by rfl) g 0 (by rfl) _ _ (fun w' hw => hXr'.out w' hw) Try.underlying26 rfl (by rw [ask_ln]; exact ask_inf) ?_
    refine wpQuiet_step (fun K hK => ?_); go_simp
    refine ⟨_, fun w' hw => calls_ext hw (kA1'.out w' hw), hK _ ?_⟩; clear hK K
    refine wpQuiet_load_mid (by rfl) 26 _ (by rfl) (g + 1) 0 (by rfl) _ _ (fun w' hw => hYr'.out w' hw) Try.underlying26 rfl (by rw [ask_ln]; exact ask_inf) ?_
    refine wpQuiet_step (fun K hK => ?_); go_simp
    refine ⟨_, fun w' hw => calls_ext hw (kA2'.out w' hw), hK _ ?_⟩; clear hK K
    iterate 4 (refine wpQuiet_step (fun K hK => ?_); go_simp; first | (refine hK _ ?_; clear hK K) | (refine ⟨_, fun _ _ => rfl, hK _ ?_⟩; clear hK K))
    refine wpQuiet_load_mid (by rfl) 26 _ (by rfl) g 0 (by rfl) _ _ (fun w' hw => hXr'.out w' hw) Try.underlying26 rfl (by rw [ask_ln]; exact ask_inf) ?_
    refine wpQuiet_step (fun K hK => ?_); go_simp
    refine ⟨_, fun w' hw => calls_ext hw (kC1'.out w' hw), hK _ ?_⟩; clear hK K
    iterate 3 (refine wpQuiet_step (fun K hK => ?_); go_simp; first | (refine hK _ ?_; clear hK K) | (refine ⟨_, fun _ _ => rfl, hK _ ?_⟩; clear hK K))
    refine wpQuiet_load_mid (by rfl) 26 _ (by rfl) (g + 1) 0 (by rfl) _ _ (fun w' hw => hYr'.out w' hw) Try.underlying26 rfl (by rw [ask_ln]; exact ask_inf) ?_
    refine wpQuiet_step (fun K hK => ?_); go_simp
    refine ⟨_, fun w' hw => calls_ext hw (kC2'.out w' hw), hK _ ?_⟩; clear hK K
    iterate 4 (refine wpQuiet_step (fun K hK => ?_); go_simp; first | (refine hK _ ?_; clear hK K) | (refine ⟨_, fun _ _ => rfl, hK _ ?_⟩; clear hK K))
    refine wpQuiet_load_cell (by rfl) 23 _ (by rfl) g 0 (by rfl) _ (fun w' hw => hXk'.out w' hw) _ Try.underlying23 rfl ?_
    iterate 4 (refine wpQuiet_step (fun K hK => ?_); go_simp; first | (refine hK _ ?_; clear hK K) | (refine ⟨_, fun _ _ => rfl, hK _ ?_⟩; clear hK K))
    refine wpQuiet_load_cell (by rfl) 23 _ (by rfl) (g + 1) 0 (by rfl) _ (fun w' hw => hYk'.out w' hw) _ Try.underlying23 rfl ?_
    iterate 7 (refine wpQuiet_step (fun K hK => ?_); go_simp; first | (refine hK _ ?_; clear hK K) | (refine ⟨_, fun _ _ => rfl, hK _ ?_⟩; clear hK K))
    refine wpQuiet_nil (fun w5 hE5 => ?_)
    go_wp2_with fail
    refine (alive_end w w5 (hE'.out.trans hE5)).mono ?_
    rintro e wz ⟨rfl, hEz⟩
    go_wp2_with fail
    go_ret
    exact ⟨rfl, hEz⟩
  have dk2 : (y.kind == 6) = false := hK2'.out.symm
  cases Mt
  case true =>
    refine wp_region_class (Ext W) (by kernel_rfl) (by kernel_rfl) (Ext.refl _).drew ?_
    refine wpQuiet_step (fun K hK => ?_); go_simp
    refine ⟨_, fun w' hw => calls_ext hw (kAl'.out w' hw), hK _ ?_⟩; clear hK K
    iterate 3 (refine wpQuiet_step (fun K hK => ?_); go_simp; first | (refine hK _ ?_; clear hK K) | (refine ⟨_, fun _ _ => rfl, hK _ ?_⟩; clear hK K))
    refine wpQuiet_step (fun K hK => ?_); go_simp
    refine ⟨_, fun w' hw => calls_ext hw (kGr'.out w' hw), hK _ ?_⟩; clear hK K
    iterate 2 (refine wpQuiet_step (fun K hK => ?_); go_simp; first | (refine hK _ ?_; clear hK K) | (refine ⟨_, fun _ _ => rfl, hK _ ?_⟩; clear hK K))
    refine wpQuiet_load_mid (by rfl) 26 _ (by rfl) g 0 (by rfl) _ _ (fun w' hw => hXr'.out w' hw) Try.underlying26 rfl (by rw [ask_ln]; exact ask_inf) ?_
    refine wpQuiet_step (fun K hK => ?_); go_simp
    refine ⟨_, fun w' hw => calls_ext hw (kA1'.out w' hw), hK _ ?_⟩; clear hK K
    refine wpQuiet_load_mid (by rfl) 26 _ (by rfl) (g + 1) 0 (by rfl) _ _ (fun w' hw => hYr'.out w' hw) Try.underlying26 rfl (by rw [ask_ln]; exact ask_inf) ?_
    refine wpQuiet_step (fun K hK => ?_); go_simp
    refine ⟨_, fun w' hw => calls_ext hw (kA2'.out w' hw), hK _ ?_⟩; clear hK K
    iterate 4 (refine wpQuiet_step (fun K hK => ?_); go_simp; first | (refine hK _ ?_; clear hK K) | (refine ⟨_, fun _ _ => rfl, hK _ ?_⟩; clear hK K))
    refine wpQuiet_load_mid (by rfl) 26 _ (by rfl) g 0 (by rfl) _ _ (fun w' hw => hXr'.out w' hw) Try.underlying26 rfl (by rw [ask_ln]; exact ask_inf) ?_
    refine wpQuiet_step (fun K hK => ?_); go_simp
    refine ⟨_, fun w' hw => calls_ext hw (kC1'.out w' hw), hK _ ?_⟩; clear hK K
    iterate 3 (refine wpQuiet_step (fun K hK => ?_); go_simp; first | (refine hK _ ?_; clear hK K) | (refine ⟨_, fun _ _ => rfl, hK _ ?_⟩; clear hK K))
    refine wpQuiet_load_mid (by rfl) 26 _ (by rfl) (g + 1) 0 (by rfl) _ _ (fun w' hw => hYr'.out w' hw) Try.underlying26 rfl (by rw [ask_ln]; exact ask_inf) ?_
    refine wpQuiet_step (fun K hK => ?_); go_simp
    refine ⟨_, fun w' hw => calls_ext hw (kC2'.out w' hw), hK _ ?_⟩; clear hK K
    iterate 4 (refine wpQuiet_step (fun K hK => ?_); go_simp; first | (refine hK _ ?_; clear hK K) | (refine ⟨_, fun _ _ => rfl, hK _ ?_⟩; clear hK K))
    refine wpQuiet_load_cell (by rfl) 23 _ (by rfl) g 0 (by rfl) _ (fun w' hw => hXk'.out w' hw) _ Try.underlying23 rfl ?_
    iterate 4 (refine wpQuiet_step (fun K hK => ?_); go_simp; first | (refine hK _ ?_; clear hK K) | (refine ⟨_, fun _ _ => rfl, hK _ ?_⟩; clear hK K))
    refine wpQuiet_load_cell (by rfl) 23 _ (by rfl) (g + 1) 0 (by rfl) _ (fun w' hw => hYk'.out w' hw) _ Try.underlying23 rfl ?_
    iterate 3 (refine wpQuiet_step (fun K hK => ?_); go_simp; first | (refine hK _ ?_; clear hK K) | (refine ⟨_, fun _ _ => rfl, hK _ ?_⟩; clear hK K))
    refine wpQuiet_load_mid (by rfl) 26 _ (by rfl) g 0 (by rfl) _ _ (fun w' hw => hXr'.out w' hw) Try.underlying26 rfl (by rw [ask_ln]; exact ask_inf) ?_
    refine wpQuiet_load_mid (by rfl) 26 _ (by rfl) (g + 1) 0 (by rfl) _ _ (fun w' hw => hYr'.out w' hw) Try.underlying26 rfl (by rw [ask_ln]; exact ask_inf) ?_
    refine wpQuiet_step (fun K hK => ?_); go_simp
    refine ⟨_, fun w' hw => calls_ext hw (kM'.out rfl rfl w' hw), hK _ ?_⟩; clear hK K
    iterate 1 (refine wpQuiet_step (fun K hK => ?_); go_simp; first | (refine hK _ ?_; clear hK K) | (refine ⟨_, fun _ _ => rfl, hK _ ?_⟩; clear hK K))
    refine wpQuiet_nil (fun w5 hE5 => ?_)
    go_wp2_with fail
    refine (alive_end w w5 (hE'.out.trans hE5)).mono ?_
    rintro e wz ⟨rfl, hEz⟩
    go_wp2_with fail
    go_ret
    exact ⟨rfl, hEz⟩
  refine wp_region_class (Ext W) (by kernel_rfl) (by kernel_rfl) (Ext.refl _).drew ?_
  refine wpQuiet_step (fun K hK => ?_); go_simp
  refine ⟨_, fun w' hw => calls_ext hw (kAl'.out w' hw), hK _ ?_⟩; clear hK K
  iterate 3 (refine wpQuiet_step (fun K hK => ?_); go_simp; first | (refine hK _ ?_; clear hK K) | (refine ⟨_, fun _ _ => rfl, hK _ ?_⟩; clear hK K))
  refine wpQuiet_step (fun K hK => ?_); go_simp
  refine ⟨_, fun w' hw => calls_ext hw (kGr'.out w' hw), hK _ ?_⟩; clear hK K
  iterate 2 (refine wpQuiet_step (fun K hK => ?_); go_simp; first | (refine hK _ ?_; clear hK K) | (refine ⟨_, fun _ _ => rfl, hK _ ?_⟩; clear hK K))
  refine wpQuiet_load_mid (by rfl) 26 _ (by rfl) g 0 (by rfl) _ _ (fun w' hw => hXr'.out w' hw) Try.underlying26 rfl (by rw [ask_ln]; exact ask_inf) ?_
  refine wpQuiet_step (fun K hK => ?_); go_simp
  refine ⟨_, fun w' hw => calls_ext hw (kA1'.out w' hw), hK _ ?_⟩; clear hK K
  refine wpQuiet_load_mid (by rfl) 26 _ (by rfl) (g + 1) 0 (by rfl) _ _ (fun w' hw => hYr'.out w' hw) Try.underlying26 rfl (by rw [ask_ln]; exact ask_inf) ?_
  refine wpQuiet_step (fun K hK => ?_); go_simp
  refine ⟨_, fun w' hw => calls_ext hw (kA2'.out w' hw), hK _ ?_⟩; clear hK K
  iterate 4 (refine wpQuiet_step (fun K hK => ?_); go_simp; first | (refine hK _ ?_; clear hK K) | (refine ⟨_, fun _ _ => rfl, hK _ ?_⟩; clear hK K))
  refine wpQuiet_load_mid (by rfl) 26 _ (by rfl) g 0 (by rfl) _ _ (fun w' hw => hXr'.out w' hw) Try.underlying26 rfl (by rw [ask_ln]; exact ask_inf) ?_
  refine wpQuiet_step (fun K hK => ?_); go_simp
  refine ⟨_, fun w' hw => calls_ext hw (kC1'.out w' hw), hK _ ?_⟩; clear hK K
  iterate 3 (refine wpQuiet_step (fun K hK => ?_); go_simp; first | (refine hK _ ?_; clear hK K) | (refine ⟨_, fun _ _ => rfl, hK _ ?_⟩; clear hK K))
  refine wpQuiet_load_mid (by rfl) 26 _ (by rfl) (g + 1) 0 (by rfl) _ _ (fun w' hw => hYr'.out w' hw) Try.underlying26 rfl (by rw [ask_ln]; exact ask_inf) ?_
  refine wpQuiet_step (fun K hK => ?_); go_simp
  refine ⟨_, fun w' hw => calls_ext hw (kC2'.out w' hw), hK _ ?_⟩; clear hK K
  iterate 4 (refine wpQuiet_step (fun K hK => ?_); go_simp; first | (refine hK _ ?_; clear hK K) | (refine ⟨_, fun _ _ => rfl, hK _ ?_⟩; clear hK K))
  refine wpQuiet_load_cell (by rfl) 23 _ (by rfl) g 0 (by rfl) _ (fun w' hw => hXk'.out w' hw) _ Try.underlying23 rfl ?_
  iterate 4 (refine wpQuiet_step (fun K hK => ?_); go_simp; first | (refine hK _ ?_; clear hK K) | (refine ⟨_, fun _ _ => rfl, hK _ ?_⟩; clear hK K))
  refine wpQuiet_load_cell (by rfl) 23 _ (by rfl) (g + 1) 0 (by rfl) _ (fun w' hw => hYk'.out w' hw) _ Try.underlying23 rfl ?_
  iterate 3 (refine wpQuiet_step (fun K hK => ?_); go_simp; first | (refine hK _ ?_; clear hK K) | (refine ⟨_, fun _ _ => rfl, hK _ ?_⟩; clear hK K))
  refine wpQuiet_load_mid (by rfl) 26 _ (by rfl) g 0 (by rfl) _ _ (fun w' hw => hXr'.out w' hw) Try.underlying26 rfl (by rw [ask_ln]; exact ask_inf) ?_
  refine wpQuiet_load_mid (by rfl) 26 _ (by rfl) (g + 1) 0 (by rfl) _ _ (fun w' hw => hYr'.out w' hw) Try.underlying26 rfl (by rw [ask_ln]; exact ask_inf) ?_
  refine wpQuiet_step (fun K hK => ?_); go_simp
  refine ⟨_, fun w' hw => calls_ext hw (kM'.out rfl rfl w' hw), hK _ ?_⟩; clear hK K
  iterate 1 (refine wpQuiet_step (fun K hK => ?_); go_simp; first | (refine hK _ ?_; clear hK K) | (refine ⟨_, fun _ _ => rfl, hK _ ?_⟩; clear hK K))
  refine wpQuiet_nil (fun w5 hE5 => ?_)
  clear kAl' kGr' kA1' kA2' kC1' kC2' kM' esum dsz isz hsz1 hsz2 dk1 dk2
  have hl150 := great_len hG'.out.symm
  have hE6 := hE'.out.trans hE5
  go_wp2_with fail
  refine (done_any w5 l a cap (fun x hx => (hg'.out x hx).ext hE6) (by omega) (h1'.out.ext hE6)).mono ?_
  rintro e w6 ⟨st0, mb0, rfl, hS0⟩
  obtain ⟨R, hR⟩ : ∃ R, R = (doneM l).rows := ⟨_, rfl⟩
  have hRs := sortS hS0 hR
  have hRk : smallR R := by rw [hR]; exact done_small l
  have hRl : R.length ≤ 2400 := by rw [hR]; have := done_length l; omega
  have hrows := rowsM_any hS0 (by rw [← hR]; exact hRk) (by rw [← hR]; omega)
  rw [← hR] at hrows
  have hrows' := Lib.hid hrows
  have hRs' := Lib.hid hRs
  have hRk' := Lib.hid hRk
  have hX6 := hS0.ground
  clear hS0 hrows hR hRs hRk
  go_wp2_with fail
  refine hrows'.out.mono ?_
  clear hrows'
  rintro e w7 ⟨ra, rc, rfl, _, hown, hX7⟩
  have hrr := RowIs.of_own hown
  have hmk := mk_rows w7 R ra rc hrr (by omega) hRs'.out hRk'.out
  have hX := hX6.trans hX7
  have hmk' := Lib.hid hmk
  clear hown hmk hX7 hX6
  go_wp2_with fail
  refine hmk'.out.mono ?_
  clear hmk'
  rintro e w8 ⟨st, mb, rfl, S⟩
  have hmk := mk_rows w8 R ra rc (hrr.ext S.ground) (by omega) hRs'.out hRk'.out
  have hmk' := Lib.hid hmk
  clear hmk hrr
  go_wp2_with fail
  refine hmk'.out.mono ?_
  clear hmk'
  rintro e w9 ⟨st2, mb2, rfl, T⟩
  obtain ⟨ap1, ap2⟩ := S.apart T (Nat.le_refl _)
  have hT9 := T.ground
  replace T := T.past (hX.trans S.ground)
  replace S := (S.past hX).ext hT9
  clear hT9
  obtain ⟨z, hz0⟩ : ∃ z, z = w9.heap.size := ⟨_, rfl⟩
  have hz : z ≤ w9.heap.size := Nat.le_of_eq hz0
  have hzS : st < z ∧ mb < z := by rw [hz0]; exact S.lt
  have hzT : st2 < z ∧ mb2 < z := by rw [hz0]; exact T.lt
  have hx6 : x.kind ≠ 6 := by have := hK1'.out; intro h; rw [h] at this; exact Bool.noConfusion this
  have hy6 : y.kind ≠ 6 := by have := hK2'.out; intro h; rw [h] at this; exact Bool.noConfusion this
  have hm := hMt'.out.symm
  obtain ⟨e1, e2⟩ := apart_ans (R := R) (c := 1) (d := 2) (by decide) (by decide) (by decide) (by decide) (by decide) hB1'.out.symm hB2'.out.symm hy6 (fun p hp => meet_out' hm hp)
  obtain ⟨e3, e4⟩ := apart_ans (R := R) (c := 2) (d := 1) (by decide) (by decide) (by decide) (by decide) (by decide) hB2'.out.symm hB1'.out.symm hx6 (fun p hp => meet_out hm hp)
  have hcm := act_comm (R := R) hx6 hy6 hm
  have sA := Md.ans_small (m := ⟨R, zSd⟩) hRk'.out 1 1 x
  have lA := Md.ans_length ⟨R, zSd⟩ 1 1 x
  rw [e1] at sA lA
  have sB := Md.ans_small (m := ⟨R, zSd⟩) hRk'.out 2 1 y
  have lB := Md.ans_length ⟨R, zSd⟩ 2 1 y
  rw [e3] at sB lB
  have sAB := Md.ans_small sA 2 1 y
  have lAB := Md.ans_length ((⟨R, zSd⟩ : Md).act 1 1 x) 2 1 y
  rw [e2] at sAB lAB
  simp only at sA lA sB lB sAB lAB
  generalize yesW R x = Yx at *
  generalize rowsW R x = Lx at *
  generalize yesW R y = Yy at *
  generalize rowsW R y = Ly at *
  generalize ((⟨R, zSd⟩ : Md).act 1 1 x).act 2 1 y = mAB at *
  generalize ((⟨R, zSd⟩ : Md).act 2 1 y).act 1 1 x = mBA at *
  generalize (⟨R, zSd⟩ : Md).act 1 1 x = mA at *
  generalize (⟨R, zSd⟩ : Md).act 2 1 y = mB at *
  obtain ⟨nx, hnx⟩ : ∃ n, n = Lx.length := ⟨_, rfl⟩
  obtain ⟨ny, hny⟩ : ∃ n, n = Ly.length := ⟨_, rfl⟩
  have hnx' := Lib.hid hnx
  have hny' := Lib.hid hny
  have f1 := Lib.hid e1
  have f2 := Lib.hid e2
  have f3 := Lib.hid e3
  have f4 := Lib.hid e4
  have gcm := Lib.hid hcm
  have gsA := Lib.hid sA
  have gsB := Lib.hid sB
  have gsAB := Lib.hid sAB
  have llA : mA.rows.length ≤ 3000 := by omega
  have llB : mB.rows.length ≤ 3000 := by omega
  have llAB : mAB.rows.length ≤ 3000 := by omega
  clear e1 e2 e3 e4 hcm sA sB sAB lA lB lAB hx6 hy6 hm hnx hny hz0 hX
  go_upto_region 8 with fail
  have hd := do_b (c := 1) (n := 1) S hRk'.out (show R.length ≤ 50000 by omega) (hCx'.out.ext (hE6.trans S.ground)) hsx f1.out (ci := 1) (ni := 1) (v := x.row (.slice xa x.chs.length xc)) rfl rfl rfl
  have hd' := Lib.hid hd
  have xr := hXr'.out _ (hE5.trans S.ground)
  have Cp := Lib.hid S
  clear hd S
  go_wp2_with (first | (refine wpList_load_mid (by rfl) 26 (.tmp 4) (by rfl) g 0 (by rfl) (x.row (.slice xa x.chs.length xc)).toList _ xr Try.underlying26 rfl (by rw [ask_ln]; exact ask_inf) ?_) | fail)
  refine hd'.out.mono ?_
  clear hd' xr
  rintro e v1 ⟨d1, k1, rfl, r1, o1, S, hO⟩
  rw [← hnx'.out] at r1 o1 ⊢
  replace o1 : Out (fun i => i < z) (.slice d1 nx k1) := o1.mono (fun k hk => Nat.lt_of_lt_of_le hk hz)
  replace hz := Nat.le_trans hz hO.size
  replace T := T.off Cp.out ap1.symm ap2.symm hO
  clear Cp
  have b1 := heap_alloc_new v1 (.cells #[.int .i64 0, .bool Yx, .slice d1 nx k1] 32)
  have hEb := (Ext.refl v1).alloc (.cells #[.int .i64 0, .bool Yx, .slice d1 nx k1] 32)
  replace S := S.ext hEb
  replace T := T.ext hEb
  replace r1 := r1.ext hEb
  have hgz1 : z ≤ v1.heap.size := hz
  replace hz := Nat.le_trans hz hEb.size
  clear hEb hO
  go_upto_region 9 with fail
  generalize v1.alloc _ = u1 at *
  generalize v1.heap.size = g1 at *
  have hd := do_b (c := 2) (n := 1) S gsA.out (by omega) (hCy'.out.ext (hE6.trans S.ground)) hsy f2.out (ci := 2) (ni := 1) (v := y.row (.slice ya y.chs.length yc)) rfl rfl rfl
  have hd' := Lib.hid hd
  have xr := hYr'.out _ (hE5.trans S.ground)
  have Cp := Lib.hid S
  clear hd S
  go_wp2_with (first | (refine wpList_load_mid (by rfl) 26 (.tmp 5) (by rfl) (g + 1) 0 (by rfl) (y.row (.slice ya y.chs.length yc)).toList _ xr Try.underlying26 rfl (by rw [ask_ln]; exact ask_inf) ?_) | fail)
  refine hd'.out.mono ?_
  clear hd' xr
  rintro e v2 ⟨d2, k2, rfl, r2, o2, S, hO⟩
  rw [← hny'.out] at r2 o2 ⊢
  replace o2 : Out (fun i => i < z) (.slice d2 ny k2) := o2.mono (fun k hk => Nat.lt_of_lt_of_le hk hz)
  replace hz := Nat.le_trans hz hO.size
  replace T := T.off Cp.out ap1.symm ap2.symm hO
  clear Cp
  replace r1 := r1.off (o1.mono (fun k hk => by rcases hk with hk | hk <;> omega)) hO
  replace b1 := hO.row b1 (by omega)
  have b2 := heap_alloc_new v2 (.cells #[.int .i64 0, .bool Yy, .slice d2 ny k2] 32)
  have hEb := (Ext.refl v2).alloc (.cells #[.int .i64 0, .bool Yy, .slice d2 ny k2] 32)
  replace S := S.ext hEb
  replace T := T.ext hEb
  replace r1 := r1.ext hEb
  replace r2 := r2.ext hEb
  replace b1 := hEb.row b1
  have hgz2 : z ≤ v2.heap.size := hz
  replace hz := Nat.le_trans hz hEb.size
  clear hEb hO
  go_upto_region 10 with fail
  generalize v2.alloc _ = u2 at *
  generalize v2.heap.size = g2 at *
  have hd := do_b (c := 2) (n := 1) T hRk'.out (show R.length ≤ 50000 by omega) (hCy'.out.ext (hE6.trans T.ground)) hsy f3.out (ci := 2) (ni := 1) (v := y.row (.slice ya y.chs.length yc)) rfl rfl rfl
  have hd' := Lib.hid hd
  have xr := hYr'.out _ (hE5.trans T.ground)
  have Cp := Lib.hid T
  clear hd T
  go_wp2_with (first | (refine wpList_load_mid (by rfl) 26 (.tmp 5) (by rfl) (g + 1) 0 (by rfl) (y.row (.slice ya y.chs.length yc)).toList _ xr Try.underlying26 rfl (by rw [ask_ln]; exact ask_inf) ?_) | fail)
  refine hd'.out.mono ?_
  clear hd' xr
  rintro e v3 ⟨d3, k3, rfl, r3, o3, T, hO⟩
  rw [← hny'.out] at r3 o3 ⊢
  replace o3 : Out (fun i => i < z) (.slice d3 ny k3) := o3.mono (fun k hk => Nat.lt_of_lt_of_le hk hz)
  replace hz := Nat.le_trans hz hO.size
  replace S := S.off Cp.out ap1 ap2 hO
  clear Cp
  replace r1 := r1.off (o1.mono (fun k hk => by rcases hk with hk | hk <;> omega)) hO
  replace b1 := hO.row b1 (by omega)
  replace r2 := r2.off (o2.mono (fun k hk => by rcases hk with hk | hk <;> omega)) hO
  replace b2 := hO.row b2 (by omega)
  have b3 := heap_alloc_new v3 (.cells #[.int .i64 0, .bool Yy, .slice d3 ny k3] 32)
  have hEb := (Ext.refl v3).alloc (.cells #[.int .i64 0, .bool Yy, .slice d3 ny k3] 32)
  replace S := S.ext hEb
  replace T := T.ext hEb
  replace r1 := r1.ext hEb
  replace r2 := r2.ext hEb
  replace r3 := r3.ext hEb
  replace b1 := hEb.row b1
  replace b2 := hEb.row b2
  have hgz3 : z ≤ v3.heap.size := hz
  replace hz := Nat.le_trans hz hEb.size
  clear hEb hO
  go_upto_region 11 with fail
  generalize v3.alloc _ = u3 at *
  generalize v3.heap.size = g3 at *
  have hd := do_b (c := 1) (n := 1) T gsB.out (by omega) (hCx'.out.ext (hE6.trans T.ground)) hsx f4.out (ci := 1) (ni := 1) (v := x.row (.slice xa x.chs.length xc)) rfl rfl rfl
  have hd' := Lib.hid hd
  have xr := hXr'.out _ (hE5.trans T.ground)
  have Cp := Lib.hid T
  clear hd T
  go_wp2_with (first | (refine wpList_load_mid (by rfl) 26 (.tmp 4) (by rfl) g 0 (by rfl) (x.row (.slice xa x.chs.length xc)).toList _ xr Try.underlying26 rfl (by rw [ask_ln]; exact ask_inf) ?_) | fail)
  refine hd'.out.mono ?_
  clear hd' xr
  rintro e v4 ⟨d4, k4, rfl, r4, o4, T, hO⟩
  rw [← hnx'.out] at r4 o4 ⊢
  replace o4 : Out (fun i => i < z) (.slice d4 nx k4) := o4.mono (fun k hk => Nat.lt_of_lt_of_le hk hz)
  replace hz := Nat.le_trans hz hO.size
  replace S := S.off Cp.out ap1 ap2 hO
  clear Cp
  replace r1 := r1.off (o1.mono (fun k hk => by rcases hk with hk | hk <;> omega)) hO
  replace b1 := hO.row b1 (by omega)
  replace r2 := r2.off (o2.mono (fun k hk => by rcases hk with hk | hk <;> omega)) hO
  replace b2 := hO.row b2 (by omega)
  replace r3 := r3.off (o3.mono (fun k hk => by rcases hk with hk | hk <;> omega)) hO
  replace b3 := hO.row b3 (by omega)
  have b4 := heap_alloc_new v4 (.cells #[.int .i64 0, .bool Yx, .slice d4 nx k4] 32)
  have hEb := (Ext.refl v4).alloc (.cells #[.int .i64 0, .bool Yx, .slice d4 nx k4] 32)
  replace S := S.ext hEb
  replace T := T.ext hEb
  replace r1 := r1.ext hEb
  replace r2 := r2.ext hEb
  replace r3 := r3.ext hEb
  replace r4 := r4.ext hEb
  replace b1 := hEb.row b1
  replace b2 := hEb.row b2
  replace b3 := hEb.row b3
  have hgz4 : z ≤ v4.heap.size := hz
  replace hz := Nat.le_trans hz hEb.size
  clear hEb hO
  go_upto_region 12 with fail
  generalize v4.alloc _ = u4 at *
  generalize v4.heap.size = g4 at *
  replace gcm := gcm.out S.sort T.sort
  subst gcm
  have hEs : ∀ w', Ext w5 w' → Ext w w' := fun w' h => hE6.trans h
  clear o1 o2 o3 o4 f1 f2 f3 f4 hz
  obtain ⟨p0, p1, p2⟩ := re_cells b1
  obtain ⟨q0, q1, q2⟩ := re_cells b4
  have hq := sreply_any u4 0 0 Yx Yx Lx Lx d1 d4 k1 k4 (by rw [← hnx'.out]; exact r1) (by rw [← hnx'.out]; exact r4)
  rw [decide_eq_true ⟨rfl, rfl, rfl⟩, ← hnx'.out] at hq
  have hq' := Lib.hid hq
  clear hq b1 b4 r1 r4
  go_wp2_with fail
  refine hq'.out.mono ?_
  clear hq'
  rintro e w11 ⟨rfl, hEn⟩
  replace S := S.ext hEn
  replace T := T.ext hEn
  replace r2 := r2.ext hEn
  replace r3 := r3.ext hEn
  replace b2 := hEn.row b2
  replace b3 := hEn.row b3
  clear p0 p1 p2 q0 q1 q2 hEn
  obtain ⟨p0, p1, p2⟩ := re_cells b2
  obtain ⟨q0, q1, q2⟩ := re_cells b3
  have hq := sreply_any w11 0 0 Yy Yy Ly Ly d2 d3 k2 k3 (by rw [← hny'.out]; exact r2) (by rw [← hny'.out]; exact r3)
  rw [decide_eq_true ⟨rfl, rfl, rfl⟩, ← hny'.out] at hq
  have hq' := Lib.hid hq
  clear hq b2 b3 r2 r3
  go_wp2_with fail
  refine hq'.out.mono ?_
  clear hq'
  rintro e w12 ⟨rfl, hEn⟩
  replace S := S.ext hEn
  replace T := T.ext hEn
  clear p0 p1 p2 q0 q1 q2 hEn
  go_wp2_with fail
  refine (rowsM_any S gsAB.out (by omega)).mono ?_
  rintro e w13 ⟨pa, pc, rfl, _, hown1, hEn⟩
  replace S := S.ext hEn
  replace T := T.ext hEn
  clear hEn
  go_wp2_with fail
  refine (rowsM_any T gsAB.out (by omega)).mono ?_
  rintro e w14 ⟨qa, qc, rfl, _, hown2, hEn⟩
  replace S := S.ext hEn
  replace T := T.ext hEn
  have hq := srows_any w14 mAB.rows mAB.rows pa qa pc qc ((RowIs.of_own hown1).ext hEn) (RowIs.of_own hown2)
  rw [decide_eq_true rfl] at hq
  have hq' := Lib.hid hq
  clear hq hown1 hown2 hEn
  go_wp2_with fail
  refine hq'.out.mono ?_
  clear hq'
  rintro e w15 ⟨rfl, hEn⟩
  replace S := S.ext hEn
  replace T := T.ext hEn
  clear hEn
  go_wp2_with fail
  refine (st_said S).mono ?_
  rintro e w16 ⟨sa, sc, rfl, hown1, hEn⟩
  replace S := S.ext hEn
  replace T := T.ext hEn
  clear hEn
  go_wp2_with fail
  refine (st_said T).mono ?_
  rintro e w17 ⟨ta, tc, rfl, hown2, hEn⟩
  have hq := ssaids_any w17 (saidL mAB.sd) (saidL mAB.sd) sa ta sc tc ((RowIs.of_own hown1).ext hEn) (RowIs.of_own hown2)
  rw [decide_eq_true rfl] at hq
  have hq' := Lib.hid hq
  have hEf := hEs _ (T.ground.trans hEn)
  clear hq hown1 hown2 hEn
  go_wp2_with fail
  refine hq'.out.mono ?_
  clear hq'
  rintro e w18 ⟨rfl, hEn⟩
  go_wp2_with fail
  go_ret
  exact ⟨rfl, hEf.trans hEn⟩
end Go.Proofs.Ytmjoaiepfipmaaa
