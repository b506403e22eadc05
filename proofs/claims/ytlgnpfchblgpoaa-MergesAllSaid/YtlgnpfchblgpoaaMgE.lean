/- 'alive' of bucketlinelaw12. No condition. -/
import Derived.Test.YtlgnpfchblgpoaaMgD
import Derived.Deep.RegionHeld3
namespace Go.Proofs.Ytlgnpfchblgpoaa
open Go.RowKit
set_option maxRecDepth 100000
set_option maxHeartbeats 4000000
def alC : Array Value := #[.string ⟨#[97]⟩, .int .u64 9, .bool true, .string ⟨#[]⟩, .string ⟨#[97]⟩, .int .u64 5, .bool false, .string ⟨#[120]⟩, .string ⟨#[97]⟩, .int .u64 2, .bool false, .string ⟨#[121]⟩, .string ⟨#[98]⟩, .int .u64 7, .bool true, .string ⟨#[]⟩]
theorem ch0 (X : World) (c1 c2 c3 : Array Value) (e1 e2 e3 : TypeId) : (((X.alloc (.cells c1 e1)).alloc (.cells c2 e2)).alloc (.cells c3 e3)).drew.heap[X.heap.size]? = some (.cells c1 e1 (0, 0)) :=
  (((Ext.refl (X.alloc (.cells c1 e1))).alloc (.cells c2 e2)).alloc (.cells c3 e3)).drew.row (heap_alloc_new X _)
theorem ch1 (X : World) (c1 c2 c3 : Array Value) (e1 e2 e3 : TypeId) : (((X.alloc (.cells c1 e1)).alloc (.cells c2 e2)).alloc (.cells c3 e3)).drew.heap[X.heap.size + 1]? = some (.cells c2 e2 (0, 0)) := by
  have h := heap_alloc_new (X.alloc (.cells c1 e1)) (.cells c2 e2)
  rw [World.size_alloc] at h
  exact ((Ext.refl ((X.alloc (.cells c1 e1)).alloc (.cells c2 e2))).alloc (.cells c3 e3)).drew.row h
theorem ch2 (X : World) (c1 c2 c3 : Array Value) (e1 e2 e3 : TypeId) : (((X.alloc (.cells c1 e1)).alloc (.cells c2 e2)).alloc (.cells c3 e3)).drew.heap[X.heap.size + 1 + 1]? = some (.cells c3 e3 (0, 0)) := by
  have h := heap_alloc_new ((X.alloc (.cells c1 e1)).alloc (.cells c2 e2)) (.cells c3 e3)
  rw [World.size_alloc, World.size_alloc] at h
  exact (Ext.refl (((X.alloc (.cells c1 e1)).alloc (.cells c2 e2)).alloc (.cells c3 e3))).drew.row h
theorem cA0 (W : World) (c : Array Value) (e : TypeId) : (W.alloc (.cells c e)).heap[W.heap.size]? = some (.cells c e (0, 0)) := heap_alloc_new W _
theorem cB0 (W : World) (c d : Array Value) (e f : TypeId) : ((W.alloc (.cells c e)).alloc (.cells d f)).heap[W.heap.size]? = some (.cells c e (0, 0)) := ((Ext.refl (W.alloc (.cells c e))).alloc (.cells d f)).row (heap_alloc_new W _)
theorem cB1 (W : World) (c d : Array Value) (e f : TypeId) : ((W.alloc (.cells c e)).alloc (.cells d f)).heap[W.heap.size + 1]? = some (.cells d f (0, 0)) := by
  have h := heap_alloc_new (W.alloc (.cells c e)) (.cells d f)
  rwa [World.size_alloc] at h
theorem al_cells {w : World} {g : Nat} (h : w.heap[g]? = some (.cells alC 31 (0, 0))) : ∀ w', Ext w w' → w'.cell? ⟨g, 0, none⟩ = some (.string ⟨#[97]⟩) ∧ w'.cell? ⟨g, 1, none⟩ = some (.int .u64 9) ∧ w'.cell? ⟨g, 2, none⟩ = some (.bool true) ∧ w'.cell? ⟨g, 3, none⟩ = some (.string ⟨#[]⟩) ∧ w'.cell? ⟨g, 4, none⟩ = some (.string ⟨#[97]⟩) ∧ w'.cell? ⟨g, 5, none⟩ = some (.int .u64 5) ∧ w'.cell? ⟨g, 6, none⟩ = some (.bool false) ∧ w'.cell? ⟨g, 7, none⟩ = some (.string ⟨#[120]⟩) ∧ w'.cell? ⟨g, 8, none⟩ = some (.string ⟨#[97]⟩) ∧ w'.cell? ⟨g, 9, none⟩ = some (.int .u64 2) ∧ w'.cell? ⟨g, 10, none⟩ = some (.bool false) ∧ w'.cell? ⟨g, 11, none⟩ = some (.string ⟨#[121]⟩) ∧ w'.cell? ⟨g, 12, none⟩ = some (.string ⟨#[98]⟩) ∧ w'.cell? ⟨g, 13, none⟩ = some (.int .u64 7) ∧ w'.cell? ⟨g, 14, none⟩ = some (.bool true) ∧ w'.cell? ⟨g, 15, none⟩ = some (.string ⟨#[]⟩) := by
  intro w' he
  have h' := he.row h
  refine ⟨?_, ?_, ?_, ?_, ?_, ?_, ?_, ?_, ?_, ?_, ?_, ?_, ?_, ?_, ?_, ?_⟩ <;> (rw [cell_of_row _ _ _ _ 31 (0, 0) h']; rfl)
theorem alive_any (w : World) : Calls Try.prog 10 #[] w fun e w' => e = .returned (.bool true) ∧ Ext w w' := by
  go_enter Try.func10, Try.ntmps10
  go_wp2_with fail
  refine (en_E0 _).mono ?_
  rintro e wa ⟨rfl, hEa⟩
  go_wp2_with fail
  refine (en_E1 _).mono ?_
  rintro e wb ⟨rfl, hEb⟩
  go_wp2_with fail
  refine (en_E2 _).mono ?_
  rintro e wc ⟨rfl, hEc⟩
  go_wp2_with fail
  refine (en_E3 _).mono ?_
  rintro e wd ⟨rfl, hEd⟩
  have hw := ((hEa.trans hEb).trans hEc).trans hEd
  clear hEa hEb hEc hEd
  go_upto_region 2 with fail
  obtain ⟨g, hg⟩ : ∃ g, g = wd.heap.size := ⟨_, rfl⟩
  obtain ⟨X, hX⟩ : ∃ X, X = wd.alloc (.cells alC 31) := ⟨_, rfl⟩
  have hXE : Ext w X := by rw [hX]; exact hw.alloc _
  have hXg : X.heap[g]? = some (.cells alC 31 (0, 0)) := by rw [hX, hg]; exact heap_alloc_new wd _
  have hXS : SlIs X (.slice (some ⟨g, 0, none⟩) 4 4) aL := by rw [hX, hg]; exact sl_lit wd aL 4 alC (by rfl) rfl (by decide)
  have hX2 := hX.symm
  unfold alC at hX2
  rw [hX2, ← hg]
  have hX' := Lib.hid (fun w' (he : Ext X w') => And.intro he (al_cells hXg w' he))
  have hXS' := Lib.hid hXS
  clear hX hX2 hXg hg hw hXS
  go_cut [2, 3] from 19 to 37 (fun m e wx => ∃ ma mc, m = .slice ma 4 mc ∧ e = .int .i64 0 ∧ SlIs wx (.slice ma 4 mc) aL ∧ Ext X wx)
  case first =>
    go_region_held3 (fun w' => Ext X w' ∧ w'.cell? ⟨g, 0, none⟩ = some (.string ⟨#[97]⟩) ∧ w'.cell? ⟨g, 1, none⟩ = some (.int .u64 9) ∧ w'.cell? ⟨g, 2, none⟩ = some (.bool true) ∧ w'.cell? ⟨g, 3, none⟩ = some (.string ⟨#[]⟩) ∧ w'.cell? ⟨g, 4, none⟩ = some (.string ⟨#[97]⟩) ∧ w'.cell? ⟨g, 5, none⟩ = some (.int .u64 5) ∧ w'.cell? ⟨g, 6, none⟩ = some (.bool false) ∧ w'.cell? ⟨g, 7, none⟩ = some (.string ⟨#[120]⟩) ∧ w'.cell? ⟨g, 8, none⟩ = some (.string ⟨#[97]⟩) ∧ w'.cell? ⟨g, 9, none⟩ = some (.int .u64 2) ∧ w'.cell? ⟨g, 10, none⟩ = some (.bool false) ∧ w'.cell? ⟨g, 11, none⟩ = some (.string ⟨#[121]⟩) ∧ w'.cell? ⟨g, 12, none⟩ = some (.string ⟨#[98]⟩) ∧ w'.cell? ⟨g, 13, none⟩ = some (.int .u64 7) ∧ w'.cell? ⟨g, 14, none⟩ = some (.bool true) ∧ w'.cell? ⟨g, 15, none⟩ = some (.string ⟨#[]⟩)) ((refine hX'.out _ ?_; (repeat' (first | assumption | exact Ext.refl _ | (go_split_ands; assumption) | (refine Ext.drew ?_) | (refine Ext.alloc ?_ _))))) (first
      | (go_at_call 13; refine Calls.mono (al_merge _ _ _ _ (ch2 _ _ _ _ _ _ _) (sl_row [E0, E3] 2 _ (ch0 _ _ _ _ _ _ _) rfl rfl (by decide) (by decide)) (sl_row [E1, E2] 2 _ (ch1 _ _ _ _ _ _ _) rfl rfl (by decide) (by decide))) ?_; rintro e w1 ⟨ma, mc, rfl, hm, hE1⟩; have hE1x : Ext X w1 := Ext.trans (by (repeat' (first | assumption | exact Ext.refl _ | (go_split_ands; assumption) | (refine Ext.drew ?_) | (refine Ext.alloc ?_ _)))) hE1)
      | (go_at_call 13; refine Calls.mono (al_merge _ _ _ _ (ch2 _ _ _ _ _ _ _) (sl_row [E0, E3] 2 _ (ch1 _ _ _ _ _ _ _) rfl rfl (by decide) (by decide)) (sl_row [E1, E2] 2 _ (ch0 _ _ _ _ _ _ _) rfl rfl (by decide) (by decide))) ?_; rintro e w1 ⟨ma, mc, rfl, hm, hE1⟩; have hE1x : Ext X w1 := Ext.trans (by (repeat' (first | assumption | exact Ext.refl _ | (go_split_ands; assumption) | (refine Ext.drew ?_) | (refine Ext.alloc ?_ _)))) hE1)
      | fail)
    all_goals go_wp2_with fail
    all_goals go_meet
    all_goals exact ⟨_, _, rfl, rfl, hm, hE1x⟩
  case rest =>
  obtain ⟨ma, mc, rfl, rfl, hm, hE1⟩ := hcut
  go_wp2_with fail
  refine (en_F1 _).mono ?_
  rintro e w2 ⟨rfl, hE2⟩
  go_wp2_with fail
  refine (en_F2 _).mono ?_
  rintro e w3 ⟨rfl, hE3⟩
  go_wp2_with fail
  have hf1 := (sl_lit w2 [F1] 1 #[.string ⟨#[97]⟩, .int .u64 1, .bool false, .string ⟨#[120]⟩] rfl rfl (by decide)).ext hE3
  have hEw3 : Ext X w3 := (hE1.trans hE2).trans (Ext.trans ((Ext.refl w2).alloc _) hE3)
  have hmw3 : SlIs w3 (.slice ma 4 mc) aL := (hm.ext hE2).ext (Ext.trans ((Ext.refl w2).alloc _) hE3)
  have hh := heap_alloc_new (w3.alloc (.cells #[.string ⟨#[97]⟩, .int .u64 1, .bool false, .string ⟨#[121]⟩] 31)) (.cells #[.slice (some ⟨w2.heap.size, 0, none⟩) 1 1, .slice (some ⟨w3.heap.size, 0, none⟩) 1 1] 22)
  rw [World.size_alloc] at hh
  refine (al_merge2 _ (w3.heap.size + 1) _ _ hh ((hf1.ext ((Ext.refl _).alloc _)).ext ((Ext.refl _).alloc _)) ((sl_lit w3 [F2] 1 #[.string ⟨#[97]⟩, .int .u64 1, .bool false, .string ⟨#[121]⟩] rfl rfl (by decide)).ext ((Ext.refl _).alloc _))).mono ?_
  clear hh
  rintro e w4 ⟨rfl, hE4⟩
  have hEw4 : Ext X w4 := hEw3.trans (Ext.trans (((Ext.refl w3).alloc _).alloc _) hE4)
  have hmw4 : SlIs w4 (.slice ma 4 mc) aL := hmw3.ext (Ext.trans (((Ext.refl w3).alloc _).alloc _) hE4)
  clear hf1 hEw3 hmw3 hE4 hE3 hE2 hE1 hm
  go_wp2_with fail
  refine (al_see w4 9 [] 0 _ (hXS'.out.ext hEw4) al_s1 rfl).mono ?_
  rintro e w5 ⟨xa, xc, rfl, hx, hE5⟩
  go_wp2_with fail
  refine (al_see w5 5 [⟨⟨#[97]⟩, ⟨#[120]⟩⟩] 1 _ (hXS'.out.ext (hEw4.trans hE5)) al_s2 rfl).mono ?_
  rintro e w6 ⟨ya, yc, rfl, hy, hE6⟩
  go_wp2_with fail
  refine (al_see w6 4 [⟨⟨#[97]⟩, ⟨#[121]⟩⟩] 1 _ (hXS'.out.ext ((hEw4.trans hE5).trans hE6)) al_s3 rfl).mono ?_
  rintro e w7 ⟨za, zc, rfl, hz, hE7⟩
  have hEw7 := ((hEw4.trans hE5).trans hE6).trans hE7
  have hmw7 := hmw4.ext ((hE5.trans hE6).trans hE7)
  have hyw7 := hy.ext hE7
  clear hEw4 hE5 hE6 hE7 hmw4 hx hy
  go_wp2_with fail
  refine (en_G1 _).mono ?_
  rintro e w8 ⟨rfl, hE8⟩
  go_wp2_with fail
  refine (en_F1 _).mono ?_
  rintro e w9 ⟨rfl, hE9⟩
  have hEw9 := (hEw7.trans hE8).trans hE9
  have hmw9 := (hmw7.ext hE8).ext hE9
  have hyw9 := (hyw7.ext hE8).ext hE9
  have hzw9 := (hz.ext hE8).ext hE9
  clear hEw7 hmw7 hyw7 hz hE8 hE9
  go_wp2_with fail
  refine (al_see5 _ _ (sl_lit w9 [G1, F1] 2 #[.string ⟨#[98]⟩, .int .u64 1, .bool false, .string ⟨#[120]⟩, .string ⟨#[97]⟩, .int .u64 1, .bool false, .string ⟨#[120]⟩] rfl rfl (by decide))).mono ?_
  rintro e wA ⟨rfl, hEA⟩
  have hEB := Ext.trans ((Ext.refl w9).alloc _) hEA
  have hEwA := hEw9.trans hEB
  have hmwA := hmw9.ext hEB
  have hywA := hyw9.ext hEB
  have hzwA := hzw9.ext hEB
  clear hEw9 hmw9 hyw9 hzw9 hEA hEB
  go_wp2_with fail
  refine (al_same wA aL _ _ hmwA (hXS'.out.ext hEwA)).mono ?_
  rintro e wB ⟨rfl, hEB⟩
  go_wp2_with fail
  refine (al_sameR _ [⟨⟨#[97]⟩, ⟨#[120]⟩⟩] _ _ ((hywA.ext hEB).ext ((Ext.refl _).alloc _)) (rw_lit wB _ _ rfl)).mono ?_
  rintro e wC ⟨rfl, hEC⟩
  go_wp2_with fail
  refine (al_sameR _ [⟨⟨#[97]⟩, ⟨#[121]⟩⟩] _ _ (((hzwA.ext hEB).ext (Ext.trans ((Ext.refl _).alloc _) hEC)).ext ((Ext.refl _).alloc _)) (rw_lit wC _ _ rfl)).mono ?_
  rintro e wD ⟨rfl, hED⟩
  have hEwD : Ext X wD := ((hEwA.trans hEB).trans (Ext.trans ((Ext.refl _).alloc _) hEC)).trans (Ext.trans ((Ext.refl _).alloc _) hED)
  clear hEwA hEB hEC hED hmwA hywA hzwA
  go_upto_region 10 with fail
  have hEX := hEwD
  go_region_held3 (fun w' => Ext X w' ∧ w'.cell? ⟨g, 0, none⟩ = some (.string ⟨#[97]⟩) ∧ w'.cell? ⟨g, 1, none⟩ = some (.int .u64 9) ∧ w'.cell? ⟨g, 2, none⟩ = some (.bool true) ∧ w'.cell? ⟨g, 3, none⟩ = some (.string ⟨#[]⟩) ∧ w'.cell? ⟨g, 4, none⟩ = some (.string ⟨#[97]⟩) ∧ w'.cell? ⟨g, 5, none⟩ = some (.int .u64 5) ∧ w'.cell? ⟨g, 6, none⟩ = some (.bool false) ∧ w'.cell? ⟨g, 7, none⟩ = some (.string ⟨#[120]⟩) ∧ w'.cell? ⟨g, 8, none⟩ = some (.string ⟨#[97]⟩) ∧ w'.cell? ⟨g, 9, none⟩ = some (.int .u64 2) ∧ w'.cell? ⟨g, 10, none⟩ = some (.bool false) ∧ w'.cell? ⟨g, 11, none⟩ = some (.string ⟨#[121]⟩) ∧ w'.cell? ⟨g, 12, none⟩ = some (.string ⟨#[98]⟩) ∧ w'.cell? ⟨g, 13, none⟩ = some (.int .u64 7) ∧ w'.cell? ⟨g, 14, none⟩ = some (.bool true) ∧ w'.cell? ⟨g, 15, none⟩ = some (.string ⟨#[]⟩)) ((refine hX'.out _ ?_; (repeat' (first | (with_reducible assumption) | (with_reducible exact Ext.refl _) | (with_reducible refine Ext.drew ?_) | (with_reducible refine Ext.alloc ?_ _) | (go_split_ands; with_reducible assumption))))) (first
    | (go_at_call 20; (with_reducible show Calls _ _ #[_, Value.bool false, Value.slice none 0 0] _ _); (refine Calls.mono (al_left _ [] false [E0, E3] 2 0 _ none 0 (hXS'.out.ext (by repeat' (first | (with_reducible assumption) | (with_reducible exact Ext.refl _) | (with_reducible refine Ext.drew ?_) | (with_reducible refine Ext.alloc ?_ _) | (go_split_ands; with_reducible assumption)))) rfl (by decide) (nu_nil _) al_t1 rfl) ?_); rintro e w1 ⟨a1, c1, rfl, hSl1, hEl1⟩; have hEx1 : Ext X w1 := Ext.trans (by repeat' (first | (with_reducible assumption) | (with_reducible exact Ext.refl _) | (with_reducible refine Ext.drew ?_) | (with_reducible refine Ext.alloc ?_ _) | (go_split_ands; with_reducible assumption))) hEl1)
    | (go_at_call 20; (with_reducible show Calls _ _ #[_, Value.bool true, Value.slice none 0 0] _ _); (refine Calls.mono (al_left _ [] true [] 0 0 _ none 0 (hXS'.out.ext (by repeat' (first | (with_reducible assumption) | (with_reducible exact Ext.refl _) | (with_reducible refine Ext.drew ?_) | (with_reducible refine Ext.alloc ?_ _) | (go_split_ands; with_reducible assumption)))) rfl (by decide) (nu_nil _) al_t2 rfl) ?_); rintro e w1 ⟨a2, c2, rfl, hSl2, hEl2⟩; have hEx2 : Ext X w1 := Ext.trans (by repeat' (first | (with_reducible assumption) | (with_reducible exact Ext.refl _) | (with_reducible refine Ext.drew ?_) | (with_reducible refine Ext.alloc ?_ _) | (go_split_ands; with_reducible assumption))) hEl2)
    | (go_at_call 20; (with_reducible show Calls _ _ #[_, Value.bool true, Value.slice (some _) 1 1] _ _); (refine Calls.mono (al_left _ [6] true [E0, E1] 2 1 _ _ _ (hXS'.out.ext (by repeat' (first | (with_reducible assumption) | (with_reducible exact Ext.refl _) | (with_reducible refine Ext.drew ?_) | (with_reducible refine Ext.alloc ?_ _) | (go_split_ands; with_reducible assumption)))) rfl (by decide) (nu_row [6] 1 _ (by first | exact cA0 _ _ _ | exact cB0 _ _ _ _ _ | exact cB1 _ _ _ _ _) rfl rfl (by decide)) al_t3 rfl) ?_); rintro e w1 ⟨a3, c3, rfl, hSl3, hEl3⟩; have hEx3 : Ext X w1 := Ext.trans (by repeat' (first | (with_reducible assumption) | (with_reducible exact Ext.refl _) | (with_reducible refine Ext.drew ?_) | (with_reducible refine Ext.alloc ?_ _) | (go_split_ands; with_reducible assumption))) hEl3)
    | (go_at_call 20; (with_reducible show Calls _ _ #[_, Value.bool false, Value.slice (some _) 2 2] _ _); (refine Calls.mono (al_left _ [3, 1] false [E0, E2, E3] 3 2 _ _ _ (hXS'.out.ext (by repeat' (first | (with_reducible assumption) | (with_reducible exact Ext.refl _) | (with_reducible refine Ext.drew ?_) | (with_reducible refine Ext.alloc ?_ _) | (go_split_ands; with_reducible assumption)))) rfl (by decide) (nu_row [3, 1] 2 _ (by first | exact cA0 _ _ _ | exact cB0 _ _ _ _ _ | exact cB1 _ _ _ _ _) rfl rfl (by decide)) al_t4 rfl) ?_); rintro e w1 ⟨a4, c4, rfl, hSl4, hEl4⟩; have hEx4 : Ext X w1 := Ext.trans (by repeat' (first | (with_reducible assumption) | (with_reducible exact Ext.refl _) | (with_reducible refine Ext.drew ?_) | (with_reducible refine Ext.alloc ?_ _) | (go_split_ands; with_reducible assumption))) hEl4)
    | (go_at_call 14; (refine Calls.mono (al_same _ [E0, E3] _ _ (by first | with_reducible assumption | exact SlIs.ext (by with_reducible assumption) ((Ext.refl _).alloc _)) (by first | exact sl_row [E0, E3] 2 _ (by first | exact cA0 _ _ _ | exact cB0 _ _ _ _ _ | exact cB1 _ _ _ _ _) rfl rfl (by decide) (by decide) | exact SlIs.ext (sl_row [E0, E3] 2 _ (by first | exact cA0 _ _ _ | exact cB0 _ _ _ _ _ | exact cB1 _ _ _ _ _) rfl rfl (by decide) (by decide)) hEl1)) ?_); rintro e w1 ⟨rfl, hEs1⟩; have hEy1 : Ext X w1 := Ext.trans (by repeat' (first | (with_reducible assumption) | (with_reducible exact Ext.refl _) | (with_reducible refine Ext.drew ?_) | (with_reducible refine Ext.alloc ?_ _) | (go_split_ands; with_reducible assumption))) hEs1)
    | (go_at_call 14; (refine Calls.mono (al_same _ [E0, E1] _ _ (by first | with_reducible assumption | exact SlIs.ext (by with_reducible assumption) ((Ext.refl _).alloc _)) ((hXS'.out.take rfl (j := 2) (by decide)).ext (by repeat' (first | (with_reducible assumption) | (with_reducible exact Ext.refl _) | (with_reducible refine Ext.drew ?_) | (with_reducible refine Ext.alloc ?_ _) | (go_split_ands; with_reducible assumption))))) ?_); rintro e w1 ⟨rfl, hEs2⟩; have hEy2 : Ext X w1 := Ext.trans (by repeat' (first | (with_reducible assumption) | (with_reducible exact Ext.refl _) | (with_reducible refine Ext.drew ?_) | (with_reducible refine Ext.alloc ?_ _) | (go_split_ands; with_reducible assumption))) hEs2)
    | (go_at_call 14; (refine Calls.mono (al_same _ [E0, E2, E3] _ _ (by first | with_reducible assumption | exact SlIs.ext (by with_reducible assumption) ((Ext.refl _).alloc _)) (by first | exact sl_row [E0, E2, E3] 3 _ (by first | exact cA0 _ _ _ | exact cB0 _ _ _ _ _ | exact cB1 _ _ _ _ _) rfl rfl (by decide) (by decide) | exact SlIs.ext (sl_row [E0, E2, E3] 3 _ (by first | exact cA0 _ _ _ | exact cB0 _ _ _ _ _ | exact cB1 _ _ _ _ _) rfl rfl (by decide) (by decide)) hEl4)) ?_); rintro e w1 ⟨rfl, hEs3⟩; have hEy3 : Ext X w1 := Ext.trans (by repeat' (first | (with_reducible assumption) | (with_reducible exact Ext.refl _) | (with_reducible refine Ext.drew ?_) | (with_reducible refine Ext.alloc ?_ _) | (go_split_ands; with_reducible assumption))) hEs3)
    | fail)
  all_goals go_wp2_with fail
  all_goals go_ret
  all_goals exact ⟨rfl, hXE.trans (by assumption)⟩
end Go.Proofs.Ytlgnpfchblgpoaa
