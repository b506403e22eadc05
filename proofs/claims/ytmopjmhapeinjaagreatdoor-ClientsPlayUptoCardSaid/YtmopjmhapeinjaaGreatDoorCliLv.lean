/- The chapter's client: bucketlinelaw20.lives. No condition. -/
import Derived.Test.YtmopjmhapeinjaaGreatDoorCli4
namespace Go.Proofs.YtmopjmhapeinjaaGreatDoor
open Go.RowKit
def aGet : Ak := ⟨5, ⟨#[97]⟩, ⟨#[]⟩, ⟨#[]⟩, false, ⟨#[]⟩, 0, []⟩
theorem aGet_ok : aGet.okB = true := by kernel_rfl
theorem aGet_small : aGet.small := by unfold Ak.small aGet; decide
theorem aGet_chs (w : World) : ChsAt w aGet.chs none 0 := ⟨RowIs.nil _ _ _ _ (fun _ => rfl), by decide, fun c hc => by cases hc⟩
theorem msg_cells {W : World} {g : Nat} {id to lv num : Int} {v : Value} (h : W.heap[g]? = some (.cells (msgRow id to lv num v) 63 (0, 0))) :
    W.cell? ⟨g, 0, none⟩ = some (.int .u8 1) ∧ W.cell? ⟨g, 1, none⟩ = some (.int .u8 (16 + id)) ∧ W.cell? ⟨g, 2, none⟩ = some (.int .u8 to) ∧ W.cell? ⟨g, 4, none⟩ = some (.int .u8 lv) ∧ W.cell? ⟨g, 5, none⟩ = some (.int .u32 num) ∧ W.cell? ⟨g, 10, none⟩ = some v := by
  refine ⟨?_, ?_, ?_, ?_, ?_, ?_⟩ <;> (rw [cell_of_row _ _ _ _ 63 (0, 0) h]; rfl)
set_option maxRecDepth 100000 in
set_option maxHeartbeats 2000000 in
theorem clives_any (w : World) : Calls Tryz.prog 5 #[] w fun e w' => e = .returned (.bool true) ∧ Ext w w' := by
  go_enter Tryz.func5, Tryz.ntmps5
  go_wp2_with fail
  refine (cnew_ok w 1 (by decide) (by decide)).mono ?_
  rintro e w0 ⟨rfl, hw0⟩
  have hC0 : ClAt w0 w.heap.size 1 0 none := by rw [hw0]; exact heap_alloc_new _ _
  have hE0 : Ext w w0 := by rw [hw0]; exact (Ext.refl _).alloc _
  obtain ⟨c, hc⟩ : ∃ c, c = w.heap.size := ⟨_, rfl⟩
  rw [← hc] at hC0 ⊢
  have hc' := Lib.hid hc
  clear hw0 hc
  go_wp2_with (first | (refine wpList_store_ask (by rfl) (.tmp 3) (.tmp 20) (by rfl) w0 aGet none 0 0 (by rfl) (by rfl) ?_; go_loud (obtain ⟨W2, hW2⟩ : ∃ W2, W2 = w0.alloc (.cells (aGet.row (.slice none 0 0)) 50) := ⟨_, rfl⟩; have hb2 : W2.heap[w0.heap.size]? = some (.cells (aGet.row (.slice none 0 0)) 50 (0, 0)) := (congrArg (fun z => z.heap[w0.heap.size]?) hW2).trans (heap_alloc_new _ _); have hE2 : Ext w0 W2 := hW2 ▸ (Ext.refl _).alloc _; rw [← hW2]; clear hW2; obtain ⟨hrg2, _, _⟩ := ask_cells hb2)) | (refine wpList_load_mid (by rfl) 50 (.tmp 3) (by rfl) w0.heap.size 0 (by rfl) (aGet.row (.slice none 0 0)).toList _ hrg2 Tryz.underlying50 rfl (by rw [ask_len]; exact info_ask) ?_) | fail)
  have hcg : c < w0.heap.size := (Array.getElem?_eq_some_iff.1 hC0).1
  obtain ⟨ag, hag⟩ : ∃ ag, ag = w0.heap.size := ⟨_, rfl⟩
  rw [← hag] at hb2 hcg hrg2 ⊢
  have hC2 := hC0.ext hE2
  have hE2' := hE0.trans hE2
  clear hag hE2 hE0 hC0
  refine (cask_ok W2 c 1 0 aGet none 0 1 hC2 (by decide) (by decide) (by decide) (aGet_chs _) aGet_small aGet_ok (.inl rfl) (fun _ _ => aGet_chs _)).mono ?_
  rintro e w3 ⟨rfl, g, ga, gc, hC3, hW3, hg3, hga, hO3⟩
  have hb3 : w3.heap[ag]? = some (.cells (aGet.row (.slice none 0 0)) 50 (0, 0)) := by rw [hO3.block ag (Array.getElem?_eq_some_iff.1 hb2).1 (by omega)]; exact hb2
  obtain ⟨hrg3, _, _⟩ := ask_cells hb3
  have hO3' : OffB (fun k => k = c) w w3 := (OffB.of_ext hE2').trans hO3
  clear hb2 hrg2 hC2 hO3 hE2' hg3 hga
  go_wp2_with (first | (refine wpList_load_mid (by rfl) 50 (.tmp 3) (by rfl) ag 0 (by rfl) (aGet.row (.slice none 0 0)).toList _ hrg3 Tryz.underlying50 rfl (by rw [ask_len]; exact info_ask) ?_) | fail)
  refine (cask_state w3 c 1 (0 + 1) ⟨g, 0, none⟩ aGet none 0 1 hC3 (by decide) (aGet_chs _) aGet_small aGet_ok (.inl rfl)).mono ?_
  rintro e w4 ⟨rfl, hE4⟩
  have hC4 := hC3.ext hE4
  have hW4 := hW3.ext hE4
  have hO4 := hO3'.trans (.of_ext hE4)
  clear hC3 hW3 hO3' hrg3 hb3
  go_wp2_with fail
  refine (sends_waits w4 c g 1 (0 + 1) 2 aGet 1 ga gc hC4 hW4 (by decide) (by decide)).mono ?_
  rintro e w5 ⟨gm, rfl, ⟨gi, gia, hm5, hi5, _, _, _, _⟩, hE5⟩
  have hC5 := hC4.ext hE5
  have hW5 := hW4.ext hE5
  have hO5 := hO4.trans (.of_ext hE5)
  clear hC4 hW4 hO4 hi5
  go_wp2_with fail
  refine (came_no w5 c g 1 (0 + 1) aGet 1 ga gc ⟨2, 0, 17, 0, 1, 2, 0, 0⟩ (.slice none 0 0) (.slice none 0 0) (.slice none 0 0) (.slice none 0 0) (.slice none 0 0) (.int .i64 0) (.bool false) (.slice none 0 0) hC5 hW5 (by decide) (by decide) rfl (by decide) (.inl (by decide))).mono ?_
  rintro e w6 ⟨rfl, hE6⟩
  have hm6 := hE6.row hm5
  have hC6 := hC5.ext hE6
  have hW6 := hW5.ext hE6
  have hO6 := hO5.trans (.of_ext hE6)
  clear hC5 hW5 hO5 hm5
  go_wp2_with fail
  refine (came_yes w6 c g 1 (0 + 1) aGet 1 ga gc ⟨2, 0, 17, 0, 1, 1, 0, 0⟩ (.slice none 0 0) (.slice none 0 0) (.slice none 0 0) (.slice none 0 0) (.slice none 0 0) (.int .i64 0) (.bool false) (.slice none 0 0) hC6 hW6 (by decide) (by decide) rfl (by decide) (by decide) rfl).mono ?_
  rintro e w7 ⟨rfl, hC7, hO67⟩
  have hgc : gm ≠ c := by
    intro h; subst h
    unfold ClAt at hC6
    rw [hC6] at hm6
    injection hm6 with h1; injection h1 with _ h2; exact absurd h2 (by decide)
  have hm7 : w7.heap[gm]? = _ := (hO67.block gm (Array.getElem?_eq_some_iff.1 hm6).1 hgc).trans hm6
  have hO7 := hO6.trans hO67
  clear hm6 hC6 hW6 hO6
  obtain ⟨_, m1, m2, _, m5, _⟩ := msg_cells hm7
  go_wp2_with fail
  refine (cnew_arg w7 9 (.inr (by decide))).mono ?_
  rintro e w8 ⟨rfl, rfl⟩
  go_wp2_with fail
  refine (drops_idle w7 c 1 (0 + 1) hC7 (by decide)).mono ?_
  rintro e w9 ⟨rfl, rfl⟩
  go_wp2_with fail
  refine (drops_nil w7).mono ?_
  rintro e w9 ⟨rfl, rfl⟩
  go_wp2_with fail
  go_ret
  exact ⟨rfl, hO7.ext (fun k hk hkc => by have := hc'.out; omega)⟩
end Go.Proofs.YtmopjmhapeinjaaGreatDoor
