/- What changes an ask would bring. No condition. -/
import Derived.Test.YtmjoaiepfipmaaaMod9
import Derived.Test.YtmjoaiepfipmaaaKit6
namespace Go.Proofs.Ytmjoaiepfipmaaa
open Go.RowKit
set_option maxRecDepth 100000
set_option maxHeartbeats 800000
def chgL (rs : List (Rw × Nat)) (x : Ak) : List Ch :=
  if x.okB = true then (if x.kind = 1 then [⟨x.key, x.val, false⟩] else if x.kind = 2 then [⟨x.key, ⟨#[]⟩, true⟩] else if x.kind = 4 then x.chs else if x.kind = 3 then (if casB (rs.find? (keyIs x.key)) x = true then [⟨x.key, x.val, false⟩] else []) else []) else []
def ChgE (l : List Ch) (w : World) (e : Ending) (w' : World) : Prop := ∃ a cap, e = .returned (.slice a l.length cap) ∧ RowIs w' 3 (.slice a l.length cap) l.length (l.flatMap Ch.cells) ∧ Ext w w'
theorem chg_nil {w w' : World} (h : Ext w w') : ChgE [] w (.returned (.slice none 0 0)) w' := ⟨none, 0, rfl, RowIs.nil _ _ _ _ (fun _ => rfl), h⟩
theorem chg_one (w W : World) (h : Ext w W) (c : Ch) : ChgE [c] w (.returned (.slice (some ⟨W.heap.size, 0, none⟩) 1 1)) (W.alloc (.cells #[.string c.key, .string c.val, .bool c.gone] 79)) := by
  refine ⟨_, 1, rfl, ⟨rfl, by simp, .inr ⟨_, 0, 1, rfl, by simp, fun i hi => ?_⟩⟩, h.alloc _⟩
  have hi : i < 3 := by simpa using hi
  rw [Nat.zero_add, cell_of_row _ _ i _ 79 (0, 0) (heap_alloc_new W _)]
  obtain rfl | rfl | rfl : i = 0 ∨ i = 1 ∨ i = 2 := by omega
  all_goals rfl
theorem field_yes (w : World) (b : Bool) : (Instr.field 32 (.agg #[.int .i64 0, .bool b, .slice none 0 0]) 1).run Try.prog w = .ok (.bool b) w := by kernel_rfl
theorem ask_rng {W : World} {g : Nat} {x : Ak} {v : Value} (h : W.heap[g]? = some (.cells (x.row v) 26 (0, 0))) : W.rangeAt g 0 (x.row v).toList := fun j u hu => by
  rw [Nat.zero_add, cell_of_row _ _ j _ 26 (0, 0) h, ← hu]; simp
theorem ask_ln (x : Ak) (v : Value) : (x.row v).toList.length = 8 := rfl
theorem ask_inf : (Try.prog.info? 26).map (·.size) = some 8 := by kernel_rfl
theorem st_changes {w0 w : World} {st : Nat} {rs : List (Rw × Nat)} {sd : List Sv} (hS : StX w0 w st rs sd) (x : Ak) (a : Option Addr) (cap : Nat) (h : ChsAt w x.chs a cap) (hs : x.small) :
    Calls Try.prog 15 #[.pointer (some ⟨st, 0, none⟩), .agg (x.row (.slice a x.chs.length cap))] w (ChgE (chgL rs x) w) := by
  obtain ⟨L, hL⟩ : ∃ L, L = chgL rs x := ⟨_, rfl⟩
  rw [← hL]
  unfold chgL at hL
  have hL' := Lib.hid hL
  clear hL
  obtain ⟨W, hW⟩ : ∃ W, W = w.alloc (.cells (x.row (.slice a x.chs.length cap)) 26) := ⟨_, rfl⟩
  have hE : Ext w W := by rw [hW]; exact (Ext.refl _).alloc _
  have hX : W.heap[w.heap.size]? = some (.cells (x.row (.slice a x.chs.length cap)) 26 (0, 0)) := by rw [hW]; exact heap_alloc_new w _
  have hW' := Lib.hid hW
  have hX' := Lib.hid hX
  have hrg := ask_rng hX
  have hc := askc hX
  clear hW hX
  unfold Ak.row at hW' hrg
  unfold Ak.row
  go_enter Try.func15, Try.ntmps15
  go_upto_region 1 with fail
  rw [← hW'.out]
  clear hW'
  go_wp2_with fail
  refine (st_there (hS.ext hE)).mono ?_
  rintro e w' ⟨rfl, rfl⟩
  go_wp2_with (first | (refine wpList_load_mid (by rfl) 26 (.tmp 3) (by rfl) w.heap.size 0 (by rfl) (x.row (.slice a x.chs.length cap)).toList _ hrg Try.underlying26 rfl (by rw [ask_ln]; exact ask_inf) ?_) | (refine wpList_load_mid_on (by rfl) 26 (.tmp 3) (by rfl) w.heap.size 0 (by rfl) (x.row (.slice a x.chs.length cap)).toList _ hrg Try.underlying26 rfl (by rw [ask_ln]; exact ask_inf) ?_) | fail)
  refine (check_any _ x a cap (h.ext hE) hs).mono ?_
  rintro e w1 ⟨rfl, hE1⟩
  have hE2 := hE.trans hE1
  have hL := hL'.out
  clear hL' hrg hc
  cases hok : x.okB
  · rw [hok] at hL
    have hL2 : L = [] := by simpa using hL
    clear hok hL
    go_wp2_with fail
    go_ret
    rw [hL2]
    exact chg_nil hE2
  · rw [if_pos hok] at hL
    obtain ⟨c0, c1, c2, _, _, _, _, c7⟩ := askc (hE1.row hX'.out)
    have hrg := ask_rng (hE1.row hX'.out)
    have hL3 := Lib.hid hL
    clear hL hok
    by_cases k1 : x.kind = 1
    · have hL := hL3.out
      rw [if_pos k1] at hL
      have hL4 := Lib.hid hL
      clear hL hL3
      go_wp2_with fail
      go_ret
      rw [hL4.out]
      exact chg_one w w1 hE2 ⟨x.key, x.val, false⟩
    by_cases k2 : x.kind = 2
    · have hL := hL3.out
      rw [if_neg k1, if_pos k2] at hL
      have hL4 := Lib.hid hL
      clear hL hL3
      go_wp2_with fail
      go_ret
      rw [hL4.out]
      exact chg_one w w1 hE2 ⟨x.key, ⟨#[]⟩, true⟩
    by_cases k4 : x.kind = 4
    · have hL := hL3.out
      rw [if_neg k1, if_neg k2, if_pos k4] at hL
      have hL4 := Lib.hid hL
      clear hL hL3
      go_wp2_with fail
      refine (clone_ch _ x.chs a cap (h.ext hE2)).mono ?_
      rintro e w2 ⟨a', cap', rfl, _, hown, hE3⟩
      go_wp2_with fail
      go_ret
      rw [hL4.out]
      exact ⟨a', cap', rfl, RowIs.of_own hown, hE2.trans hE3⟩
    by_cases k3 : x.kind = 3
    · have hL := hL3.out
      rw [if_neg k1, if_neg k2, if_neg k4, if_pos k3] at hL
      have hL4 := Lib.hid hL
      clear hL hL3
      unfold Ak.row at hrg
      go_wp2_with (first | (refine wpList_load_mid (by rfl) 26 (.tmp 3) (by rfl) w.heap.size 0 (by rfl) (x.row (.slice a x.chs.length cap)).toList _ hrg Try.underlying26 rfl (by rw [ask_ln]; exact ask_inf) ?_) | fail)
      refine (st_cas (hS.ext hE2) x hs.2.1 (.slice a x.chs.length cap)).mono ?_
      rintro e w2 ⟨rfl, hE3⟩
      replace c1 := hE3.cell c1
      replace c2 := hE3.cell c2
      cases hb : casB (rs.find? (keyIs x.key)) x
      · have hL5 := hL4.out
        rw [hb] at hL5
        have hL6 : L = [] := by simpa using hL5
        clear hL4 hL5 hb
        have hfy := field_yes
        unfold reB
        go_wp2_with fail
        go_ret
        rw [hL6]
        exact chg_nil (hE2.trans hE3)
      · have hL5 := hL4.out
        rw [if_pos hb] at hL5
        have hL6 := Lib.hid hL5
        clear hL4 hL5 hb
        have hfy := field_yes
        unfold reB
        go_wp2_with fail
        go_ret
        rw [hL6.out]
        exact chg_one w w2 (hE2.trans hE3) ⟨x.key, x.val, false⟩
    · have hL := hL3.out
      rw [if_neg k1, if_neg k2, if_neg k4, if_neg k3] at hL
      have hL4 := Lib.hid hL
      clear hL hL3
      go_wp2_with fail
      go_ret
      rw [hL4.out]
      exact chg_nil hE2
end Go.Proofs.Ytmjoaiepfipmaaa
