/- MergesSee: the walk. No condition. -/
import Derived.Test.YtefllplgbalbkaaGreatDoorRf2
import Derived.Test.YtefllplgbalbkaaGreatDoorBkS
import Derived.Test.YtefllplgbalbkaaGreatDoorMgM
import Derived.Test.YtefllplgbalbkaaGreatDoorMgC
namespace Go.Proofs.YtefllplgbalbkaaGreatDoor
open Go.RowKit
set_option maxRecDepth 100000
set_option maxHeartbeats 2000000
theorem info_book : (Tryz.prog.info? 46).map (·.size) = some 14 := by kernel_rfl
theorem many_len {l : List En} (h : manyB l = false) : l.length ≤ 150 := by
  unfold manyB at h
  rw [Bool.or_eq_false_iff, decide_eq_false_iff_not] at h
  omega
def RwIs (w : World) (v : Value) (l : List Rw) : Prop := ∃ a cap, v = .slice a l.length cap ∧ RowIs w 2 v l.length (l.flatMap rwL)
theorem sameR_ok (w : World) (l l' : List Rw) (v v' : Value) (h : RwIs w v l) (h' : RwIs w v' l') : Calls Tryz.prog 10 #[v, v'] w fun e w' => e = .returned (.bool (decide (l = l'))) ∧ Ext w w' := by
  obtain ⟨a, c, rfl, h1⟩ := h
  obtain ⟨a', c', rfl, h2⟩ := h'
  exact srows_any w l l' a a' c c' h1 h2
/-- What See answers: rows, and whether it was refused. -/
def seeA (l : List En) (s : Nat) : List Rw := if risesB l then seeL l s else []
def seeC (l : List En) : Int := if risesB l then 0 else 1
def SeeU (w : World) (l : List En) (s : Nat) (e : Ending) (w' : World) : Prop := ∃ a n cap, e = .returned (.tuple #[.slice a n cap, .int .i64 (seeC l)]) ∧ n = (seeA l s).length ∧ OwnC w' w.heap.size 74 2 (.slice a n cap) n ((seeA l s).flatMap rwL) ∧ Ext w w'
theorem SeeE.u {w w' : World} {l : List En} {s : Nat} {e : Ending} (h : SeeE w l s e w') : SeeU w l s e w' := by
  obtain ⟨hE, h1, h2⟩ := h
  unfold SeeU seeA seeC
  cases hr : risesB l with
  | false => exact ⟨none, 0, 0, h1 hr, rfl, OwnC.nil _ _ _ _, hE⟩
  | true =>
    obtain ⟨a, cap, h3, h4⟩ := h2 hr
    exact ⟨a, _, cap, h3, rfl, h4, hE⟩
theorem see_u (w : World) (l : List En) (s : Nat) (a : Option Addr) (cap n : Nat) (hnl : n = l.length) (hR : RowIs w 4 (.slice a n cap) n (l.flatMap enL)) (hn : n ≤ 1000) : Calls Tryz.prog 8 #[.slice a n cap, .int .u64 (s : Int)] w (SeeU w l s) := by
  subst hnl
  exact (see_any w l s a cap ⟨a, cap, rfl, hR⟩ (by omega)).mono fun _ _ h => h.u
theorem seeR_u (w : World) (l : List En) (s : Nat) (a : Option Addr) (cap n : Nat) (hnl : n = l.length) (hg : ∀ x ∈ l, x.small) (hR : RowIs w 4 (.slice a n cap) n (l.flatMap enL)) (hn : n ≤ 1000) : Calls Tryz.prog 9 #[.slice a n cap, .int .u64 (s : Int)] w (SeeU w l s) :=
  (seeR_any w l s a cap n hnl hg hR hn).mono fun _ _ h => SeeE.u h
theorem see_len (l : List En) (s : Nat) : (seeA l s).length ≤ l.length := by
  unfold seeA
  split
  · exact Nat.le_trans (List.length_filterMap_le _ _) (keyG_len l)
  · exact Nat.zero_le _
/-- Rows made at different times lie in different blocks. -/
theorem sep_of {w w' : World} {base b : Nat} {e e' : TypeId} {z z' n n' : Nat} {v v' : Value} {xs xs' : List Value} (h : OwnC w base e z v n xs) (h' : OwnC w' b e' z' v' n' xs') (hb : w.heap.size ≤ b) : Sep v' v := fun g hg hg' => by
  have h1 := (h.lt g hg').2
  have h2 := (h'.lt g hg).1
  omega
theorem OwnC.bmono {w : World} {base b : Nat} {e : TypeId} {z n : Nat} {v : Value} {xs : List Value} (h : OwnC w b e z v n xs) (hb : base ≤ b) : OwnC w base e z v n xs := by
  obtain ⟨hl, h | ⟨g, cap, cur, h1, h2, h3⟩⟩ := h
  · exact ⟨hl, .inl h⟩
  · exact ⟨hl, .inr ⟨g, cap, cur, h1, Nat.le_trans hb h2, h3⟩⟩
theorem mergesSee_walk (w : World) (v0 : Value) (o0 : ∃ n, OKC Tryz.prog w n 22 [v0]) (s0 : Int) (o1 : ∃ n, OKC Tryz.prog w n 23 [.int .u64 s0]) :
    Calls Tryz.prog 3 #[v0, .int .u64 s0] w fun e w' => e = .returned (.bool true) ∧ Ext w w' := by
  obtain ⟨l, a, cap, rfl, hg, h1, hby⟩ := okc_entries o0
  obtain ⟨s, rfl, hs⟩ := okc_nat Tryz.underlying23 (fun _ h => wf_u64 h) o1
  have hmany := Lib.hid (many_any w l a cap (fun x hx => (hg x hx).1) (by omega) h1)
  obtain ⟨n, hn⟩ : ∃ n, n = l.length := ⟨_, rfl⟩
  rw [← hn] at h1 hby hmany ⊢
  have hn' := Lib.hid hn
  have hR' := Lib.hid h1
  have hg' := Lib.hid (fun x hx => (hg x hx).1)
  clear o0 o1 hg h1 hby hn hs
  go_enter Tryz.func3, Tryz.ntmps3
  go_wp2_with fail
  refine hmany.out.mono ?_
  rintro e w1 ⟨rfl, hE1⟩
  clear hmany
  cases hm : manyB l with
  | true =>
    clear hm
    go_wp2_with fail
    go_ret
    exact ⟨rfl, hE1⟩
  | false =>
    have hml := many_len hm
    rw [← hn'.out] at hml
    clear hm
    go_wp2_with fail
    refine (twinE_any w1 l a cap n hn'.out (hR'.out.ext hE1) (by omega)).mono ?_
    rintro e w2 ⟨tb, tc, rfl, hT, hE2⟩
    have hTo := Lib.hid (hT.own hn'.out)
    have hT' := Lib.hid hT
    clear hT
    go_wp2_with fail
    refine (see_u w2 l s _ tc n hn'.out hTo.out.row (by omega)).mono ?_
    rintro e w3 ⟨aa, an, ac, rfl, han, hA, hE3⟩
    have hA' := Lib.hid hA
    have han' := Lib.hid han
    have hT3 := Lib.hid (hT'.out.ext hE3)
    clear hA han
    go_wp2_with fail
    refine (see_u w3 l s _ tc n hn'.out (hT3.out.own hn'.out).row (by omega)).mono ?_
    rintro e w4 ⟨ba, bn, bc, rfl, hbn, hB, hE4⟩
    have hB' := Lib.hid hB
    have hbn' := Lib.hid hbn
    have hT4 := Lib.hid (hT3.out.ext hE4)
    have hA4 := Lib.hid (hA'.out.ext hE4)
    have hE14 := (hE1.trans hE2).trans (hE3.trans hE4)
    clear hB hbn
    go_wp2_with fail
    refine (seeR_u w4 l s a cap n hn'.out hg'.out (hR'.out.ext hE14) (by omega)).mono ?_
    rintro e w5 ⟨ca, cn, cc, rfl, hcn, hC, hE5⟩
    have hE15 := hE14.trans hE5
    have hA5 := Lib.hid (hA4.out.ext hE5)
    have hB5 := Lib.hid (hB'.out.ext hE5)
    have hT5 := Lib.hid (hT4.out.ext hE5)
    have hC5 := Lib.hid hC
    have hcn' := Lib.hid hcn
    have rw_of : Hid (∀ (W : World) (b' : Nat) (v : Option Addr) (m c : Nat), m = (seeA l s).length → OwnC W b' 74 2 (.slice v m c) m ((seeA l s).flatMap rwL) → RwIs W (.slice v m c) (seeA l s)) := Lib.hid (fun W b' v m c hm h => by subst hm; exact ⟨v, c, rfl, h.row⟩)
    clear hC hcn
    go_wp2_with fail
    refine (sameR_ok w5 _ _ _ _ (rw_of.out w5 _ _ _ _ han'.out hA5.out) (rw_of.out w5 _ _ _ _ hcn'.out hC5.out)).mono ?_
    rintro e w6 ⟨rfl, hE6⟩
    rw [decide_eq_true (rfl : seeA l s = seeA l s)]
    have hB6 := Lib.hid (hB5.out.ext hE6)
    have hC6 := Lib.hid (hC5.out.ext hE6)
    go_wp2_with fail
    refine (sameR_ok w6 _ _ _ _ (rw_of.out w6 _ _ _ _ hbn'.out hB6.out) (rw_of.out w6 _ _ _ _ hcn'.out hC6.out)).mono ?_
    rintro e w7 ⟨rfl, hE7⟩
    rw [decide_eq_true (rfl : seeA l s = seeA l s)]
    have hE57 := hE6.trans hE7
    have hT7 := Lib.hid (hT5.out.ext hE57)
    have hR7 := Lib.hid (hR'.out.ext (hE15.trans hE57))
    go_wp2_with fail
    refine (leftE_any w7 l _ tb tc a cap n hn'.out hR7.out (by omega) hT7.out).mono ?_
    rintro e w8 ⟨rfl, hE8⟩
    have hE58 := hE57.trans hE8
    -- the book
    have s2 := hE2.size
    have s3 := hE3.size
    have s4 := hE4.size
    have s5 := hE5.size
    have s1 := hE1.size
    have s8 := hE58.size
    obtain ⟨W9, hW9⟩ : ∃ W, W = w8.alloc (.cells (bkRow 0 fun _ => (.slice none 0 0, [])) 46) := ⟨_, rfl⟩
    have hE9 : Ext w5 W9 := by rw [hW9]; exact hE58.alloc _
    have hw9 : W9.heap.size = w8.heap.size + 1 := by rw [hW9]; simp
    have hBk := Lib.hid (BkS.start (base := w.heap.size) (g := w8.heap.size) (w := W9) (by rw [hW9]; exact heap_alloc_new w8 _) (by omega))
    have hx : Ext w W9 := hE15.trans hE9
    obtain ⟨g, hgg⟩ : ∃ g, g = w8.heap.size := ⟨_, rfl⟩
    have hT9 := Lib.hid (((hT5.out.ext hE9).own hn'.out).bmono s1)
    have hA9 := Lib.hid ((hA5.out.ext hE9).bmono (base := w.heap.size) (by omega))
    have hB9 := Lib.hid ((hB5.out.ext hE9).bmono (base := w.heap.size) (by omega))
    have gT := Lib.hid (fun q hq => show q < g by have := (hT5.out.own hn'.out).lt q hq; omega)
    have gA := Lib.hid (fun q hq => show q < g by have := hA5.out.lt q hq; omega)
    have gB := Lib.hid (fun q hq => show q < g by have := hB5.out.lt q hq; omega)
    have sAT := Lib.hid (sep_of hTo.out hA'.out (Nat.le_refl _))
    have sBT := Lib.hid (sep_of (hT3.out.own hn'.out) hB'.out (Nat.le_refl _))
    have sBA := Lib.hid (sep_of hA'.out hB'.out (Nat.le_refl _))
    have hal : an ≤ 1000 := by have := see_len l s; rw [han'.out]; have := hn'.out; omega
    have hbl : bn ≤ 1000 := by have := see_len l s; rw [hbn'.out]; have := hn'.out; omega
    have hW9' := Lib.hid hW9
    rw [← hgg] at hBk
    have hgg' := Lib.hid hgg
    clear hE1 hE2 hE3 hE4 hE14 hE5 hE15 hA5 hB5 hT5 hC5 hB6 hC6 hT7 hR7 hE6 hE7 hE57 hE8 hE58 hTo hT' hA' han' hT3 hB' hbn' hT4 hA4 hcn' rw_of s1 s2 s3 s4 s5 s8 hW9 hE9 hw9 hgg
    have hW9f : W9 = w8.alloc (.cells #[.int .i64 0, .slice none 0 0, .slice none 0 0, .slice none 0 0, .slice none 0 0, .slice none 0 0, .slice none 0 0, .slice none 0 0, .slice none 0 0, .slice none 0 0, .slice none 0 0, .slice none 0 0, .slice none 0 0, .slice none 0 0] 46) := hW9'.out
    have hW9g := Lib.hid hW9f
    clear hW9f
    go_wp2_with fail
    rw [← hW9g.out, ← hgg'.out]
    refine (bookE_any hBk.out (by omega) _ n tc _ hT9.out (by omega) gT.out (fun v hv => nomatch hv)).mono ?_
    rintro e u1 ⟨rfl, hb1, hO1, hS1⟩
    have hA1 := Lib.hid (hA9.out.offB hO1 (fun q hq hB => by have := gA.out q hq; omega))
    have hB1 := Lib.hid (hB9.out.offB hO1 (fun q hq hB => by have := gB.out q hq; omega))
    have hx1 := Below.trans hx hb1
    have hS1' := Lib.hid hS1
    clear hBk hT9 hA9 hB9 hx hb1 hO1 hS1
    go_wp2_with fail
    refine (bookR_any hS1'.out (by omega) aa an ac _ hA1.out (by omega) gA.out (fun v hv => by rw [List.mem_singleton.1 hv]; exact sAT.out)).mono ?_
    rintro e u2 ⟨rfl, hb2, hO2, hS2⟩
    have hB2 := Lib.hid (hB1.out.offB hO2 (fun q hq hB => by have := gB.out q hq; omega))
    have hx2 := Below.trans hx1 hb2
    have hS2' := Lib.hid hS2
    clear hS1' hA1 hB1 hx1 hb2 hO2 hS2
    go_wp2_with fail
    refine (bookR_any hS2'.out (by omega) ba bn bc _ hB2.out (by omega) gB.out (fun v hv => by
      rcases List.mem_cons.1 hv with rfl | hv
      · exact sBA.out
      · rw [List.mem_singleton.1 hv]; exact sBT.out)).mono ?_
    rintro e u3 ⟨rfl, hb3, hO3, hS3⟩
    have hx3 := Below.trans hx2 hb3
    have hS3' := Lib.hid hS3
    clear hS2' hB2 hx2 hb3 hO3 hS3
    go_wp2_with fail
    refine (bookA_any hS3'.out (by omega)).mono ?_
    rintro e u4 ⟨rfl, hb4⟩
    have hx4 := Below.trans hx3 hb4
    go_wp2_with fail
    go_ret
    exact ⟨rfl, hx4⟩
end Go.Proofs.YtefllplgbalbkaaGreatDoor
