/- MergesThin: the walk. No condition. -/
import Derived.Test.YtefllplgbalbkaaGreatDoorRf3
import Derived.Test.YtefllplgbalbkaaGreatDoorTwN
import Derived.Test.YtefllplgbalbkaaGreatDoorLzS
namespace Go.Proofs.YtefllplgbalbkaaGreatDoor
open Go.RowKit
set_option maxRecDepth 100000
set_option maxHeartbeats 4000000
theorem same_ok (w : World) (l l' : List En) (v v' : Value) (h : SlIs w v l) (h' : SlIs w v' l') : Calls Tryz.prog 18 #[v, v'] w fun e w' => e = .returned (.bool (decide (l = l'))) ∧ Ext w w' := by
  obtain ⟨a, c, rfl, h1⟩ := h
  obtain ⟨a', c', rfl, h2⟩ := h'
  exact same_any w l l' a a' c c' h1 h2
theorem thin_u (w : World) (l : List En) (looks : List Nat) (last : Bool) (a ka : Option Addr) (cap n kc kn : Nat) (hnl : n = l.length) (hkn : kn = looks.length) (hq : ∀ e ∈ l, e.mark.seq ≤ topS) (hR : RowIs w 4 (.slice a n cap) n (l.flatMap enL)) (hK : RowIs w 1 (.slice ka kn kc) kn (nuL looks)) (hn : n ≤ 1000) (hk : kn ≤ 1000) : Calls Tryz.prog 16 #[.slice a n cap, .slice ka kn kc, .bool last] w (ThinU w l looks last) := by
  subst hnl hkn
  refine (thin_any w l looks last a ka cap kc ⟨a, cap, rfl, hR⟩ hK (by omega) (by omega) hq).mono fun e w' h => ?_
  obtain ⟨hE, h1, h2⟩ := h
  unfold ThinU thinA riC
  cases hr : risesB l with
  | false => exact ⟨none, 0, 0, h1 hr, rfl, OwnC.nil _ _ _ _, hE⟩
  | true =>
    obtain ⟨a, cap, h3, h4⟩ := h2 hr
    exact ⟨a, _, cap, h3, rfl, h4, hE⟩
theorem thin_len (l : List En) (looks : List Nat) (last : Bool) : (thinA l looks last).length ≤ l.length := by
  unfold thinA
  split
  · rename_i h
    exact (thin_sub ((risesB_iff l).1 h)).length_le
  · exact Nat.zero_le _
theorem mergesThin_walk (w : World) (v0 : Value) (o0 : ∃ n, OKC Tryz.prog w n 22 [v0]) (v1 : Value) (o1 : ∃ n, OKC Tryz.prog w n 51 [v1]) (last : Bool) (_o2 : ∃ n, OKC Tryz.prog w n 4 [.bool last]) :
    Calls Tryz.prog 4 #[v0, v1, .bool last] w fun e w' => e = .returned (.bool true) ∧ Ext w w' := by
  obtain ⟨l, a, cap, rfl, hg, h1, hby⟩ := okc_entries o0
  obtain ⟨ks, ka, kc, rfl, hks, hK⟩ := okc_nums o1
  have hmany := Lib.hid (many_any w l a cap (fun x hx => (hg x hx).1) (by omega) h1)
  obtain ⟨n, hn⟩ : ∃ n, n = l.length := ⟨_, rfl⟩
  obtain ⟨kn, hkn⟩ : ∃ n, n = ks.length := ⟨_, rfl⟩
  rw [← hn] at h1 hby hmany ⊢
  rw [← hkn] at hK ⊢
  have hn' := Lib.hid hn
  have hkn' := Lib.hid hkn
  have hR' := Lib.hid h1
  have hK' := Lib.hid hK
  have hg' := Lib.hid (fun x hx => (hg x hx).1)
  have hq' : Hid (∀ e ∈ l, e.mark.seq ≤ topS) := Lib.hid (fun e he => by have := (hg e he).2; unfold topS; omega)
  clear o0 o1 _o2 hg h1 hby hn hkn hK hks
  go_enter Tryz.func4, Tryz.ntmps4
  go_wp2_with fail
  refine hmany.out.mono ?_
  rintro e w1 ⟨rfl, hE1⟩
  clear hmany
  cases hm : manyB l with
  | true =>
    clear hm
    go_wp2_with fail
    go_ret
    exact ⟨rfl, hE1⟩
  | false =>
    have hml := many_len hm
    rw [← hn'.out] at hml
    clear hm
    by_cases hkb : 20 < kn
    · have hki : (20 : Int) < (kn : Int) := by omega
      go_wp2_with fail
      go_ret
      exact ⟨rfl, hE1⟩
    have hki : ¬ (20 : Int) < (kn : Int) := by omega
    go_wp2_with fail
    refine (twinE_any w1 l a cap n hn'.out (hR'.out.ext hE1) (by omega)).mono ?_
    rintro e w2 ⟨tb, tc, rfl, hT, hE2⟩
    have hTo := Lib.hid (hT.own hn'.out)
    have hT' := Lib.hid hT
    clear hT
    go_wp2_with fail
    refine (twinN_any w2 ks ka kc kn hkn'.out (hK'.out.ext (hE1.trans hE2)) (by omega)).mono ?_
    rintro e w2' ⟨nb, nc, rfl, hN, hE2'⟩
    have hNo := Lib.hid (hN.own hkn'.out)
    have hN' := Lib.hid hN
    have hT2 := Lib.hid (hT'.out.ext hE2')
    clear hN
    go_wp2_with fail
    refine (thin_u w2' l ks last _ _ tc n nc kn hn'.out hkn'.out hq'.out (hT2.out.own hn'.out).row hNo.out.row (by omega) (by omega)).mono ?_
    rintro e w3 ⟨aa, an, ac, rfl, han, hA, hE3⟩
    have hA' := Lib.hid hA
    have han' := Lib.hid han
    have hT3 := Lib.hid (hT2.out.ext hE3)
    have hN3 := Lib.hid (hN'.out.ext hE3)
    clear hA han
    go_wp2_with fail
    refine (thin_u w3 l ks last _ _ tc n nc kn hn'.out hkn'.out hq'.out (hT3.out.own hn'.out).row (hN3.out.own hkn'.out).row (by omega) (by omega)).mono ?_
    rintro e w4 ⟨ba, bn, bc, rfl, hbn, hB, hE4⟩
    have hB' := Lib.hid hB
    have hbn' := Lib.hid hbn
    have hT4 := Lib.hid (hT3.out.ext hE4)
    have hN4 := Lib.hid (hN3.out.ext hE4)
    have hA4 := Lib.hid (hA'.out.ext hE4)
    have hE14 := ((hE1.trans hE2).trans hE2').trans (hE3.trans hE4)
    clear hB hbn
    go_wp2_with fail
    refine (thinR_any w4 l ks last a ka cap n kc kn hn'.out hkn'.out hg'.out hq'.out (hR'.out.ext hE14) (hK'.out.ext hE14) (by omega) (by omega)).mono ?_
    rintro e w5 ⟨ca, cn, cc, rfl, hcn, hC, hE5⟩
    have hE15 := hE14.trans hE5
    have hA5 := Lib.hid (hA4.out.ext hE5)
    have hB5 := Lib.hid (hB'.out.ext hE5)
    have hT5 := Lib.hid (hT4.out.ext hE5)
    have hN5 := Lib.hid (hN4.out.ext hE5)
    have hC5 := Lib.hid hC
    have hcn' := Lib.hid hcn
    have rw_of : Hid (∀ (W : World) (b' : Nat) (v : Option Addr) (m c : Nat), m = (thinA l ks last).length → OwnC W b' 69 4 (.slice v m c) m ((thinA l ks last).flatMap enL) → SlIs W (.slice v m c) (thinA l ks last)) := Lib.hid (fun W b' v m c hm h => by subst hm; exact ⟨v, c, rfl, h.row⟩)
    clear hC hcn
    go_wp2_with fail
    refine (same_ok w5 _ _ _ _ (rw_of.out w5 _ _ _ _ han'.out hA5.out) (rw_of.out w5 _ _ _ _ hcn'.out hC5.out)).mono ?_
    rintro e w6 ⟨rfl, hE6⟩
    rw [decide_eq_true (rfl : thinA l ks last = thinA l ks last)]
    have hB6 := Lib.hid (hB5.out.ext hE6)
    have hC6 := Lib.hid (hC5.out.ext hE6)
    go_wp2_with fail
    refine (same_ok w6 _ _ _ _ (rw_of.out w6 _ _ _ _ hbn'.out hB6.out) (rw_of.out w6 _ _ _ _ hcn'.out hC6.out)).mono ?_
    rintro e w7 ⟨rfl, hE7⟩
    rw [decide_eq_true (rfl : thinA l ks last = thinA l ks last)]
    have hE57 := hE6.trans hE7
    have hT7 := Lib.hid (hT5.out.ext hE57)
    have hR7 := Lib.hid (hR'.out.ext (hE15.trans hE57))
    go_wp2_with fail
    refine (leftE_any w7 l _ tb tc a cap n hn'.out hR7.out (by omega) hT7.out).mono ?_
    rintro e w7' ⟨rfl, hE7'⟩
    have hE57' := hE57.trans hE7'
    have hN7 := Lib.hid (hN5.out.ext hE57')
    have hK7 := Lib.hid (hK'.out.ext (hE15.trans hE57'))
    go_wp2_with fail
    refine (leftN_any w7' ks _ nb nc ka kc kn hkn'.out hK7.out (by omega) hN7.out).mono ?_
    rintro e w8 ⟨rfl, hE8⟩
    have hE58 := hE57'.trans hE8
    -- the book
    have s2 := hE2.size
    have s2' := hE2'.size
    have s3 := hE3.size
    have s4 := hE4.size
    have s5 := hE5.size
    have s1 := hE1.size
    have s8 := hE58.size
    obtain ⟨W9, hW9⟩ : ∃ W, W = w8.alloc (.cells (bkRow 0 fun _ => (.slice none 0 0, [])) 46) := ⟨_, rfl⟩
    have hE9 : Ext w5 W9 := by rw [hW9]; exact hE58.alloc _
    have hw9 : W9.heap.size = w8.heap.size + 1 := by rw [hW9]; simp
    have hBk := Lib.hid (BkS.start (base := w.heap.size) (g := w8.heap.size) (w := W9) (by rw [hW9]; exact heap_alloc_new w8 _) (by omega))
    have hx : Ext w W9 := hE15.trans hE9
    obtain ⟨g, hgg⟩ : ∃ g, g = w8.heap.size := ⟨_, rfl⟩
    have hT9 := Lib.hid (((hT5.out.ext hE9).own hn'.out).bmono s1)
    have hN9 := Lib.hid (((hN5.out.ext hE9).own hkn'.out).bmono (base := w.heap.size) (by omega))
    have hA9 := Lib.hid ((hA5.out.ext hE9).bmono (base := w.heap.size) (by omega))
    have hB9 := Lib.hid ((hB5.out.ext hE9).bmono (base := w.heap.size) (by omega))
    have gT := Lib.hid (fun q hq => show q < g by have := (hT5.out.own hn'.out).lt q hq; omega)
    have gN := Lib.hid (fun q hq => show q < g by have := (hN5.out.own hkn'.out).lt q hq; omega)
    have gA := Lib.hid (fun q hq => show q < g by have := hA5.out.lt q hq; omega)
    have gB := Lib.hid (fun q hq => show q < g by have := hB5.out.lt q hq; omega)
    have sNT := Lib.hid (sep_of hTo.out hNo.out (Nat.le_refl _))
    have sAT := Lib.hid (sep_of hTo.out hA'.out s2')
    have sAN := Lib.hid (sep_of hNo.out hA'.out (Nat.le_refl _))
    have sBT := Lib.hid (sep_of hTo.out hB'.out (by omega))
    have sBN := Lib.hid (sep_of hNo.out hB'.out s3)
    have sBA := Lib.hid (sep_of hA'.out hB'.out (Nat.le_refl _))
    have hal : an ≤ 1000 := by have := thin_len l ks last; rw [han'.out]; have := hn'.out; omega
    have hbl : bn ≤ 1000 := by have := thin_len l ks last; rw [hbn'.out]; have := hn'.out; omega
    have hW9' := Lib.hid hW9
    rw [← hgg] at hBk
    have hgg' := Lib.hid hgg
    clear hE1 hE2 hE2' hE3 hE4 hE14 hE5 hE15 hA5 hB5 hT5 hN5 hC5 hB6 hC6 hT7 hR7 hN7 hK7 hE6 hE7 hE7' hE57 hE57' hE8 hE58 hTo hNo hT' hN' hA' han' hT2 hT3 hN3 hB' hbn' hT4 hN4 hA4 hcn' rw_of s1 s2 s2' s3 s4 s5 s8 hW9 hE9 hw9 hgg
    have hW9f : W9 = w8.alloc (.cells #[.int .i64 0, .slice none 0 0, .slice none 0 0, .slice none 0 0, .slice none 0 0, .slice none 0 0, .slice none 0 0, .slice none 0 0, .slice none 0 0, .slice none 0 0, .slice none 0 0, .slice none 0 0, .slice none 0 0, .slice none 0 0] 46) := hW9'.out
    have hW9g := Lib.hid hW9f
    clear hW9f
    go_wp2_with fail
    rw [← hW9g.out, ← hgg'.out]
    refine (bookE_any hBk.out (by omega) _ n tc _ hT9.out (by omega) gT.out (fun v hv => nomatch hv)).mono ?_
    rintro e u1 ⟨rfl, hb1, hO1, hS1⟩
    have hN1 := Lib.hid (hN9.out.offB hO1 (fun q hq hB => by have := gN.out q hq; omega))
    have hA1 := Lib.hid (hA9.out.offB hO1 (fun q hq hB => by have := gA.out q hq; omega))
    have hB1 := Lib.hid (hB9.out.offB hO1 (fun q hq hB => by have := gB.out q hq; omega))
    have hx1 := Below.trans hx hb1
    have hS1' := Lib.hid hS1
    clear hBk hT9 hN9 hA9 hB9 hx hb1 hO1 hS1
    go_wp2_with fail
    refine (bookN_any hS1'.out (by omega) _ kn nc _ hN1.out (by omega) gN.out (fun v hv => by rw [List.mem_singleton.1 hv]; exact sNT.out)).mono ?_
    rintro e u2 ⟨rfl, hb2, hO2, hS2⟩
    have hA2 := Lib.hid (hA1.out.offB hO2 (fun q hq hB => by have := gA.out q hq; omega))
    have hB2 := Lib.hid (hB1.out.offB hO2 (fun q hq hB => by have := gB.out q hq; omega))
    have hx2 := Below.trans hx1 hb2
    have hS2' := Lib.hid hS2
    clear hS1' hN1 hA1 hB1 hx1 hb2 hO2 hS2
    go_wp2_with fail
    refine (bookE_any hS2'.out (by omega) aa an ac _ hA2.out (by omega) gA.out (fun v hv => by
      rcases List.mem_cons.1 hv with rfl | hv
      · exact sAN.out
      · rw [List.mem_singleton.1 hv]; exact sAT.out)).mono ?_
    rintro e u3 ⟨rfl, hb3, hO3, hS3⟩
    have hB3 := Lib.hid (hB2.out.offB hO3 (fun q hq hB => by have := gB.out q hq; omega))
    have hx3 := Below.trans hx2 hb3
    have hS3' := Lib.hid hS3
    clear hS2' hA2 hB2 hx2 hb3 hO3 hS3
    go_wp2_with fail
    refine (bookE_any hS3'.out (by omega) ba bn bc _ hB3.out (by omega) gB.out (fun v hv => by
      rcases List.mem_cons.1 hv with rfl | hv
      · exact sBA.out
      · rcases List.mem_cons.1 hv with rfl | hv
        · exact sBN.out
        · rw [List.mem_singleton.1 hv]; exact sBT.out)).mono ?_
    rintro e u4 ⟨rfl, hb4, hO4, hS4⟩
    have hx4 := Below.trans hx3 hb4
    have hS4' := Lib.hid hS4
    clear hS3' hB3 hx3 hb4 hO4 hS4
    go_wp2_with fail
    refine (bookA_any hS4'.out (by omega)).mono ?_
    rintro e u5 ⟨rfl, hb5⟩
    have hx5 := Below.trans hx4 hb5
    go_wp2_with fail
    go_ret
    exact ⟨rfl, hx5⟩
end Go.Proofs.YtefllplgbalbkaaGreatDoor
