/- rises; who stands ahead. No condition. -/
import Derived.Test.YtefllplgbalbkaaGreatDoorMe
namespace Go.Proofs.YtefllplgbalbkaaGreatDoor
open Go.RowKit
set_option maxRecDepth 100000
set_option maxHeartbeats 2000000
theorem rises_any (w : World) (l : List En) (a : Option Addr) (cap : Nat) (hR : RowIs w 4 (.slice a l.length cap) l.length (l.flatMap enL)) : Calls Tryz.prog 28 #[.slice a l.length cap] w fun e w' => e = .returned (.bool (risesB l)) ∧ Ext w w' := by
  have hnn := hR.2.1
  obtain ⟨n, hn⟩ : ∃ n, n = l.length := ⟨_, rfl⟩
  rw [← hn] at hR hnn ⊢
  have hn' := Lib.hid hn
  obtain ⟨r, hr⟩ : ∃ r, r = risesB l := ⟨_, rfl⟩
  rw [← hr]
  have hr' := Lib.hid hr
  clear hn hr
  go_enter Tryz.func28, Tryz.ntmps28
  go_wp2_with fail
  go_loopw [3] (fun i wr => ∃ k : Nat, 1 ≤ k ∧ k ≤ n + 1 ∧ i = .int .i64 k ∧ Hid (∀ (j : Nat) (x y : En), j + 1 < k → l[j]? = some x → l[j + 1]? = some y → x.mark.ltB y.mark = true) ∧ Ext w wr) (fun i _ => n + 1 - (intOf i).toNat)
  case atStart => exact ⟨1, by omega, by omega, rfl, Lib.hid (fun j x y h => by omega), Ext.refl _⟩
  case round =>
    obtain ⟨k, hk1, hk, rfl, hadj, hE⟩ := hrel
    by_cases hlt : k < n
    · have hli : (k : Int) < (n : Int) := by omega
      obtain ⟨m, hm⟩ : ∃ m, k = m + 1 := ⟨k - 1, by omega⟩
      obtain ⟨x, hx⟩ : ∃ c, l[m]? = some c := ⟨_, List.getElem?_eq_getElem (by rw [← hn'.out]; omega)⟩
      obtain ⟨y, hy⟩ : ∃ c, l[k]? = some c := ⟨_, List.getElem?_eq_getElem (by rw [← hn'.out]; exact hlt)⟩
      obtain ⟨b, off, hat⟩ := (hR.ext hE).at
      obtain ⟨rfl, _, hd⟩ := hat (by omega)
      have p := mark_range (ens_range (by rw [← hn'.out]; exact hd) hx)
      have q := mark_range (ens_range (by rw [← hn'.out]; exact hd) hy)
      have hw1 : IntKind.i64.wrap ((k : Int) - 1) = (m : Int) := by rw [IntKind.wrap_i64]; omega
      have hm1 : (m : Int) < (n : Int) := by omega
      have hm0 : 0 ≤ (m : Int) := by omega
      have hadj' := Lib.hid hadj
      have hxy := Lib.hid (And.intro hx (And.intro hy hm))
      clear hat hd hx hy hadj hm
      go_upto_region 4 with fail
      refine bqRegion (Ext wr) (by kernel_rfl) (by kernel_rfl) (Ext.refl _).drew ?_
      iterate 5 (refine bqStep (fun K hK => ?_); go_simp; first | (refine hK _ ?_; clear hK K) | (refine ⟨_, fun _ _ => rfl, hK _ ?_⟩; clear hK K))
      refine bqMid (by rfl) 67 _ (by rfl) b (off + m * 4) (by rfl) _ _ (fun w' h r u hu => h.cell (p r u hu)) Tryz.underlying67 rfl (by exact info_mark) ?_
      simp only [Act.put, List.setIfInBounds_toArray, List.set_cons_zero, List.set_cons_succ]
      iterate 4 (refine bqStep (fun K hK => ?_); go_simp; first | (refine hK _ ?_; clear hK K) | (refine ⟨_, fun _ _ => rfl, hK _ ?_⟩; clear hK K))
      refine bqMid (by rfl) 67 _ (by rfl) b (off + k * 4) (by rfl) _ _ (fun w' h r u hu => h.cell (q r u hu)) Tryz.underlying67 rfl (by exact info_mark) ?_
      simp only [Act.put, List.setIfInBounds_toArray, List.set_cons_zero, List.set_cons_succ, mkRow]
      refine bqStep (fun K hK => ?_)
      go_simp
      refine ⟨_, fun w' hw => calls_ext hw (cmp_any w' x.mark y.mark), hK _ ?_⟩
      clear hK K
      iterate 1 (refine bqStep (fun K hK => ?_); go_simp; first | (refine hK _ ?_; clear hK K) | (refine ⟨_, fun _ _ => rfl, hK _ ?_⟩; clear hK K))
      refine bqNil (fun w5 hE5 => ?_)
      have hE6 := hE.trans hE5
      clear p q
      cases hlt2 : x.mark.ltB y.mark with
      | true =>
        have hc : ¬ 0 ≤ cmpM x.mark y.mark := by rw [cmpM_ge, hlt2]; decide
        have hd0 : decide (0 ≤ cmpM x.mark y.mark) = false := decide_eq_false hc
        have hl2 := Lib.hid hlt2
        clear hlt2
        go_wp2_with fail
        go_roundw
        case rel => exact ⟨k + 1, by omega, by omega, by go_num, Lib.hid (fun j a c hj ha hc2 => by
          by_cases hjm : j + 1 < k
          · exact hadj'.out j a c hjm ha hc2
          · obtain ⟨e1, e2, e3⟩ := hxy.out
            have : j = m := by omega
            subst this
            rw [e1] at ha
            rw [← e3, e2] at hc2
            injection ha with ha
            injection hc2 with hc2
            rw [← ha, ← hc2]
            exact hl2.out), hE6⟩
        case measure => simp [intOf]; omega
      | false =>
        have hc : 0 ≤ cmpM x.mark y.mark := by rw [cmpM_ge, hlt2]
        have hd0 : decide (0 ≤ cmpM x.mark y.mark) = true := decide_eq_true hc
        have hrf : Hid (r = false) := Lib.hid (by
          rw [hr'.out]
          obtain ⟨e1, e2, e3⟩ := hxy.out
          rw [e3] at e2
          exact risesB_not e1 e2 hlt2)
        clear hlt2
        go_wp2_with fail
        go_ret
        exact ⟨by rw [hrf.out]; rfl, hE6⟩
    · have hli : ¬ (k : Int) < (n : Int) := by omega
      have hrt : Hid (r = true) := Lib.hid (by
        rw [hr'.out]
        refine risesB_adj l fun j x y hx hy => hadj.out j x y ?_ hx hy
        have := (List.getElem?_eq_some_iff.1 hy).1
        rw [← hn'.out] at this
        omega)
      go_wp2_with fail
      go_ret
      exact ⟨by rw [hrt.out]; rfl, hE⟩
/-- A list of entries in memory that has one. -/
structure ElOk (w : World) (p : Ls) : Prop where
  row : ∃ a cap, p.1 = .slice a p.2.length cap ∧ RowIs w 4 p.1 p.2.length (p.2.flatMap enL)
  pos : 0 < p.2.length
theorem ElOk.ext {w w' : World} {p : Ls} (h : ElOk w p) (he : Ext w w') : ElOk w' p := by
  obtain ⟨⟨a, cap, h1, h2⟩, h3⟩ := h
  exact ⟨⟨a, cap, h1, h2.ext he⟩, h3⟩
theorem ElOk.hd {w : World} {p : Ls} (h : ElOk w p) : ∃ b off n cap, p.1 = .slice (some ⟨b, off, none⟩) (n + 1) cap ∧ n + 1 ≤ cap ∧ w.rangeAt b off (mkRow (hdM p)) := by
  obtain ⟨⟨a, cap, h1, h2⟩, h3⟩ := h
  rw [h1] at h2
  obtain ⟨b, off, hat⟩ := h2.at
  obtain ⟨rfl, hc, hd⟩ := hat h3
  obtain ⟨n, hn⟩ : ∃ n, p.2.length = n + 1 := ⟨p.2.length - 1, by omega⟩
  obtain ⟨x, hx⟩ : ∃ x, p.2[0]? = some x := ⟨_, List.getElem?_eq_getElem h3⟩
  have hm : hdM p = x.mark := by
    unfold hdM
    cases hp : p.2 with
    | nil => rw [hp] at hx; cases hx
    | cons y l => rw [hp] at hx; injection hx with hx; rw [hx]
  have := mark_range (ens_range hd hx)
  rw [Nat.zero_mul, Nat.add_zero] at this
  exact ⟨b, off, n, cap, by rw [h1, hn], by omega, by rw [hm]; exact this⟩
theorem ahead_any (w : World) (p q : Ls) (hp : ElOk w p) (hq : ElOk w q) : Calls Tryz.prog 75 #[p.1, q.1] w fun e w' => e = .returned (.bool ((hdM p).ltB (hdM q))) ∧ Ext w w' := by
  obtain ⟨b, off, n, cap, e1, hc, hr⟩ := hp.hd
  obtain ⟨b', off', n', cap', e2, hc', hr'⟩ := hq.hd
  rw [e1, e2]
  obtain ⟨x, hx⟩ : ∃ x, x = hdM p := ⟨_, rfl⟩
  obtain ⟨y, hy⟩ : ∃ y, y = hdM q := ⟨_, rfl⟩
  rw [← hx] at hr ⊢
  rw [← hy] at hr' ⊢
  clear hp hq e1 e2 hx hy
  have h0 : (0 : Int) < ((n + 1 : Nat) : Int) := by omega
  have h0' : (0 : Int) < ((n' + 1 : Nat) : Int) := by omega
  have h1 : 0 < n + 1 := by omega
  have h1' : 0 < n' + 1 := by omega
  generalize n + 1 = m at *
  generalize n' + 1 = m' at *
  go_enter Tryz.func75, Tryz.ntmps75
  go_wp2_with fail
  refine bqRegion (Ext w) (by kernel_rfl) (by kernel_rfl) (Ext.refl _).drew ?_
  iterate 3 (refine bqStep (fun K hK => ?_); go_simp; first | (refine hK _ ?_; clear hK K) | (refine ⟨_, fun _ _ => rfl, hK _ ?_⟩; clear hK K))
  refine bqMid (by rfl) 67 _ (by rfl) b off (by rfl) _ _ (fun w' h r u hu => h.cell (hr r u hu)) Tryz.underlying67 rfl (by exact info_mark) ?_
  simp only [Act.put, List.setIfInBounds_toArray, List.set_cons_zero, List.set_cons_succ]
  iterate 3 (refine bqStep (fun K hK => ?_); go_simp; first | (refine hK _ ?_; clear hK K) | (refine ⟨_, fun _ _ => rfl, hK _ ?_⟩; clear hK K))
  refine bqMid (by rfl) 67 _ (by rfl) b' off' (by rfl) _ _ (fun w' h r u hu => h.cell (hr' r u hu)) Tryz.underlying67 rfl (by exact info_mark) ?_
  simp only [Act.put, List.setIfInBounds_toArray, List.set_cons_zero, List.set_cons_succ, mkRow]
  refine bqStep (fun K hK => ?_)
  go_simp
  refine ⟨_, fun w' hw => calls_ext hw (cmp_any w' x y), hK _ ?_⟩
  clear hK K
  iterate 2 (refine bqStep (fun K hK => ?_); go_simp; first | (refine hK _ ?_; clear hK K) | (refine ⟨_, fun _ _ => rfl, hK _ ?_⟩; clear hK K))
  refine bqNil (fun w5 hE5 => ?_)
  have hd0 : decide (cmpM x y < 0) = x.ltB y := by
    cases h : x.ltB y with
    | true => exact decide_eq_true (cmpM_neg.2 h)
    | false => exact decide_eq_false (fun h2 => by rw [cmpM_neg.1 h2] at h; cases h)
  go_wp2_with fail
  go_ret
  exact ⟨by first | rfl | (rw [← hd0]; rfl), hE5⟩
end Go.Proofs.YtefllplgbalbkaaGreatDoor
