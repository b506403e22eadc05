/- The document's answer: Rises, seen, See. No condition. -/
import Derived.Test.YtefllplgbalbkaaGreatDoorRf0
import Derived.Test.YtefllplgbalbkaaGreatDoorPm4
import Derived.Deep.RegionHeld3
namespace Go.Proofs.YtefllplgbalbkaaGreatDoor
open Go.RowKit
set_option maxRecDepth 100000
set_option maxHeartbeats 2000000
theorem risesR_any (w : World) (l : List En) (a : Option Addr) (cap : Nat) (hg : ∀ x ∈ l, x.small) (hR : RowIs w 4 (.slice a l.length cap) l.length (l.flatMap enL)) : Calls Tryz.prog 31 #[.slice a l.length cap] w fun e w' => e = .returned (.bool (risesB l)) ∧ Ext w w' := by
  have hnn := hR.2.1
  obtain ⟨n, hn⟩ : ∃ n, n = l.length := ⟨_, rfl⟩
  rw [← hn] at hR hnn ⊢
  have hn' := Lib.hid hn
  obtain ⟨r, hr⟩ : ∃ r, r = risesB l := ⟨_, rfl⟩
  rw [← hr]
  have hr' := Lib.hid hr
  clear hn hr
  go_enter Tryz.func31, Tryz.ntmps31
  go_wp2_with fail
  go_loopw [3] (fun i wr => ∃ k : Nat, 1 ≤ k ∧ k ≤ n + 1 ∧ i = .int .i64 k ∧ Hid (∀ (j : Nat) (x y : En), j + 1 < k → l[j]? = some x → l[j + 1]? = some y → x.mark.ltB y.mark = true) ∧ Ext w wr) (fun i _ => n + 1 - (intOf i).toNat)
  case atStart => exact ⟨1, by omega, by omega, rfl, Lib.hid (fun j x y h => by omega), Ext.refl _⟩
  case round =>
    obtain ⟨k, hk1, hk, rfl, hadj, hE⟩ := hrel
    by_cases hlt : k < n
    · have hli : (k : Int) < (n : Int) := by omega
      obtain ⟨m, hm⟩ : ∃ m, k = m + 1 := ⟨k - 1, by omega⟩
      obtain ⟨x, hx⟩ : ∃ c, l[m]? = some c := ⟨_, List.getElem?_eq_getElem (by rw [← hn'.out]; omega)⟩
      obtain ⟨y, hy⟩ : ∃ c, l[k]? = some c := ⟨_, List.getElem?_eq_getElem (by rw [← hn'.out]; exact hlt)⟩
      obtain ⟨b, off, hat⟩ := (hR.ext hE).at
      obtain ⟨rfl, _, hd⟩ := hat (by omega)
      have p := mark_range (ens_range (by rw [← hn'.out]; exact hd) hx)
      have q := mark_range (ens_range (by rw [← hn'.out]; exact hd) hy)
      have hw1 : IntKind.i64.wrap ((k : Int) - 1) = (m : Int) := by rw [IntKind.wrap_i64]; omega
      have hm1 : (m : Int) < (n : Int) := by omega
      have hm0 : 0 ≤ (m : Int) := by omega
      have hsx := (hg x (List.mem_of_getElem? hx)).1
      have hsy := (hg y (List.mem_of_getElem? hy)).1
      have hadj' := Lib.hid hadj
      have hxy := Lib.hid (And.intro hx (And.intro hy hm))
      clear hat hd hx hy hadj hm
      go_upto_region 4 with fail
      refine bqRegion (Ext wr) (by kernel_rfl) (by kernel_rfl) (Ext.refl _).drew ?_
      iterate 5 (refine bqStep (fun K hK => ?_); go_simp; first | (refine hK _ ?_; clear hK K) | (refine ⟨_, fun _ _ => rfl, hK _ ?_⟩; clear hK K))
      refine bqMid (by rfl) 67 _ (by rfl) b (off + m * 4) (by rfl) _ _ (fun w' h r u hu => h.cell (p r u hu)) Tryz.underlying67 rfl (by exact info_mark) ?_
      simp only [Act.put, List.setIfInBounds_toArray, List.set_cons_zero, List.set_cons_succ]
      iterate 4 (refine bqStep (fun K hK => ?_); go_simp; first | (refine hK _ ?_; clear hK K) | (refine ⟨_, fun _ _ => rfl, hK _ ?_⟩; clear hK K))
      refine bqMid (by rfl) 67 _ (by rfl) b (off + k * 4) (by rfl) _ _ (fun w' h r u hu => h.cell (q r u hu)) Tryz.underlying67 rfl (by exact info_mark) ?_
      simp only [Act.put, List.setIfInBounds_toArray, List.set_cons_zero, List.set_cons_succ, mkRow]
      refine bqStep (fun K hK => ?_)
      go_simp
      refine ⟨_, fun w' hw => calls_ext hw (cmpR_any w' x.mark y.mark hsx hsy), hK _ ?_⟩
      clear hK K
      iterate 1 (refine bqStep (fun K hK => ?_); go_simp; first | (refine hK _ ?_; clear hK K) | (refine ⟨_, fun _ _ => rfl, hK _ ?_⟩; clear hK K))
      refine bqNil (fun w5 hE5 => ?_)
      have hE6 := hE.trans hE5
      clear p q
      cases hlt2 : x.mark.ltB y.mark with
      | true =>
        have hc : ¬ 0 ≤ cmpM x.mark y.mark := by rw [cmpM_ge, hlt2]; decide
        have hd0 : decide (0 ≤ cmpM x.mark y.mark) = false := decide_eq_false hc
        have hl2 := Lib.hid hlt2
        clear hlt2
        go_wp2_with fail
        go_roundw
        case rel => exact ⟨k + 1, by omega, by omega, by go_num, Lib.hid (fun j a c hj ha hc2 => by
          by_cases hjm : j + 1 < k
          · exact hadj'.out j a c hjm ha hc2
          · obtain ⟨e1, e2, e3⟩ := hxy.out
            have : j = m := by omega
            subst this
            rw [e1] at ha
            rw [← e3, e2] at hc2
            injection ha with ha
            injection hc2 with hc2
            rw [← ha, ← hc2]
            exact hl2.out), hE6⟩
        case measure => simp [intOf]; omega
      | false =>
        have hc : 0 ≤ cmpM x.mark y.mark := by rw [cmpM_ge, hlt2]
        have hd0 : decide (0 ≤ cmpM x.mark y.mark) = true := decide_eq_true hc
        have hrf : Hid (r = false) := Lib.hid (by
          rw [hr'.out]
          obtain ⟨e1, e2, e3⟩ := hxy.out
          rw [e3] at e2
          exact risesB_not e1 e2 hlt2)
        clear hlt2
        go_wp2_with fail
        go_ret
        exact ⟨by rw [hrf.out]; rfl, hE6⟩
    · have hli : ¬ (k : Int) < (n : Int) := by omega
      have hrt : Hid (r = true) := Lib.hid (by
        rw [hr'.out]
        refine risesB_adj l fun j x y hx hy => hadj.out j x y ?_ hx hy
        have := (List.getElem?_eq_some_iff.1 hy).1
        rw [← hn'.out] at this
        omega)
      go_wp2_with fail
      go_ret
      exact ⟨by rw [hrt.out]; rfl, hE⟩
/-- Is an entry of a place, at a number? -/
def seenB (l : List En) (i s : Nat) : Bool := match l[i]? with
  | some x => pS s x && !(l.take i).any (fun e => e.mark.key.toList == x.mark.key.toList && pS s e)
  | none => false
theorem seenR_any (w : World) (l : List En) (a : Option Addr) (cap n i s : Nat) (hnl : n = l.length) (hR : RowIs w 4 (.slice a n cap) n (l.flatMap enL)) (hi : i < n) : Calls Tryz.prog 32 #[.slice a n cap, .int .i64 (i : Int), .int .u64 (s : Int)] w fun e w' => e = .returned (.bool (seenB l i s)) ∧ Ext w w' := by
  obtain ⟨r, hr⟩ : ∃ r, r = seenB l i s := ⟨_, rfl⟩
  rw [← hr]
  obtain ⟨x, hx⟩ : ∃ x, l[i]? = some x := ⟨_, List.getElem?_eq_getElem (by rw [← hnl]; exact hi)⟩
  have hr' : Hid (r = (pS s x && !(l.take i).any (fun e => e.mark.key.toList == x.mark.key.toList && pS s e))) := Lib.hid (by rw [hr]; unfold seenB; rw [hx])
  have hn' := Lib.hid hnl
  obtain ⟨lb, lo, hat⟩ := hR.at
  obtain ⟨rfl, hcap, hd⟩ := hat (by omega)
  have hrx := ens_range (by rw [← hnl]; exact hd) hx
  have p0 : w.cell? ⟨lb, lo + i * 4, none⟩ = some (.string x.mark.key) := by have := hrx 0 (.string x.mark.key) rfl; simpa using this
  have p1 : w.cell? ⟨lb, lo + i * 4 + 1, none⟩ = some (.int .u64 (x.mark.seq : Int)) := hrx 1 _ rfl
  have hd' := Lib.hid hd
  have hii : (i : Int) < (n : Int) := by omega
  have hnb : n ≤ 9223372036854775807 := hR.2.1
  clear hr hx hnl hR hat hd hrx
  go_enter Tryz.func32, Tryz.ntmps32
  by_cases hsx : s < x.mark.seq
  · have hsi : (s : Int) < (x.mark.seq : Int) := by omega
    have hres : Hid (r = false) := Lib.hid (by rw [hr'.out, show pS s x = false from decide_eq_false (by omega)]; rfl)
    go_wp2_with fail
    go_ret
    exact ⟨by rw [hres.out]; rfl, Ext.refl _⟩
  · have hsi : ¬ (s : Int) < (x.mark.seq : Int) := by omega
    have hres : Hid (r = !(l.take i).any (fun e => e.mark.key.toList == x.mark.key.toList && pS s e)) := Lib.hid (by rw [hr'.out, show pS s x = true from decide_eq_true (by omega)]; rfl)
    go_wp2_with fail
    go_loopw [7] (fun k wr => ∃ k' : Nat, k = .int .i64 k' ∧ k' ≤ i ∧ Hid ((l.take k').any (fun e => e.mark.key.toList == x.mark.key.toList && pS s e) = false) ∧ Ext w wr) (fun k _ => i - (intOf k).toNat)
    case atStart => exact ⟨0, rfl, by omega, Lib.hid rfl, Ext.refl _⟩
    case round =>
      obtain ⟨k, rfl, hk, hnone, hE⟩ := hrel
      by_cases hlt : k < i
      · have hli : (k : Int) < (i : Int) := by omega
        have hkn : (k : Int) < (n : Int) := by omega
        obtain ⟨y, hy⟩ : ∃ y, l[k]? = some y := ⟨_, List.getElem?_eq_getElem (by rw [← hn'.out]; omega)⟩
        have hry := ens_range (by rw [← hn'.out]; exact hd'.out) hy
        have q0 : wr.cell? ⟨lb, lo + k * 4, none⟩ = some (.string y.mark.key) := by have := hE.cell (hry 0 (.string y.mark.key) rfl); simpa using this
        have q1 : wr.cell? ⟨lb, lo + k * 4 + 1, none⟩ = some (.int .u64 (y.mark.seq : Int)) := hE.cell (hry 1 _ rfl)
        have p0w := hE.cell p0
        have htk : Hid (∀ f : En → Bool, (l.take (k + 1)).any f = ((l.take k).any f || f y)) := Lib.hid (fun f => by rw [List.take_add_one, hy, List.any_append]; simp)
        have hstop : Hid (∀ f : En → Bool, f y = true → (l.take i).any f = true) := Lib.hid (fun f hf => List.any_eq_true.2 ⟨y, by
          have : y ∈ (l.take i) := by
            refine List.mem_of_getElem? (i := k) ?_
            rw [List.getElem?_take, if_pos hlt]
            exact hy
          exact this, hf⟩)
        clear hry hy
        cases hkk : y.mark.key.toList == x.mark.key.toList with
        | false =>
          have hnx : Hid ((l.take (k + 1)).any (fun e => e.mark.key.toList == x.mark.key.toList && pS s e) = false) := Lib.hid (by rw [htk.out, hnone.out, hkk]; rfl)
          go_upto_region 6 with fail
          go_quiet (fail)
          go_wp2_with fail
          go_roundw
          case rel => exact ⟨k + 1, by go_num, by omega, hnx, hE.trans ⟨rfl, rfl, rfl, Nat.le_refl _, fun _ _ => rfl⟩⟩
          case measure => simp [intOf]; omega
        | true =>
          by_cases hys : y.mark.seq ≤ s
          · have hysi : (y.mark.seq : Int) ≤ (s : Int) := by omega
            have hv : Hid (r = false) := Lib.hid (by rw [hres.out, hstop.out _ (by rw [hkk]; exact decide_eq_true hys)]; rfl)
            go_upto_region 6 with fail
            go_quiet (fail)
            go_wp2_with fail
            go_ret
            exact ⟨by rw [hv.out]; rfl, hE.trans ⟨rfl, rfl, rfl, Nat.le_refl _, fun _ _ => rfl⟩⟩
          · have hysi : ¬ (y.mark.seq : Int) ≤ (s : Int) := by omega
            have hnx : Hid ((l.take (k + 1)).any (fun e => e.mark.key.toList == x.mark.key.toList && pS s e) = false) := Lib.hid (by rw [htk.out, hnone.out, show pS s y = false from decide_eq_false hys]; simp)
            go_upto_region 6 with fail
            go_quiet (fail)
            go_wp2_with fail
            go_roundw
            case rel => exact ⟨k + 1, by go_num, by omega, hnx, hE.trans ⟨rfl, rfl, rfl, Nat.le_refl _, fun _ _ => rfl⟩⟩
            case measure => simp [intOf]; omega
      · have hli : ¬ (k : Int) < (i : Int) := by omega
        have hki : k = i := by omega
        have hv : Hid (r = true) := Lib.hid (by have h := hnone.out; rw [hki] at h; rw [hres.out, h]; rfl)
        clear hki
        go_wp2_with fail
        go_ret
        exact ⟨by rw [hv.out]; rfl, hE⟩
end Go.Proofs.YtefllplgbalbkaaGreatDoor
