/- The document's answer: Thin. No condition. -/
import Derived.Test.YtefllplgbalbkaaGreatDoorPm6
import Derived.Test.YtefllplgbalbkaaGreatDoorTwE
namespace Go.Proofs.YtefllplgbalbkaaGreatDoor
open Go.RowKit
set_option maxRecDepth 100000
set_option maxHeartbeats 4000000
/-- Thin, as the document has it: so told that both answers are of one form. -/
def thinA (l : List En) (looks : List Nat) (last : Bool) : List En := if risesB l then thinL l looks last else []
def riC (l : List En) : Int := if risesB l then 0 else 1
def ThinU (w : World) (l : List En) (looks : List Nat) (last : Bool) (e : Ending) (w' : World) : Prop := ∃ a n cap, e = .returned (.tuple #[.slice a n cap, .int .i64 (riC l)]) ∧ n = (thinA l looks last).length ∧ OwnC w' w.heap.size 69 4 (.slice a n cap) n ((thinA l looks last).flatMap enL) ∧ Ext w w'
theorem isK_step {l : List En} (hn : l.Nodup) {i : Nat} {x : En} (hx : l[i]? = some x) (looks : List Nat) : (seenB l i topS || looks.any fun s => seenB l i s) = leftP l looks x := by
  unfold leftP
  rw [seenE_at hn hx]
  congr 2
  funext s
  exact seenE_at hn hx s
theorem own_mono {w : World} {base b : Nat} {e : TypeId} {z n : Nat} {v : Value} {xs : List Value} (h : OwnC w b e z v n xs) (hb : base ≤ b) : OwnC w base e z v n xs := by
  obtain ⟨hl, h | ⟨g, cap, cur, h1, h2, h3⟩⟩ := h
  · exact ⟨hl, .inl h⟩
  · exact ⟨hl, .inr ⟨g, cap, cur, h1, Nat.le_trans hb h2, h3⟩⟩
theorem thinR_any (w : World) (l : List En) (looks : List Nat) (last : Bool) (a ka : Option Addr) (cap n kc kn : Nat) (hnl : n = l.length) (hkn : kn = looks.length) (hg : ∀ x ∈ l, x.small) (hq : ∀ e ∈ l, e.mark.seq ≤ topS) (hR : RowIs w 4 (.slice a n cap) n (l.flatMap enL)) (hK : RowIs w 1 (.slice ka kn kc) kn (nuL looks)) (hn : n ≤ 1000) (hk : kn ≤ 1000) : Calls Tryz.prog 17 #[.slice a n cap, .slice ka kn kc, .bool last] w (ThinU w l looks last) := by
  have hn' := Lib.hid hnl
  have hkn' := Lib.hid hkn
  have hR' := Lib.hid hR
  have hK' := Lib.hid hK
  have hq' := Lib.hid hq
  have hris : Hid (∀ W, Ext w W → Calls Tryz.prog 31 #[.slice a n cap] W fun e w' => e = .returned (.bool (risesB l)) ∧ Ext W w') := Lib.hid (fun W hE => by
    have := risesR_any W l a cap hg (by have := hR.ext hE; rwa [hnl] at this)
    rwa [← hnl] at this)
  clear hnl hkn hR hK hg hq
  go_enter Tryz.func17, Tryz.ntmps17
  go_wp2_with fail
  refine (hris.out w (Ext.refl _)).mono ?_
  rintro e w1 ⟨rfl, hE1⟩
  cases hr : risesB l with
  | false =>
    go_wp2_with fail
    refine bodyPost_ret (v := .tuple #[.slice none 0 0, .int .i64 1]) (by simp [results, Tryz.results17, go_sem]) rfl ?_
    refine ⟨none, 0, 0, by unfold riC; rw [hr]; rfl, by unfold thinA; rw [hr]; rfl, ?_, hE1⟩
    unfold thinA
    rw [hr]
    exact OwnC.nil _ _ _ _
  | true =>
    have hrl := Lib.hid ((risesB_iff l).1 hr)
    have hr' := Lib.hid hr
    have hnd := Lib.hid hrl.out.nodup
    have hdoc := Lib.hid (thin_doc hrl.out hq'.out looks last)
    clear hr hris
    have hb1 : w.heap.size ≤ w1.heap.size := hE1.size
    go_wp2_with fail
    go_loopw [8, 9, 10, 11] (fun out i _ _ wr => ∃ (k m : Nat) (oa : Option Addr) (oc : Nat), i = .int .i64 k ∧ k ≤ n ∧ out = .slice oa m oc ∧ m ≤ k ∧ Hid (m = ((l.take k).filter (leftP l looks)).length) ∧ Hid (OwnC wr w.heap.size 69 4 (.slice oa m oc) m (((l.take k).filter (leftP l looks)).flatMap enL)) ∧ Ext w wr) (fun _ i _ _ _ => n - (intOf i).toNat)
    case atStart => exact ⟨0, 0, none, 0, rfl, by omega, rfl, by omega, Lib.hid rfl, Lib.hid (OwnC.nil _ _ _ _), hE1⟩
    case round =>
      obtain ⟨k, m, oa, oc, rfl, hk1, rfl, hmk, hm, hown, hE⟩ := hrel
      by_cases hlt : k < n
      · have hli : (k : Int) < (n : Int) := by omega
        obtain ⟨x, hx⟩ : ∃ x, l[k]? = some x := ⟨_, List.getElem?_eq_getElem (by rw [← hn'.out]; exact hlt)⟩
        obtain ⟨lb, lo, hat⟩ := hR'.out.at
        obtain ⟨rfl, hcap, hd⟩ := hat (by omega)
        have hrg := Lib.hid (fun W (h : Ext w W) => show W.rangeAt lb (lo + k * 4) (enRow x).toList from fun r u hu => h.cell (ens_range (by rw [← hn'.out]; exact hd) hx r u hu))
        have hstep := Lib.hid (isK_step hnd.out hx looks)
        have hfil : Hid ((l.take (k + 1)).filter (leftP l looks) = (l.take k).filter (leftP l looks) ++ if leftP l looks x = true then [x] else []) := Lib.hid (by
          rw [List.take_add_one, hx, List.filter_append]
          cases hp : leftP l looks x <;> simp [hp])
        have hseen := Lib.hid (fun W (hE : Ext w W) (s : Nat) => seenR_any W l (some ⟨lb, lo, none⟩) cap n k s hn'.out (hR'.out.ext hE) hlt)
        clear hat hd hx
        go_wp2_with fail
        refine (hseen.out wr hE topS).mono ?_
        rintro e w2 ⟨rfl, hE2⟩
        have hE3 := hE.trans hE2
        have hown2 := Lib.hid (hown.out.ext hE2)
        clear hown hE hE2
        go_wp2_with fail
        go_loopw [10, 11] (fun is j wr => ∃ jj : Nat, j = .int .i64 jj ∧ jj ≤ kn ∧ is = .bool (seenB l k topS || (looks.take jj).any fun s => seenB l k s) ∧ Ext w2 wr) (fun _ j _ => kn - (intOf j).toNat)
        case atStart => exact ⟨0, rfl, by omega, by simp, Ext.refl _⟩
        case round =>
          obtain ⟨jj, rfl, hjj, rfl, hEj⟩ := hrel
          by_cases hjl : jj < kn
          · have hji : (jj : Int) < (kn : Int) := by omega
            obtain ⟨s, hs⟩ : ∃ s, looks[jj]? = some s := ⟨_, List.getElem?_eq_getElem (by rw [← hkn'.out]; exact hjl)⟩
            have hnx : Hid ((seenB l k topS || (looks.take (jj + 1)).any fun s => seenB l k s) = ((seenB l k topS || (looks.take jj).any fun s => seenB l k s) || seenB l k s)) := Lib.hid (by
              rw [List.take_add_one, hs, List.any_append]; simp [Bool.or_assoc])
            obtain ⟨kb, kof, hat⟩ := (hK'.out.ext (hE3.trans hEj)).at
            obtain ⟨rfl, _, hd⟩ := hat (by omega)
            have hkc := hd jj (by omega)
            rw [nuL, List.getElem?_map, hs] at hkc
            have hkc2 : wr.cell? ⟨kb, kof + jj, none⟩ = some (.int .u64 (s : Int)) := hkc
            clear hat hd hkc hs
            cases hb : (seenB l k topS || (looks.take jj).any fun s => seenB l k s) with
            | true =>
              rw [hb] at hnx
              go_wp2_with fail
              go_roundw
              case rel => exact ⟨jj + 1, by go_num, by omega, by rw [hnx.out]; rfl, hEj⟩
              case measure => simp [intOf]; omega
            | false =>
              rw [hb] at hnx
              go_wp2_with fail
              refine (hseen.out wr (hE3.trans hEj) s).mono ?_
              rintro e w4 ⟨rfl, hE4⟩
              go_wp2_with fail
              go_roundw
              case rel => exact ⟨jj + 1, by go_num, by omega, by rw [hnx.out]; rfl, hEj.trans hE4⟩
              case measure => simp [intOf]; omega
          · have hji : ¬ (jj : Int) < (kn : Int) := by omega
            have hjk : jj = kn := by omega
            have hval : Hid ((seenB l k topS || (looks.take jj).any fun s => seenB l k s) = leftP l looks x) := Lib.hid (by rw [hjk, hkn'.out, List.take_length]; exact hstep.out)
            have hEx := hE3.trans hEj
            have hown4 := Lib.hid (hown2.out.ext hEj)
            rw [hval.out]
            clear hjk hval hEj
            cases hp : leftP l looks x with
            | false =>
              have hf2 : Hid ((l.take (k + 1)).filter (leftP l looks) = (l.take k).filter (leftP l looks)) := Lib.hid (by rw [hfil.out, hp]; simp)
              clear hp
              go_wp2_with fail
              go_roundw
              case rel => exact ⟨k + 1, m, oa, oc, by go_num, by omega, rfl, by omega, Lib.hid (by rw [hf2.out]; exact hm.out), Lib.hid (by rw [hf2.out]; exact hown4.out), hEx⟩
              case measure => simp [intOf]; omega
            | true =>
              have hf2 : Hid ((l.take (k + 1)).filter (leftP l looks) = (l.take k).filter (leftP l looks) ++ [x]) := Lib.hid (by rw [hfil.out, hp]; rfl)
              have hbs : w.heap.size ≤ wr.heap.size := hEx.size
              have hg0 := hrg.out wr hEx
              clear hp
              go_wp2_with (first | (refine wpList_load_mid (by rfl) 69 (.tmp 48) (by rfl) lb (lo + k * 4) (by rfl) (enRow x).toList _ hg0 Tryz.underlying69 rfl (by exact info_entry) ?_) | (refine wpList_bs_entry (by rfl) (.tmp 49) (by rfl) x (by rfl) ?_) | (at_builtin; go_loud (refine wpList_append_c (by rfl) (.tmp 45) (.tmp 50) 22 69 (by rfl) Tryz.underlying22 el_entry wr w.heap.size m _ (.slice oa m oc) (by rfl) hown4.out (enRow x) (by rfl) (by rfl) (en_all x) (by omega) (by omega) hbs ?_); go_loud (intro v' w3 hA3; obtain ⟨oa', oc', rfl, _⟩ := hA3.own.form; have ho3 := Lib.hid hA3.own; have hX3 : Ext w w3 := Below.trans hEx hA3.below; clear hA3)) | fail)
              go_roundw
              case rel =>
                refine ⟨k + 1, m + 1, oa', oc', by go_num, by omega, rfl, by omega, Lib.hid (by rw [hf2.out, List.length_append, ← hm.out]; rfl), Lib.hid ?_, hX3⟩
                rw [hf2.out, List.flatMap_append]
                exact ho3.out
              case measure => simp [intOf]; omega
      · have hli : ¬ (k : Int) < (n : Int) := by omega
        have hkn2 : k = n := by omega
        have htk : (l.take k).filter (leftP l looks) = l.filter (leftP l looks) := by rw [hkn2, hn'.out, List.take_length]
        obtain ⟨L, hL⟩ : ∃ L, L = l.filter (leftP l looks) := ⟨_, rfl⟩
        have hm2 : Hid (m = L.length) := Lib.hid (by rw [hL, ← htk]; exact hm.out)
        have hown2 : Hid (OwnC wr w.heap.size 69 4 (.slice oa m oc) m (L.flatMap enL)) := Lib.hid (by rw [hL, ← htk]; exact hown.out)
        have hdoc2 : Hid (thinA l looks last = if last then trR L else L) := Lib.hid (by unfold thinA; rw [hr'.out, if_pos rfl, ← hdoc.out, hL]; rfl)
        clear hkn2 htk hm hown hdoc hL
        cases last with
        | false =>
          go_wp2_with fail
          refine bodyPost_ret (v := .tuple #[.slice oa m oc, .int .i64 0]) (by simp [results, Tryz.results17, go_sem]) rfl ?_
          refine ⟨oa, m, oc, by unfold riC; rw [hr'.out]; rfl, ?_, ?_, hE⟩
          · rw [hdoc2.out]; exact hm2.out
          · rw [hdoc2.out]; exact hown2.out
        | true =>
          have hm1 : m ≤ 1000 := by omega
          obtain ⟨V, hV⟩ : ∃ V, Hid (wr = V) := ⟨wr, Lib.hid rfl⟩
          have hownV : Hid (OwnC V w.heap.size 69 4 (.slice oa m oc) m (L.flatMap enL)) := Lib.hid (by rw [← hV.out]; exact hown2.out)
          have hEV : Ext w V := by rw [← hV.out]; exact hE
          clear hown2 hE
          go_wp2_with fail
          go_loopw [12, 13, 14, 15] (fun out i _ _ wr => ∃ (k p : Nat) (qa : Option Addr) (qc : Nat) (o : List En), i = .int .i64 k ∧ k ≤ m ∧ out = .slice qa p qc ∧ p ≤ k ∧ Hid (p = o.length) ∧ Hid (OwnC wr V.heap.size 69 4 (.slice qa p qc) p (o.flatMap enL)) ∧ Hid (o ++ trR (L.drop k) = trR L) ∧ Ext V wr) (fun _ i _ _ _ => m - (intOf i).toNat)
          case atStart => exact ⟨0, 0, none, 0, [], rfl, by omega, rfl, by omega, Lib.hid rfl, Lib.hid (OwnC.nil _ _ _ _), Lib.hid (by simp), by rw [hV.out]; exact Ext.refl _⟩
          case round =>
            obtain ⟨k, p, qa, qc, o, rfl, hk1, rfl, hpk, hp, hownq, htr, hEq⟩ := hrel
            by_cases hlt : k < m
            · have hli : (k : Int) < (m : Int) := by omega
              obtain ⟨x, hx⟩ : ∃ x, L[k]? = some x := ⟨_, List.getElem?_eq_getElem (by rw [← hm2.out]; exact hlt)⟩
              obtain ⟨lb, lo, hat⟩ := (hownV.out.row).at
              obtain ⟨rfl, hcap, hd⟩ := hat (by omega)
              have hrg := Lib.hid (fun W (h : Ext V W) (j : Nat) (y : En) (hy : L[j]? = some y) => show W.rangeAt lb (lo + j * 4) (enRow y).toList from fun r u hu => h.cell (ens_range (by rw [← hm2.out]; exact hd) hy r u hu))
              have hce := Lib.hid (fun W (h : Ext V W) (j : Nat) (y : En) (hy : L[j]? = some y) => show W.cell? ⟨lb, lo + j * 4, none⟩ = some (.string y.mark.key) ∧ W.cell? ⟨lb, lo + j * 4 + 2, none⟩ = some (.bool y.mark.gone) from by
                refine ⟨?_, hrg.out W h j y hy 2 _ rfl⟩
                have := hrg.out W h j y hy 0 (.string y.mark.key) rfl
                simpa using this)
              obtain ⟨D, hD⟩ : ∃ D, D = L.drop (k + 1) := ⟨_, rfl⟩
              have hDl : Hid (D.length = m - (k + 1)) := Lib.hid (by rw [hD, List.length_drop, ← hm2.out])
              have hDe : Hid (∀ d y, D[d]? = some y → L[k + 1 + d]? = some y) := Lib.hid (fun d y hy => by rw [hD, List.getElem?_drop] at hy; exact hy)
              have hdk : Hid (L.drop k = x :: D) := Lib.hid (by
                rw [hD]
                obtain ⟨h1, h2⟩ := List.getElem?_eq_some_iff.1 hx
                rw [← h2]
                exact List.drop_eq_getElem_cons h1)
              have hx' := Lib.hid hx
              obtain ⟨c0, c2⟩ := hce.out wr hEq k x hx
              clear hat hd hx hD
              obtain ⟨U, hU⟩ : ∃ U, Hid (wr = U) := ⟨wr, Lib.hid rfl⟩
              have hownU : Hid (OwnC U V.heap.size 69 4 (.slice qa p qc) p (o.flatMap enL)) := Lib.hid (by rw [← hU.out]; exact hownq.out)
              have hEU : Ext V U := by rw [← hU.out]; exact hEq
              clear hownq hEq
              go_wp2_with fail
              clear c0 c2
              go_loopw [14, 15] (fun st j wr => ∃ d : Nat, j = .int .i64 ((k + 1 + d : Nat) : Int) ∧ k + 1 + d ≤ m ∧ st = .bool (stK x (D.take d)) ∧ Ext U wr) (fun _ j _ => m - (intOf j).toNat)
              case atStart => exact ⟨0, by go_num, by omega, by simp [stK], by rw [hU.out]; exact Ext.refl _⟩
              case round =>
                obtain ⟨d, rfl, hd1, rfl, hEz⟩ := hrel
                have hEy := hEU.trans hEz
                by_cases hdl : k + 1 + d < m
                · obtain ⟨J, hJ⟩ : ∃ J, J = k + 1 + d := ⟨_, rfl⟩
                  rw [← hJ] at hdl hd1 ⊢
                  have hdi : (J : Int) < (m : Int) := by omega
                  obtain ⟨y, hy⟩ : ∃ y, D[d]? = some y := ⟨_, List.getElem?_eq_getElem (by rw [hDl.out]; omega)⟩
                  have hLy := hDe.out d y hy
                  rw [← hJ] at hLy
                  have hnx : Hid (stK x (D.take (d + 1)) = (stK x (D.take d) || (y.mark.key.toList == x.mark.key.toList && !y.mark.gone))) := Lib.hid (by
                    unfold stK
                    rw [List.take_add_one, hy, List.any_append]; simp [Bool.or_assoc])
                  obtain ⟨c0, c2⟩ := hce.out wr hEy k x hx'.out
                  obtain ⟨q0, q2⟩ := hce.out wr hEy J y hLy
                  have hJ' := Lib.hid hJ
                  clear hy hLy hJ
                  cases hb : stK x (D.take d) with
                  | true =>
                    rw [hb] at hnx
                    go_upto_region 24 with fail
                    go_quiet (fail)
                    go_wp2_with fail
                    go_roundw
                    case rel => exact ⟨d + 1, by have := hJ'.out; go_num, by have := hJ'.out; omega, by rw [hnx.out]; rfl, hEz.trans ⟨rfl, rfl, rfl, Nat.le_refl _, fun _ _ => rfl⟩⟩
                    case measure => simp [intOf]; omega
                  | false =>
                    rw [hb] at hnx
                    cases hkk : y.mark.key.toList == x.mark.key.toList with
                    | false =>
                      have hnx2 : Hid (stK x (D.take (d + 1)) = false) := Lib.hid (by rw [hnx.out, hkk]; rfl)
                      go_upto_region 24 with fail
                      go_quiet (fail)
                      go_wp2_with fail
                      go_roundw
                      case rel => exact ⟨d + 1, by have := hJ'.out; go_num, by have := hJ'.out; omega, by rw [hnx2.out], hEz.trans ⟨rfl, rfl, rfl, Nat.le_refl _, fun _ _ => rfl⟩⟩
                      case measure => simp [intOf]; omega
                    | true =>
                      cases hgn : y.mark.gone with
                      | true =>
                        rw [hgn] at q2
                        have hnx2 : Hid (stK x (D.take (d + 1)) = false) := Lib.hid (by rw [hnx.out, hkk, hgn]; rfl)
                        go_upto_region 24 with fail
                        go_quiet (fail)
                        go_wp2_with fail
                        go_roundw
                        case rel => exact ⟨d + 1, by have := hJ'.out; go_num, by have := hJ'.out; omega, by rw [hnx2.out], hEz.trans ⟨rfl, rfl, rfl, Nat.le_refl _, fun _ _ => rfl⟩⟩
                        case measure => simp [intOf]; omega
                      | false =>
                        rw [hgn] at q2
                        have hnx2 : Hid (stK x (D.take (d + 1)) = true) := Lib.hid (by rw [hnx.out, hkk, hgn]; rfl)
                        go_upto_region 24 with fail
                        go_quiet (fail)
                        go_wp2_with fail
                        go_roundw
                        case rel => exact ⟨d + 1, by have := hJ'.out; go_num, by have := hJ'.out; omega, by rw [hnx2.out], hEz.trans ⟨rfl, rfl, rfl, Nat.le_refl _, fun _ _ => rfl⟩⟩
                        case measure => simp [intOf]; omega
                · have hdm : k + 1 + d = m := by omega
                  have hdi : ¬ ((k + 1 + d : Nat) : Int) < (m : Int) := by omega
                  have hval : Hid (stK x (D.take d) = stK x D) := Lib.hid (by rw [List.take_of_length_le (by rw [hDl.out]; omega)])
                  have hownz := Lib.hid (hownU.out.ext hEz)
                  rw [hval.out]
                  clear hval hownU hEz
                  cases hb : stK x D with
                  | false =>
                    have ht2 : Hid (o ++ trR (L.drop (k + 1)) = trR L) := Lib.hid (by
                      have h1 := htr.out
                      rw [hdk.out, trR, hb] at h1
                      rw [← h1, show L.drop (k + 1) = D by rw [← List.drop_drop, hdk.out]; rfl]
                      rfl)
                    clear hb
                    go_wp2_with fail
                    go_roundw
                    case rel => exact ⟨k + 1, p, qa, qc, o, by go_num, by omega, rfl, by omega, hp, hownz, ht2, hEy⟩
                    case measure => simp [intOf]; omega
                  | true =>
                    have ht2 : Hid ((o ++ [x]) ++ trR (L.drop (k + 1)) = trR L) := Lib.hid (by
                      have h1 := htr.out
                      rw [hdk.out, trR, hb, if_pos rfl] at h1
                      rw [← h1, show L.drop (k + 1) = D by rw [← List.drop_drop, hdk.out]; rfl, List.append_assoc]
                      rfl)
                    have hbs : V.heap.size ≤ wr.heap.size := hEy.size
                    have hg0 := hrg.out wr hEy k x hx'.out
                    clear hb
                    go_wp2_with (first | (refine wpList_load_mid (by rfl) 69 (.tmp 105) (by rfl) lb (lo + k * 4) (by rfl) (enRow x).toList _ hg0 Tryz.underlying69 rfl (by exact info_entry) ?_) | (refine wpList_bs_entry (by rfl) (.tmp 106) (by rfl) x (by rfl) ?_) | (at_builtin; go_loud (refine wpList_append_c (by rfl) (.tmp 102) (.tmp 107) 22 69 (by rfl) Tryz.underlying22 el_entry wr V.heap.size p _ (.slice qa p qc) (by rfl) hownz.out (enRow x) (by rfl) (by rfl) (en_all x) (by omega) (by omega) hbs ?_); go_loud (intro v' w3 hA3; obtain ⟨oa', oc', rfl, _⟩ := hA3.own.form; have ho3 := Lib.hid hA3.own; have hX3 : Ext V w3 := Below.trans hEy hA3.below; clear hA3)) | fail)
                    go_roundw
                    case rel =>
                      refine ⟨k + 1, p + 1, oa', oc', o ++ [x], by go_num, by omega, rfl, by omega, Lib.hid (by rw [List.length_append, ← hp.out]; rfl), Lib.hid ?_, ht2, hX3⟩
                      rw [List.flatMap_append]
                      exact ho3.out
                    case measure => simp [intOf]; omega
            · have hli : ¬ (k : Int) < (m : Int) := by omega
              have hkm : k = m := by omega
              have ho : Hid (o = trR L) := Lib.hid (by
                have h1 := htr.out
                rw [hkm, hm2.out, List.drop_length] at h1
                rw [← h1]
                show o = o ++ []
                rw [List.append_nil])
              have hp2 : Hid (p = (trR L).length) := Lib.hid (by rw [← ho.out]; exact hp.out)
              have hown3 : Hid (OwnC wr V.heap.size 69 4 (.slice qa p qc) p ((trR L).flatMap enL)) := Lib.hid (by rw [← ho.out]; exact hownq.out)
              have hsz := hEV.size
              clear hkm ho hp hownq htr
              go_wp2_with fail
              refine bodyPost_ret (v := .tuple #[.slice qa p qc, .int .i64 0]) (by simp [results, Tryz.results17, go_sem]) rfl ?_
              refine ⟨qa, p, qc, by unfold riC; rw [hr'.out]; rfl, ?_, ?_, hEV.trans hEq⟩
              · rw [hdoc2.out]; exact hp2.out
              · rw [hdoc2.out]; exact own_mono hown3.out hsz
end Go.Proofs.YtefllplgbalbkaaGreatDoor
