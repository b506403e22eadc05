/- The document's answer: See. No condition. -/
import Derived.Test.YtefllplgbalbkaaGreatDoorRf1
import Derived.Test.YtefllplgbalbkaaGreatDoorTwE
namespace Go.Proofs.YtefllplgbalbkaaGreatDoor
open Go.RowKit
set_option maxRecDepth 100000
set_option maxHeartbeats 2000000
theorem key_le {a b : En} (h : a.mark.ltB b.mark = true) : Op.bytesLess a.mark.key.toList b.mark.key.toList = true ∨ a.mark.key.toList = b.mark.key.toList := by
  rcases Mk.lt_iff.1 h with h | ⟨h, _⟩
  · exact .inl h
  · exact .inr h
/-- Among what rises ahead of x one has x's key just if the last one has. -/
theorem any_last {F : List En} {x : En} (h : Rises (F ++ [x])) (f : En → Bool) (hf : ∀ e ∈ F, f e = true) : F.any (fun e => e.mark.key.toList == x.mark.key.toList && f e) = (lastK none F == some x.mark.key.toList) := by
  rcases List.eq_nil_or_concat F with rfl | ⟨F', z, rfl⟩
  · rfl
  · rw [List.concat_eq_append] at h hf ⊢
    rw [lastK_snoc, Bool.eq_iff_iff, List.any_eq_true, beq_iff_eq]
    have hzx : z.mark.ltB x.mark = true := (List.pairwise_append.1 h).2.2 z (by simp) x (by simp)
    constructor
    · rintro ⟨e, he, h1⟩
      rw [Bool.and_eq_true, beq_iff_eq] at h1
      rcases key_le hzx with h2 | h2
      · exfalso
        have h3 : Op.bytesLess e.mark.key.toList x.mark.key.toList = true := by
          rcases List.mem_append.1 he with he | he
          · have hez : e.mark.ltB z.mark = true := (List.pairwise_append.1 (List.pairwise_append.1 h).1).2.2 e he z (by simp)
            rcases key_le hez with h4 | h4
            · exact bl_trans _ _ _ h4 h2
            · rw [h4]; exact h2
          · rw [List.mem_singleton.1 he]; exact h2
        rw [h1.1, bl_irrefl] at h3
        cases h3
      · rw [h2]
    · intro h1
      injection h1 with h1
      exact ⟨z, by simp, by rw [h1, hf z (by simp)]; simp⟩
theorem seen_any_eq {l : List En} (h : Rises l) {i : Nat} {x : En} (hx : l[i]? = some x) (s : Nat) : seenB l i s = (pS s x && !(lastK none ((l.take i).filter (pS s)) == some x.mark.key.toList)) := by
  unfold seenB
  rw [hx]
  show (pS s x && !(l.take i).any (fun e => e.mark.key.toList == x.mark.key.toList && pS s e)) = _
  have h1 : Rises ((l.take i).filter (pS s) ++ [x]) := by
    have h2 : (l.take (i + 1)) = l.take i ++ [x] := by rw [List.take_add_one, hx]; rfl
    have h3 : Rises (l.take i ++ [x]) := by rw [← h2]; exact h.sublist (List.take_sublist _ _)
    exact h3.sublist (List.Sublist.append List.filter_sublist (List.Sublist.refl _))
  have h2 := any_last h1 (pS s) (fun e he => (List.mem_filter.1 he).2)
  rw [← h2]
  congr 2
  rw [List.any_filter]
  congr 1
  funext e
  cases pS s e <;> simp
/-- One entry more. -/
theorem hd_step {l : List En} (h : Rises l) {i : Nat} {x : En} (hx : l[i]? = some x) (s : Nat) : hdL none ((l.take (i + 1)).filter (pS s)) = hdL none ((l.take i).filter (pS s)) ++ if (seenB l i s && !x.mark.gone) = true then [rowE x] else [] := by
  have h2 : (l.take (i + 1)) = l.take i ++ [x] := by rw [List.take_add_one, hx]; rfl
  rw [h2, List.filter_append, seen_any_eq h hx]
  cases hp : pS s x with
  | false => simp [hp]
  | true =>
    rw [show [x].filter (pS s) = [x] by simp [hp], hdL_snoc]
    congr 1
/-- See, as the document has it. -/
def SeeRE (w : World) (l : List En) (s : Nat) (e : Ending) (w' : World) : Prop := Ext w w' ∧ (risesB l = false → e = .returned (.tuple #[.slice none 0 0, .int .i64 1])) ∧ (risesB l = true → ∃ a cap, e = .returned (.tuple #[.slice a (seeL l s).length cap, .int .i64 0]) ∧ OwnC w' w.heap.size 74 2 (.slice a (seeL l s).length cap) (seeL l s).length ((seeL l s).flatMap rwL))
theorem seeR_any (w : World) (l : List En) (s : Nat) (a : Option Addr) (cap n : Nat) (hnl : n = l.length) (hg : ∀ x ∈ l, x.small) (hR : RowIs w 4 (.slice a n cap) n (l.flatMap enL)) (hn : n ≤ 1000) : Calls Tryz.prog 9 #[.slice a n cap, .int .u64 (s : Int)] w (SeeRE w l s) := by
  have hn' := Lib.hid hnl
  have hR' := Lib.hid hR
  have hris : Hid (∀ W, Ext w W → Calls Tryz.prog 31 #[.slice a n cap] W fun e w' => e = .returned (.bool (risesB l)) ∧ Ext W w') := Lib.hid (fun W hE => by
    have := risesR_any W l a cap hg (by have := hR.ext hE; rwa [hnl] at this)
    rwa [← hnl] at this)
  clear hnl hR hg
  go_enter Tryz.func9, Tryz.ntmps9
  go_wp2_with fail
  refine (hris.out w (Ext.refl _)).mono ?_
  rintro e w1 ⟨rfl, hE1⟩
  cases hr : risesB l with
  | false =>
    go_wp2_with fail
    exact bodyPost_ret (v := .tuple #[.slice none 0 0, .int .i64 1]) (by simp [results, Tryz.results9, go_sem]) rfl ⟨hE1, fun _ => rfl, fun h => by rw [hr] at h; cases h⟩
  | true =>
    have hrl := Lib.hid ((risesB_iff l).1 hr)
    have hr' := Lib.hid hr
    clear hr hris
    have hb1 : w.heap.size ≤ w1.heap.size := hE1.size
    go_wp2_with fail
    go_loopw [6, 7] (fun out i wr => ∃ (k m : Nat) (oa : Option Addr) (oc : Nat), i = .int .i64 k ∧ k ≤ n ∧ out = .slice oa m oc ∧ m ≤ k ∧ Hid (m = (hdL none ((l.take k).filter (pS s))).length) ∧ Hid (OwnC wr w.heap.size 74 2 (.slice oa m oc) m ((hdL none ((l.take k).filter (pS s))).flatMap rwL)) ∧ Ext w wr) (fun _ i _ => n - (intOf i).toNat)
    case atStart => exact ⟨0, 0, none, 0, rfl, by omega, rfl, by omega, Lib.hid rfl, Lib.hid (OwnC.nil _ _ _ _), hE1⟩
    case round =>
      obtain ⟨k, m, oa, oc, rfl, hk, rfl, hmk, hm, hown, hE⟩ := hrel
      by_cases hlt : k < n
      · have hli : (k : Int) < (n : Int) := by omega
        obtain ⟨x, hx⟩ : ∃ x, l[k]? = some x := ⟨_, List.getElem?_eq_getElem (by rw [← hn'.out]; exact hlt)⟩
        obtain ⟨lb, lo, hat⟩ := hR'.out.at
        obtain ⟨rfl, hcap, hd⟩ := hat (by omega)
        have hrg := ens_range (by rw [← hn'.out]; exact hd) hx
        have hlb : lb < w.heap.size := World.block_lt_of_cell? w _ (hrg 2 _ rfl)
        have hread : Hid (∀ w', Below w.heap.size w w' → w'.cell? ⟨lb, lo + k * 4, none⟩ = some (.string x.mark.key) ∧ w'.cell? ⟨lb, lo + k * 4 + 2, none⟩ = some (.bool x.mark.gone) ∧ w'.cell? ⟨lb, lo + k * 4 + 3, none⟩ = some (.string x.val)) := Lib.hid (fun w' hB => by
          refine ⟨?_, (Below.cell hB (p := ⟨lb, lo + k * 4 + 2, none⟩) hlb).trans (hrg 2 _ rfl), (Below.cell hB (p := ⟨lb, lo + k * 4 + 3, none⟩) hlb).trans (hrg 3 _ rfl)⟩
          have := (Below.cell hB (p := ⟨lb, lo + k * 4 + 0, none⟩) hlb).trans (hrg 0 (.string x.mark.key) rfl)
          simpa using this)
        have hst := Lib.hid (hd_step hrl.out hx s)
        have hseen := Lib.hid (fun W (hE : Ext w W) => seenR_any W l (some ⟨lb, lo, none⟩) cap n k s hn'.out (hR'.out.ext hE) hlt)
        clear hat hd hrg hx
        go_wp2_with fail
        refine (hseen.out wr hE).mono ?_
        rintro e w2 ⟨rfl, hE2⟩
        have hE3 := hE.trans hE2
        obtain ⟨c0, c2, c3⟩ := hread.out w2 hE3
        have hown2 := Lib.hid (hown.out.ext hE2)
        cases hsb : seenB l k s with
        | false =>
          have hnx : Hid (hdL none ((l.take (k + 1)).filter (pS s)) = hdL none ((l.take k).filter (pS s))) := Lib.hid (by rw [hst.out, hsb]; simp)
          clear hsb
          go_wp2_with fail
          go_roundw
          case rel => exact ⟨k + 1, m, oa, oc, by go_num, by omega, rfl, by omega, Lib.hid (by rw [hnx.out]; exact hm.out), Lib.hid (by rw [hnx.out]; exact hown2.out), hE3⟩
          case measure => simp [intOf]; omega
        | true =>
          cases hgn : x.mark.gone with
          | true =>
            rw [hgn] at c2
            have hnx : Hid (hdL none ((l.take (k + 1)).filter (pS s)) = hdL none ((l.take k).filter (pS s))) := Lib.hid (by rw [hst.out, hgn]; simp)
            clear hsb hgn
            go_wp2_with fail
            go_roundw
            case rel => exact ⟨k + 1, m, oa, oc, by go_num, by omega, rfl, by omega, Lib.hid (by rw [hnx.out]; exact hm.out), Lib.hid (by rw [hnx.out]; exact hown2.out), hE3⟩
            case measure => simp [intOf]; omega
          | false =>
            rw [hgn] at c2
            have hnx : Hid (hdL none ((l.take (k + 1)).filter (pS s)) = hdL none ((l.take k).filter (pS s)) ++ [rowE x]) := Lib.hid (by rw [hst.out, hsb, hgn]; rfl)
            clear hsb hgn
            have hbs : w.heap.size ≤ w2.drew.heap.size := hE3.size
            have hownd := Lib.hid (hown2.out.ext (Ext.refl w2).drew)
            have hS : Hid (∀ w', Below w.heap.size w2 w' → w'.cell? ⟨lb, lo + k * 4, none⟩ = some (.string x.mark.key) ∧ w'.cell? ⟨lb, lo + k * 4 + 3, none⟩ = some (.string x.val)) := Lib.hid (fun w' hB => by
              obtain ⟨d0, _, d3⟩ := hread.out w' (Below.trans hE3 hB)
              exact ⟨d0, d3⟩)
            have hbe : Hid (∀ w', Ext w2 w' → Below w.heap.size w2 w') := Lib.hid (fun w' h => h.mono hE3.size)
            go_upto_region 8 with fail
            go_region_held3 (fun w' => w'.cell? ⟨lb, lo + k * 4, none⟩ = some (.string x.mark.key) ∧ w'.cell? ⟨lb, lo + k * 4 + 3, none⟩ = some (.string x.val)) ((refine hS.out _ ?_; first | exact hbe.out _ (Ext.refl _).drew | exact hbe.out _ ((Ext.refl _).drew.alloc _) | exact hbe.out _ ((Ext.refl _).alloc _).drew | assumption)) (first | ((refine step_append_c rfl (.tmp 30) (.tmp 43) 26 74 rfl Tryz.underlying26 el_row w2.drew w.heap.size m _ (.slice oa m oc) (by rfl) hownd.out #[.string x.mark.key, .string x.val] (by rfl) (by rfl) (by simp [Value.oneCell']) (by omega) (by omega) hbs ?_); (intro v' w6 hA; obtain ⟨oa4, oc4, rfl, _⟩ := hA.own.form; have hB6 : Below w.heap.size w2 w6 := Below.trans (hbe.out _ (Ext.refl _).drew) hA.below; have ho6 := Lib.hid hA.own; clear hA)) | fail)
            all_goals
              clear c0 c2 c3
              go_wp2_with fail
              go_roundw
              case rel => exact ⟨k + 1, m + 1, oa4, oc4, by go_num, by omega, rfl, by omega, Lib.hid (by rw [hnx.out, List.length_append, ← hm.out]; rfl), Lib.hid (by rw [hnx.out, List.flatMap_append]; exact ho6.out), Below.trans hE3 hB6⟩
              case measure => simp [intOf]; omega
      · have hli : ¬ (k : Int) < (n : Int) := by omega
        have hkn : k = n := by omega
        have htk : (l.take k).filter (pS s) = l.filter (pS s) := by rw [hkn, hn'.out, List.take_length]
        have hsl : Hid (hdL none ((l.take k).filter (pS s)) = seeL l s) := Lib.hid (by rw [htk]; exact (see_heads hrl.out s).symm)
        have hm2 : Hid (m = (seeL l s).length) := Lib.hid (by rw [← hsl.out]; exact hm.out)
        have hown2 : Hid (OwnC wr w.heap.size 74 2 (.slice oa m oc) m ((seeL l s).flatMap rwL)) := Lib.hid (by rw [← hsl.out]; exact hown.out)
        clear hkn htk
        go_wp2_with fail
        refine bodyPost_ret (v := .tuple #[.slice oa m oc, .int .i64 0]) (by simp [results, Tryz.results9, go_sem]) rfl ?_
        refine ⟨hE, fun h => ?_, fun _ => ⟨oa, oc, ?_, ?_⟩⟩
        · rw [hr'.out] at h; cases h
        · rw [← hm2.out]
        · rw [← hm2.out]; exact hown2.out
end Go.Proofs.YtefllplgbalbkaaGreatDoor
