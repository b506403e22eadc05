/- Several texts in one: BkONum BkORow BkOEntry. No condition. -/
import Derived.Test.YtfcpnkalcijflaaGreatDoorGrC
import Derived.Test.YtfcpnkalcijflaaGreatDoorBq
import Derived.Deep.CutRange
import Derived.BigQuiet
/- lookEntry: all lists, and what is behind them, are looked at. No condition. -/
namespace Go.Proofs.YtfcpnkalcijflaaGreatDoor
open Go.RowKit
set_option maxRecDepth 100000
set_option maxHeartbeats 4000000
theorem lookEntry_any {base N0 g n : Nat} {T : Nat → Kd} {st : Nat → Nat} {w : World} (h : BkI bkT base N0 g n T st w) (h2 : st 8 = 2) (hnum : ∀ x ∈ (T 8).2, x.num < numTop) (hm : (T 8).2.length ≤ 1000000) :
    Calls Tryz.prog 59 #[.pointer (some ⟨g, 0, none⟩)] w fun e w' => e = .returned (.bool true) ∧ Ext w w' := by
  obtain ⟨M, hM⟩ : ∃ m, m = (T 8).2.length := ⟨_, rfl⟩
  obtain ⟨ha, hc, hva⟩ : ∃ a c, (T 8).1 = .slice a M c := by
    obtain ⟨a, c, e, _⟩ := (h.hdr 8).form
    exact ⟨a, c, by rw [hM]; exact e⟩
  rw [← hM] at hm
  have hcg : w.cell? ⟨g, 8, none⟩ = some (.slice ha M hc) := by rw [cell_of_row _ _ _ _ _ _ h.row, ← hva]; rfl
  have hM' := Lib.hid hM
  have hnum' := Lib.hid hnum
  have h' := Lib.hid h
  have h2' := Lib.hid h2
  have hva' := Lib.hid hva
  clear hM hnum h h2 hva
  go_enter Tryz.func59, Tryz.ntmps59
  go_wp2_with fail
  go_loopw [3, 4, 5] (fun i _ _ wr => ∃ k : Nat, i = .int .i64 k ∧ k ≤ M ∧ Ext w wr) (fun i _ _ _ => M - (intOf i).toNat)
  case atStart => exact ⟨0, rfl, by omega, Ext.refl _⟩
  case round =>
    obtain ⟨k, rfl, hk, hE⟩ := hrel
    have hcg2 := hE.cell hcg
    by_cases hkM : k < M
    · have hki : (k : Int) < (M : Int) := by omega
      obtain ⟨y, hy⟩ : ∃ x, (T 8).2[k]? = some x := ⟨_, List.getElem?_eq_getElem (by rw [← hM'.out]; exact hkM)⟩
      have hI := h'.out.ext hE
      obtain ⟨hb, hcap, e1, ec, q0, q1, q2, _⟩ := hdr_cells (hI.hdr 8) hy
      rw [hva'.out] at e1
      injection e1 with e1 elen e3
      clear elen
      subst e1 e3
      rw [← hM'.out] at ec
      have hst := (hI.lst 8 y (List.mem_of_getElem? hy)).1
      rw [h2'.out] at hst
      obtain ⟨hown, hlong, _⟩ := hst
      have hlb := (hI.lst 8 y (List.mem_of_getElem? hy)).2
      have hn1 := hnum'.out y (List.mem_of_getElem? hy)
      obtain ⟨len, hlen⟩ : ∃ z, z = y.len := ⟨_, rfl⟩
      obtain ⟨num, hnm⟩ : ∃ z, z = y.num := ⟨_, rfl⟩
      obtain ⟨la, lc, hsl, hlc, _⟩ := hown.form
      obtain ⟨ga, gc, hgl, hgc, _⟩ := hlong.form
      rw [← hlen] at hsl hgl hlb
      rw [← hnm] at hn1
      have hr1 := hown.row
      have hr2 := hlong.row
      rw [hsl, ← hlen, ← hnm] at hr1
      rw [hgl, ← hlen, ← hnm] at hr2
      rw [hsl] at q0
      rw [hgl] at q1
      rw [← hnm] at q2
      have hr1' := Lib.hid hr1
      obtain ⟨gb, go, e4, hgc2, hrl⟩ := reps_range hr2 rfl (by omega)
      subst e4
      have hrl' := Lib.hid hrl
      clear hown hlong hlen hnm hsl hgl hr1 hr2 hI hrl hlc hgc hy
      obtain ⟨Wl, hWl⟩ : ∃ W, W = wr.alloc (.cells #[.slice la len lc, .slice (some ⟨gb, go, none⟩) (len + 40) gc, .int .i64 (num : Int)] 75) := ⟨_, rfl⟩
      obtain ⟨hl, hhl⟩ : ∃ z, z = wr.heap.size := ⟨_, rfl⟩
      have hEl : Ext wr Wl := by rw [hWl]; exact (Ext.refl _).alloc _
      have hrow : Wl.heap[hl]? = some (.cells #[.slice la len lc, .slice (some ⟨gb, go, none⟩) (len + 40) gc, .int .i64 (num : Int)] 75 (0, 0)) := by rw [hWl, hhl]; exact heap_alloc_new wr _
      have hL : Hid (∀ w', Ext Wl w' → w'.cell? ⟨hl, 0, none⟩ = some (.slice la len lc) ∧ w'.cell? ⟨hl, 1, none⟩ = some (.slice (some ⟨gb, go, none⟩) (len + 40) gc) ∧ w'.cell? ⟨hl, 2, none⟩ = some (.int .i64 (num : Int))) := Lib.hid (fun w' h => by
        have h1 := h.row hrow
        exact ⟨by rw [cell_of_row _ _ _ _ _ _ h1]; rfl, by rw [cell_of_row _ _ _ _ _ _ h1]; rfl, by rw [cell_of_row _ _ _ _ _ _ h1]; rfl⟩)
      obtain ⟨l0, l1, l2⟩ := hL.out Wl (Ext.refl _)
      have e40 : ((len + 40 : Nat) : Int) = (len : Int) + 40 := by omega
      have hw40 : IntKind.i64.wrap ((len : Int) + 40) = (len : Int) + 40 := by rw [IntKind.wrap_i64]; omega
      have hWl' := Lib.hid hWl
      have hhl' := Lib.hid hhl
      have hEl' := Lib.hid hEl
      clear hWl hhl hEl hrow
      go_upto_region 5 with fail
      rw [← hWl'.out, ← hhl'.out]
      go_wp2_with fail
      go_loopw [5] (fun i w2 => ∃ k2 : Nat, i = .int .i64 k2 ∧ k2 ≤ len + 40 ∧ Ext Wl w2) (fun i _ => len + 40 - (intOf i).toNat)
      case atStart => exact ⟨0, rfl, by omega, Ext.refl _⟩
      case round =>
        clear l0 l1 l2 q0 q1 q2 hcg2 hw40
        obtain ⟨k2, rfl, hk2, hE2⟩ := hrel
        obtain ⟨l0, l1, l2⟩ := hL.out _ hE2
        by_cases hlt : k2 < len + 40
        · have hlti : (k2 : Int) < (len : Int) + 40 := by omega
          have hT : Hid (∀ W, Ext wr W → TabW W) := Lib.hid (fun W hE4 => h'.out.tab W ((((hE.trans hEl'.out).trans hE2).trans hE4).mono h'.out.base_le))
          obtain ⟨s, hs2⟩ : ∃ s, s = wordB num := ⟨_, rfl⟩
          have his : Hid (∀ W, Ext wr W → Calls Tryz.prog 88 #[.agg #[.string s, .int .u64 0, .bool false, .string ⟨#[]⟩], .int .i64 (num : Int)] W fun e w' => e = .returned (.bool true) ∧ Ext W w') := Lib.hid (fun W hE => by rw [hs2]; exact isEntry_any W num hn1 (fun W' hE' => hT.out W' (hE.trans hE')))
          have hmk : Hid (mkEntryL num = [.string s, .int .u64 0, .bool false, .string ⟨#[]⟩]) := Lib.hid (by rw [hs2]; rfl)
          have hg2 : wr.rangeAt gb (go + k2 * 4) (mkEntryL num) := fun i v hv => hE2.cell (hEl'.out.cell (hrl'.out k2 hlt i v hv))
          rw [hmk.out] at hg2
          clear hs2
          by_cases hin : k2 < len
          · have hini : (k2 : Int) < (len : Int) := by omega
            obtain ⟨ab, ao, e5, _, hra⟩ := reps_range hr1'.out rfl (by omega)
            subst e5
            have ha2 : wr.rangeAt ab (ao + k2 * 4) (mkEntryL num) := fun i v hv => hE2.cell (hEl'.out.cell (hra k2 hin i v hv))
            rw [hmk.out] at ha2
            clear hra
            go_upto_region 10 with fail
            refine bqRegion (Ext wr) (by kernel_rfl) (by kernel_rfl) (Ext.refl _).drew ?_
            iterate 1 (refine bqStep (fun K hK => ?_); go_simp; first | (refine hK _ ?_; clear hK K) | (refine ⟨_, fun _ _ => rfl, hK _ ?_⟩; clear hK K))
            refine bqCell (by rfl) 27 _ (by rfl) hl 1 (by rfl) _ (fun w' hw => (hL.out w' (hE2.trans hw)).2.1) _ Tryz.underlying27 rfl ?_
            iterate 2 (refine bqStep (fun K hK => ?_); go_simp; first | (refine hK _ ?_; clear hK K) | (refine ⟨_, fun _ _ => rfl, hK _ ?_⟩; clear hK K))
            refine bqMid (by rfl) 49 _ (by rfl) gb (go + k2 * 4) (by rfl) [.string s, .int .u64 0, .bool false, .string ⟨#[]⟩] _ (fun w' hw i v hv => hw.cell (hg2 i v hv)) Tryz.underlying49 rfl (by exact info_entryM) ?_
            iterate 1 (refine bqStep (fun K hK => ?_); go_simp; first | (refine hK _ ?_; clear hK K) | (refine ⟨_, fun _ _ => rfl, hK _ ?_⟩; clear hK K))
            refine bqCell (by rfl) 3 _ (by rfl) hl 2 (by rfl) _ (fun w' hw => (hL.out w' (hE2.trans hw)).2.2) _ Tryz.underlying3 rfl ?_
            refine bqStep (fun K hK => ?_); go_simp; refine ⟨_, fun w' hw => (his.out w' hw).mono (fun e w'' h => ⟨h.1, hw.trans h.2⟩), hK _ ?_⟩; clear hK K
            iterate 4 (refine bqStep (fun K hK => ?_); go_simp; first | (refine hK _ ?_; clear hK K) | (refine ⟨_, fun _ _ => rfl, hK _ ?_⟩; clear hK K))
            refine bqCell (by rfl) 27 _ (by rfl) hl 0 (by rfl) _ (fun w' hw => (hL.out w' (hE2.trans hw)).1) _ Tryz.underlying27 rfl ?_
            iterate 3 (refine bqStep (fun K hK => ?_); go_simp; first | (refine hK _ ?_; clear hK K) | (refine ⟨_, fun _ _ => rfl, hK _ ?_⟩; clear hK K))
            iterate 1 (refine bqStep (fun K hK => ?_); go_simp; first | (refine hK _ ?_; clear hK K) | (refine ⟨_, fun _ _ => rfl, hK _ ?_⟩; clear hK K))
            refine bqCell (by rfl) 27 _ (by rfl) hl 0 (by rfl) _ (fun w' hw => (hL.out w' (hE2.trans hw)).1) _ Tryz.underlying27 rfl ?_
            iterate 2 (refine bqStep (fun K hK => ?_); go_simp; first | (refine hK _ ?_; clear hK K) | (refine ⟨_, fun _ _ => rfl, hK _ ?_⟩; clear hK K))
            refine bqMid (by rfl) 49 _ (by rfl) ab (ao + k2 * 4) (by rfl) [.string s, .int .u64 0, .bool false, .string ⟨#[]⟩] _ (fun w' hw i v hv => hw.cell (ha2 i v hv)) Tryz.underlying49 rfl (by exact info_entryM) ?_
            iterate 1 (refine bqStep (fun K hK => ?_); go_simp; first | (refine hK _ ?_; clear hK K) | (refine ⟨_, fun _ _ => rfl, hK _ ?_⟩; clear hK K))
            refine bqCell (by rfl) 3 _ (by rfl) hl 2 (by rfl) _ (fun w' hw => (hL.out w' (hE2.trans hw)).2.2) _ Tryz.underlying3 rfl ?_
            refine bqStep (fun K hK => ?_); go_simp; refine ⟨_, fun w' hw => (his.out w' hw).mono (fun e w'' h => ⟨h.1, hw.trans h.2⟩), hK _ ?_⟩; clear hK K
            iterate 1 (refine bqStep (fun K hK => ?_); go_simp; first | (refine hK _ ?_; clear hK K) | (refine ⟨_, fun _ _ => rfl, hK _ ?_⟩; clear hK K))
            iterate 2 (refine bqStep (fun K hK => ?_); go_simp; first | (refine hK _ ?_; clear hK K) | (refine ⟨_, fun _ _ => rfl, hK _ ?_⟩; clear hK K))
            refine bqNil (fun w9 hE9 => ?_)
            try simp only [Act.put, List.setIfInBounds_toArray, List.set_cons_zero, List.set_cons_succ]
            go_wp2_with fail
            go_roundw
            case rel => exact ⟨k2 + 1, by go_num, by omega, hE2.trans hE9⟩
            case measure => simp [intOf]; omega
          · have hini : ¬ (k2 : Int) < (len : Int) := by omega
            have hind : decide ((k2 : Int) < (len : Int)) = false := decide_eq_false hini
            have hind2 : decide (k2 < len) = false := decide_eq_false hin
            go_upto_region 10 with fail
            refine bqRegion (Ext wr) (by kernel_rfl) (by kernel_rfl) (Ext.refl _).drew ?_
            iterate 1 (refine bqStep (fun K hK => ?_); go_simp; first | (refine hK _ ?_; clear hK K) | (refine ⟨_, fun _ _ => rfl, hK _ ?_⟩; clear hK K))
            refine bqCell (by rfl) 27 _ (by rfl) hl 1 (by rfl) _ (fun w' hw => (hL.out w' (hE2.trans hw)).2.1) _ Tryz.underlying27 rfl ?_
            iterate 2 (refine bqStep (fun K hK => ?_); go_simp; first | (refine hK _ ?_; clear hK K) | (refine ⟨_, fun _ _ => rfl, hK _ ?_⟩; clear hK K))
            refine bqMid (by rfl) 49 _ (by rfl) gb (go + k2 * 4) (by rfl) [.string s, .int .u64 0, .bool false, .string ⟨#[]⟩] _ (fun w' hw i v hv => hw.cell (hg2 i v hv)) Tryz.underlying49 rfl (by exact info_entryM) ?_
            iterate 1 (refine bqStep (fun K hK => ?_); go_simp; first | (refine hK _ ?_; clear hK K) | (refine ⟨_, fun _ _ => rfl, hK _ ?_⟩; clear hK K))
            refine bqCell (by rfl) 3 _ (by rfl) hl 2 (by rfl) _ (fun w' hw => (hL.out w' (hE2.trans hw)).2.2) _ Tryz.underlying3 rfl ?_
            refine bqStep (fun K hK => ?_); go_simp; refine ⟨_, fun w' hw => (his.out w' hw).mono (fun e w'' h => ⟨h.1, hw.trans h.2⟩), hK _ ?_⟩; clear hK K
            iterate 4 (refine bqStep (fun K hK => ?_); go_simp; first | (refine hK _ ?_; clear hK K) | (refine ⟨_, fun _ _ => rfl, hK _ ?_⟩; clear hK K))
            refine bqCell (by rfl) 27 _ (by rfl) hl 0 (by rfl) _ (fun w' hw => (hL.out w' (hE2.trans hw)).1) _ Tryz.underlying27 rfl ?_
            iterate 3 (refine bqStep (fun K hK => ?_); go_simp; first | (refine hK _ ?_; clear hK K) | (refine ⟨_, fun _ _ => rfl, hK _ ?_⟩; clear hK K))
            iterate 9 (refine bqSkip (by rfl) ?_; simp only [Act.put, List.setIfInBounds_toArray, List.set_cons_zero, List.set_cons_succ])
            iterate 2 (refine bqStep (fun K hK => ?_); go_simp; first | (refine hK _ ?_; clear hK K) | (refine ⟨_, fun _ _ => rfl, hK _ ?_⟩; clear hK K))
            refine bqNil (fun w9 hE9 => ?_)
            try simp only [Act.put, List.setIfInBounds_toArray, List.set_cons_zero, List.set_cons_succ]
            go_wp2_with fail
            go_roundw
            case rel => exact ⟨k2 + 1, by go_num, by omega, hE2.trans hE9⟩
            case measure => simp [intOf]; omega
        · have hlti : ¬ (k2 : Int) < (len : Int) + 40 := by omega
          have hEn := Lib.hid ((hE.trans hEl'.out).trans hE2)
          go_wp2_with fail
          go_roundw
          case rel => exact ⟨k + 1, by go_num, by omega, hEn.out⟩
          case measure => simp [intOf]; omega
    · have hki : ¬ (k : Int) < (M : Int) := by omega
      go_wp2_with fail
      go_ret
      exact ⟨rfl, hE⟩
end Go.Proofs.YtfcpnkalcijflaaGreatDoor
