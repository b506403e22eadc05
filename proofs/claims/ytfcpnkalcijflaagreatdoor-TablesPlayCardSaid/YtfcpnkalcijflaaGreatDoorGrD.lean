/- Several texts in one: BkFNum BkFRow BkFEntry. No condition. -/
import Derived.Test.YtfcpnkalcijflaaGreatDoorGrC
import Derived.Deep.RegionHeld3
import Derived.Deep.CutRange
/- fillEntry: all lists are written over. No condition. -/
namespace Go.Proofs.YtfcpnkalcijflaaGreatDoor
open Go.RowKit
set_option maxRecDepth 100000
set_option maxHeartbeats 4000000
theorem fillEntry_one (n : Nat) : (mkEntryL n).toArray.all (·.oneCell') = true := by kernel_rfl
theorem fillEntry_any {base N0 g n : Nat} {T : Nat → Kd} {st : Nat → Nat} {w : World} (h : BkI bkT base N0 g n T st w) (h0 : st 8 = 0) (hnum : ∀ x ∈ (T 8).2, x.num < numTop) (hm : (T 8).2.length ≤ 1000000) :
    Calls Tryz.prog 33 #[.pointer (some ⟨g, 0, none⟩)] w fun e w' => e = .returned (.tuple #[]) ∧ Below base w w' ∧ BkI bkT base N0 g n T (upd st 8 1) w' := by
  obtain ⟨M, hM⟩ : ∃ m, m = (T 8).2.length := ⟨_, rfl⟩
  obtain ⟨ha, hc, hva⟩ : ∃ a c, (T 8).1 = .slice a M c := by
    obtain ⟨a, c, e, _⟩ := (h.hdr 8).form
    exact ⟨a, c, by rw [hM]; exact e⟩
  rw [← hM] at hm
  have hcg : w.cell? ⟨g, 8, none⟩ = some (.slice ha M hc) := by rw [cell_of_row _ _ _ _ _ _ h.row, ← hva]; rfl
  have hM' := Lib.hid hM
  have hnum' := Lib.hid hnum
  have h' := Lib.hid h
  have h0' := Lib.hid h0
  have hva' := Lib.hid hva
  clear hM hnum h h0 hva
  go_enter Tryz.func33, Tryz.ntmps33
  go_wp2_with fail
  go_loopw [2, 3, 4] (fun i _ _ wr => ∃ k : Nat, i = .int .i64 k ∧ k ≤ M ∧ Hid (FillI bkT base N0 (T 8) w 8 k wr)) (fun i _ _ _ => M - (intOf i).toNat)
  case atStart => exact ⟨0, rfl, by omega, Lib.hid (FillI.start h'.out 8 h0'.out)⟩
  case round =>
    obtain ⟨k, rfl, hk, hI⟩ := hrel
    have hcg2 := h'.out.cellg 8 hI.out.off hcg
    by_cases hkM : k < M
    · have hki : (k : Int) < (M : Int) := by omega
      obtain ⟨x, hx⟩ : ∃ x, (T 8).2[k]? = some x := ⟨_, List.getElem?_eq_getElem (by rw [← hM'.out]; exact hkM)⟩
      obtain ⟨hb, hcap, e1, ec, q0, q1, q2, _⟩ := hdr_cells (h'.out.hdr_off 8 hI.out.off) hx
      rw [hva'.out] at e1
      injection e1 with e1 elen e3
      clear elen
      subst e1 e3
      rw [← hM'.out] at ec
      obtain ⟨⟨xs, hown⟩, hlong⟩ := hI.out.old k x hx (Nat.le_refl _)
      rw [hlong] at q1
      obtain ⟨len, hlen⟩ : ∃ z, z = x.len := ⟨_, rfl⟩
      obtain ⟨num, hnm⟩ : ∃ z, z = x.num := ⟨_, rfl⟩
      have hlenb : len ≤ 1000000 := by rw [hlen]; exact (h'.out.lst 8 x (List.mem_of_getElem? hx)).2
      have hn100 : num < numTop := by rw [hnm]; exact hnum'.out x (List.mem_of_getElem? hx)
      obtain ⟨la, lc, hsl, hlc, hform⟩ := hown.form
      rw [← hlen] at hsl
      rw [← hlen] at hown hlc
      rw [hsl] at q0 hown hform
      rw [← hnm] at q2
      have hx' := Lib.hid hx
      have hsl' := Lib.hid hsl
      have hlong' := Lib.hid hlong
      have hlen' := Lib.hid hlen
      have hnm' := Lib.hid hnm
      clear hx hsl hlong hlen hnm
      obtain ⟨Wl, hWl⟩ : ∃ W, W = wr.alloc (.cells #[.slice la len lc, .slice none 0 0, .int .i64 (num : Int)] 75) := ⟨_, rfl⟩
      obtain ⟨hl, hhl⟩ : ∃ z, z = wr.heap.size := ⟨_, rfl⟩
      have hEl : Ext wr Wl := by rw [hWl]; exact (Ext.refl _).alloc _
      have hrl : Wl.heap[hl]? = some (.cells #[.slice la len lc, .slice none 0 0, .int .i64 (num : Int)] 75 (0, 0)) := by rw [hWl, hhl]; exact heap_alloc_new wr _
      have hlown : ∀ q, (Value.slice la len lc).ownBlock = some q → q ≠ hl := fun q hq e => by have := (hown.lt q hq).2; omega
      have hownl := hown.ext hEl
      have hWl' := Lib.hid hWl
      have hhl' := Lib.hid hhl
      have hown' := Lib.hid hownl
      have hlown' := Lib.hid hlown
      have hrl' := Lib.hid hrl
      have htab : Hid (∀ w2, OffB (fun q => (Value.slice la len lc).ownBlock = some q) Wl w2 → ∀ W, Ext w2 W → TabW W) := Lib.hid (fun w2 hO2 => tab_of h'.out.tab h'.out.base_le hI.out.off (fun q hq => h'.out.fpb 8 q (.inr hq)) hEl hO2 (fun q hq => (hown.lt q hq).1))
      have hEl' := Lib.hid hEl
      clear hWl hhl hown hownl hlown hrl hEl
      go_upto_region 4 with fail
      rw [← hWl'.out, ← hhl'.out]
      go_wp2_with fail
      go_loopw [4] (fun i w2 => ∃ k2 : Nat, i = .int .i64 k2 ∧ k2 ≤ len ∧ Hid (OwnC w2 base 49 4 (.slice la len lc) len (fillL (mkEntryL num) xs k2)) ∧ Hid (OffB (fun q => (Value.slice la len lc).ownBlock = some q) Wl w2)) (fun i _ => len - (intOf i).toNat)
      case atStart => exact ⟨0, rfl, by omega, Lib.hid (by rw [fillL_zero]; exact hown'.out), Lib.hid (OffB.refl _)⟩
      case round =>
        obtain ⟨k2, rfl, hk2, hown2, hO2⟩ := hrel
        have l0 : wr.cell? ⟨hl, 0, none⟩ = some (.slice la len lc) := hO2.out.cell (by rw [cell_of_row _ _ _ _ _ _ hrl'.out]; rfl) (fun e => hlown'.out hl e rfl)
        by_cases hlt : k2 < len
        · have hlti : (k2 : Int) < (len : Int) := by omega
          have hT : Hid (∀ W, Ext wr W → TabW W) := Lib.hid (htab.out _ hO2.out)
          obtain ⟨b, hb2⟩ : ∃ b, la = some ⟨b, 0, none⟩ := by
            rcases hform with e | e
            · injection e with _ e _
              omega
            · exact e
          subst hb2
          have hput := Lib.hid (fill_put hown2.out hlt (c := mkEntryL num) rfl)
          have hS : Hid (∀ w', OffB (fun q => (Value.slice (some ⟨b, 0, none⟩) len lc).ownBlock = some q) wr w' → w'.cell? ⟨hl, 0, none⟩ = some (.slice (some ⟨b, 0, none⟩) len lc) ∧ w'.cell? ⟨hl, 2, none⟩ = some (.int .i64 (num : Int))) := Lib.hid (fun w' hO => ⟨(hO2.out.trans hO).cell (by rw [cell_of_row _ _ _ _ _ _ hrl'.out]; rfl) (fun e => hlown'.out hl e rfl), (hO2.out.trans hO).cell (by rw [cell_of_row _ _ _ _ _ _ hrl'.out]; rfl) (fun e => hlown'.out hl e rfl)⟩)
          clear q0 q1 q2
          obtain ⟨C, hC⟩ : ∃ C, C = (mkEntryL num).toArray := ⟨_, rfl⟩
          have hmark : Hid (∀ W, Ext wr W → Calls Tryz.prog 75 #[.int .i64 (num : Int)] W fun e w' => e = .returned (.agg C) ∧ Ext W w') := Lib.hid (fun W hE => by rw [hC]; exact markEntry_any W num hn100 (fun W' hE' => hT.out W' (hE.trans hE')))
          have hCl : C.toList = mkEntryL num := by rw [hC]
          have hCs : C.size = 4 := by rw [hC]; rfl
          have hC1 : Hid (∀ v ∈ C.toList, v.oneCell' = true) := Lib.hid (by rw [hC]; exact fun v hv => Array.all_eq_true_iff_forall_mem.1 (fillEntry_one num) v (by simpa using hv))
          have hput2 : Hid (∀ w', Ext wr w' → w'.there b (k2 * 4) C.toList.length ∧ OwnC (w'.setCells b (k2 * 4) C.toList) base 49 4 (.slice (some ⟨b, 0, none⟩) len lc) len (fillL (mkEntryL num) xs (k2 + 1)) ∧ OffB (fun q => (Value.slice (some ⟨b, 0, none⟩) len lc).ownBlock = some q) wr (w'.setCells b (k2 * 4) C.toList)) := Lib.hid (by rw [hCl]; exact hput.out)
          clear hC hCl hput
          go_upto_region 7 with fail
          go_region_held3 (fun w' => w'.cell? ⟨hl, 0, none⟩ = some (.slice (some ⟨b, 0, none⟩) len lc) ∧ w'.cell? ⟨hl, 2, none⟩ = some (.int .i64 (num : Int))) ((refine hS.out _ ?_; first | exact .of_ext (Ext.refl _).drew | exact .of_ext ((Ext.refl _).drew.trans hE3) | exact hst.2.2)) (first | (go_at_call 75; refine (hmark.out _ (by first | exact (Ext.refl _).drew | exact Ext.refl _)).mono ?_; rintro e w3 ⟨rfl, hE3⟩; have hst := hput2.out _ ((Ext.refl _).drew.trans hE3)) | (rw [run_storeCells_mid _ b (k2 * 4) C.toList hst.1 hC1.out]; go_simp) | fail)
          all_goals
            go_wp2_with fail
            go_roundw
            case rel => exact ⟨k2 + 1, by go_num, by omega, Lib.hid hst.2.1, Lib.hid (hO2.out.trans hst.2.2)⟩
            case measure => simp [intOf]; omega
        · have hlti : ¬ (k2 : Int) < (len : Int) := by omega
          have hke : k2 = len := by omega
          have hnext : Hid (FillI bkT base N0 (T 8) w 8 (k + 1) wr) := Lib.hid (FillI.next h'.out hI.out hx'.out (by rw [hsl'.out]; exact (OffB.of_ext hEl'.out).trans hO2.out) (by
            have h1 := hown2.out
            rw [hke, fill_end _ _ _ hown'.out.1] at h1
            refine ⟨?_, hlong'.out⟩
            rw [hsl'.out, ← hlen'.out, ← hnm'.out]
            exact h1))
          clear hke
          go_wp2_with fail
          go_roundw
          case rel => exact ⟨k + 1, by go_num, by omega, hnext⟩
          case measure => simp [intOf]; omega
    · have hki : ¬ (k : Int) < (M : Int) := by omega
      have hkM2 : k = M := by omega
      have hfin := Lib.hid (FillI.fin h'.out (j := 8) (by rw [← hM'.out, ← hkM2]; exact hI.out))
      clear hkM2
      go_wp2_with fail
      go_end0
      exact ⟨rfl, hfin.out⟩
end Go.Proofs.YtfcpnkalcijflaaGreatDoor
