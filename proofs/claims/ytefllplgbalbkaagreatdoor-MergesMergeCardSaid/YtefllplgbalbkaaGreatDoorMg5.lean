/- seen: of one key's entries the one that is, at a number. No condition. -/
import Derived.Test.YtefllplgbalbkaaGreatDoorMg1
namespace Go.Proofs.YtefllplgbalbkaaGreatDoor
open Go.RowKit
set_option maxRecDepth 100000
set_option maxHeartbeats 1000000
/-- The first entry whose number is not above s; none: -1. -/
def seenI (l : List En) (s : Nat) : Int := match l.findIdx? (fun e => decide (e.mark.seq ≤ s)) with
  | some i => (i : Int)
  | none => -1
theorem seen1_any (w : World) (sb s : Nat) (h : w.cell? ⟨sb, 0, none⟩ = some (.int .u64 (s : Int))) (x : En) : Calls Tryz.prog 82 #[.agg (enRow x), .pointer (some ⟨sb, 0, none⟩)] w fun e w' => e = .returned (.bool (decide (x.mark.seq ≤ s))) ∧ Ext w w' := by
  unfold enRow
  have h2 := ((Ext.refl w).alloc (.cells #[.string x.mark.key, .int .u64 (x.mark.seq : Int), .bool x.mark.gone, .string x.val] 69)).cell h
  go_enter Tryz.func82, Tryz.ntmps82
  go_wp2_with fail
  go_ret
  exact ⟨rfl, (Ext.refl _).alloc _⟩
def IxE (w : World) (r : Int) (e : Ending) (w' : World) : Prop := e = .returned (.int .i64 r) ∧ Ext w w'
theorem ixf_en (w : World) (sb s : Nat) (h : w.cell? ⟨sb, 0, none⟩ = some (.int .u64 (s : Int))) (l : List En) (a : Option Addr) (cap : Nat) (hR : RowIs w 4 (.slice a l.length cap) l.length (l.flatMap enL)) : Calls Tryz.prog 81 #[.slice a l.length cap, .func (.func 82) #[] #[.pointer (some ⟨sb, 0, none⟩)]] w (IxE w (seenI l s)) := by
  have hnn := hR.2.1
  obtain ⟨ln, hln⟩ : ∃ n, n = l.length := ⟨_, rfl⟩
  rw [← hln] at hR hnn ⊢
  have hR' := Lib.hid hR
  have hln' := Lib.hid hln
  clear hR hln
  go_enter Tryz.func81, Tryz.ntmps81
  go_wp2_with fail
  go_loopw [8] (fun i wr => ∃ k : Nat, k ≤ ln ∧ i = .int .i64 k ∧ Hid (∀ x ∈ l.take k, decide (x.mark.seq ≤ s) = false) ∧ Ext w wr) (fun i _ => ln - (intOf i).toNat)
  case atStart => exact ⟨0, by omega, rfl, Lib.hid (fun x hx => by simp at hx), Ext.refl _⟩
  case round =>
    obtain ⟨k, hk, rfl, hno, hE⟩ := hrel
    by_cases hlt : k < ln
    · have hli : (k : Int) < (ln : Int) := by omega
      obtain ⟨c, hcc⟩ : ∃ c, l[k]? = some c := ⟨_, List.getElem?_eq_getElem (by rw [← hln'.out]; exact hlt)⟩
      obtain ⟨b, off, hat⟩ := (hR'.out.ext hE).at
      obtain ⟨rfl, _, hd⟩ := hat (by omega)
      have hrg := ens_range (by rw [← hln'.out]; exact hd) hcc
      have htk : l.take (k + 1) = l.take k ++ [c] := by rw [List.take_add_one, hcc]; rfl
      have htk' := Lib.hid htk
      have hcc' := Lib.hid hcc
      clear hd hat htk hcc
      obtain ⟨B, hB⟩ : ∃ B, B = decide (c.mark.seq ≤ s) := ⟨_, rfl⟩
      have h1 := seen1_any wr sb s (hE.cell h) c
      rw [← hB] at h1
      have h1' := Lib.hid h1
      have hB' := Lib.hid hB
      clear h1 hB
      cases B with
      | false =>
        go_wp2_with (first | (refine wpList_load_mid (by rfl) 69 (.tmp 14) (by rfl) b (off + k * 4) (by rfl) (enRow c).toList _ hrg Tryz.underlying69 rfl (by exact info_entry) ?_) | fail)
        refine h1'.out.mono ?_
        rintro e w2 ⟨rfl, hE2⟩
        go_wp2_with fail
        go_roundw
        case rel => exact ⟨k + 1, by omega, by go_num, Lib.hid (fun x hx => by
          rw [htk'.out] at hx
          rcases List.mem_append.1 hx with hx | hx
          · exact hno.out x hx
          · rw [List.mem_singleton.1 hx]; exact hB'.out.symm), hE.trans hE2⟩
        case measure => simp [intOf]; omega
      | true =>
        go_wp2_with (first | (refine wpList_load_mid (by rfl) 69 (.tmp 14) (by rfl) b (off + k * 4) (by rfl) (enRow c).toList _ hrg Tryz.underlying69 rfl (by exact info_entry) ?_) | fail)
        refine h1'.out.mono ?_
        rintro e w2 ⟨rfl, hE2⟩
        go_wp2_with fail
        go_ret
        refine ⟨?_, hE.trans hE2⟩
        have hf : l.findIdx? (fun e => decide (e.mark.seq ≤ s)) = some k := by
          rw [List.findIdx?_eq_some_iff_getElem]
          refine ⟨(List.getElem?_eq_some_iff.1 hcc'.out).1, by rw [(List.getElem?_eq_some_iff.1 hcc'.out).2]; exact hB'.out.symm, fun j hj => ?_⟩
          have hlen := (List.getElem?_eq_some_iff.1 hcc'.out).1
          have := hno.out l[j] (List.mem_iff_getElem?.2 ⟨j, by rw [List.getElem?_take, if_pos hj]; exact List.getElem?_eq_getElem (by omega)⟩)
          simp [this]
        unfold seenI
        rw [hf]
        rfl
    · have hli : ¬ (k : Int) < (ln : Int) := by omega
      have hall : Hid (seenI l s = -1) := Lib.hid (by
        have h2 := hno.out
        rw [List.take_of_length_le (by rw [← hln'.out]; omega)] at h2
        unfold seenI
        rw [List.findIdx?_eq_none_iff.2 h2])
      go_wp2_with fail
      go_ret
      exact ⟨by rw [hall.out]; rfl, hE⟩
theorem seen_any (w : World) (s : Nat) (l : List En) (a : Option Addr) (cap : Nat) (hR : RowIs w 4 (.slice a l.length cap) l.length (l.flatMap enL)) : Calls Tryz.prog 30 #[.slice a l.length cap, .int .u64 (s : Int)] w (IxE w (seenI l s)) := by
  have h1 : ∀ W, Ext w W → W.cell? ⟨w.heap.size, 0, none⟩ = some (.int .u64 (s : Int)) → Calls Tryz.prog 81 #[.slice a l.length cap, .func (.func 82) #[] #[.pointer (some ⟨w.heap.size, 0, none⟩)]] W (IxE W (seenI l s)) := fun W hE hc => ixf_en W _ s hc l a cap (hR.ext hE)
  obtain ⟨r, hr⟩ : ∃ r, r = seenI l s := ⟨_, rfl⟩
  rw [← hr] at h1 ⊢
  obtain ⟨ln, hln⟩ : ∃ n, n = l.length := ⟨_, rfl⟩
  rw [← hln] at h1 ⊢
  clear hR hr hln
  go_enter Tryz.func30, Tryz.ntmps30
  go_wp2_with fail
  refine (h1 _ ((Ext.refl _).alloc _) (by rw [cell_of_row _ _ _ _ _ (0, 0) (heap_alloc_new w _)]; rfl)).mono ?_
  rintro e w2 ⟨rfl, hE2⟩
  go_wp2_with fail
  go_ret
  exact ⟨rfl, ((Ext.refl w).alloc _).trans hE2⟩
end Go.Proofs.YtefllplgbalbkaaGreatDoor
