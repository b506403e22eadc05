/- Several texts in one: BkGMsg BkOMsg. No condition. -/
import Derived.Test.YtmopjmhapeinjaaGreatDoorGrB6
import Derived.Deep.CutRange
import Derived.Test.YtmopjmhapeinjaaGreatDoorGrA1
import Derived.BigQuiet
/- growMsg: more is put behind each list. No condition. -/
namespace Go.Proofs.YtmopjmhapeinjaaGreatDoor
open Go.RowKit
set_option maxRecDepth 100000
set_option maxHeartbeats 4000000
theorem elb_Msg : ElemIs Tryz.prog 63 16 192 := by
  refine ElemIs.mk (z := .agg #[.int .u8 0, .int .u8 0, .int .u8 0, .int .u32 0, .int .u8 0, .int .u32 0, .int .u64 0, .int .u64 0, .slice none 0 0, .slice none 0 0, .slice none 0 0, .slice none 0 0, .slice none 0 0, .int .i64 0, .bool false, .slice none 0 0]) (by kernel_rfl) (by rfl) (by decide)
theorem growMsg_any {base N0 g n : Nat} {T : Nat → Kd} {st : Nat → Nat} {w : World} (h : BkI bkT base N0 g n T st w) (h1 : st 12 = 1) (hnum : ∀ x ∈ (T 12).2, x.num < numTop) (hm : (T 12).2.length ≤ 1000000) :
    Calls Tryz.prog 80 #[.pointer (some ⟨g, 0, none⟩)] w fun e w' => e = .returned (.tuple #[]) ∧ Below base w w' ∧ ∃ hs, (∀ y ∈ hs, y.num < numTop) ∧ hs.length = (T 12).2.length ∧ BkI bkT base N0 g n (upd T 12 ((T 12).1, hs)) (upd st 12 2) w' := by
  obtain ⟨M, hM⟩ : ∃ m, m = (T 12).2.length := ⟨_, rfl⟩
  obtain ⟨ha, hc, hva⟩ : ∃ a c, (T 12).1 = .slice a M c := by
    obtain ⟨a, c, e, _⟩ := (h.hdr 12).form
    exact ⟨a, c, by rw [hM]; exact e⟩
  rw [← hM] at hm
  have hcg : w.cell? ⟨g, 12, none⟩ = some (.slice ha M hc) := by rw [cell_of_row _ _ _ _ _ _ h.row, ← hva]; rfl
  have hM' := Lib.hid hM
  have hnum' := Lib.hid hnum
  have h' := Lib.hid h
  have h1' := Lib.hid h1
  have hva' := Lib.hid hva
  clear hM hnum h h1 hva
  go_enter Tryz.func80, Tryz.ntmps80
  go_wp2_with fail
  go_loopw [2, 3, 4, 5] (fun i _ _ _ wr => ∃ (k : Nat) (hs : List Hd), i = .int .i64 k ∧ k ≤ M ∧ Hid (GrowI bkT base N0 (T 12) w 12 k hs wr)) (fun i _ _ _ _ => M - (intOf i).toNat)
  case atStart => exact ⟨0, _, rfl, by omega, Lib.hid (GrowI.start h'.out 12 h1'.out)⟩
  case round =>
    obtain ⟨k, hs, rfl, hk, hI⟩ := hrel
    have hcg2 := hI.out.cellg h'.out hcg
    by_cases hkM : k < M
    · have hki : (k : Int) < (M : Int) := by omega
      obtain ⟨x, hx⟩ : ∃ x, (T 12).2[k]? = some x := ⟨_, List.getElem?_eq_getElem (by rw [← hM'.out]; exact hkM)⟩
      obtain ⟨y, hy, _, _, _, _, hyx⟩ := hI.out.all k x hx
      obtain ⟨rfl, hst1⟩ := hyx (Nat.le_refl _)
      have hhd := hI.out.hdr
      rw [← hI.out.len] at hhd
      obtain ⟨hb, hcap, e1, ec, q0, q1, q2, qf⟩ := hdr_cells hhd hy
      have qf1 := qf 1 (by decide)
      rw [hva'.out] at e1
      injection e1 with e1 elen e3
      clear elen hhd qf
      subst e1 e3
      rw [hI.out.len, ← hM'.out] at ec
      obtain ⟨hown, hlong⟩ := hst1
      rw [hlong] at q1
      obtain ⟨len, hlen⟩ : ∃ z, z = y.len := ⟨_, rfl⟩
      obtain ⟨num, hnm⟩ : ∃ z, z = y.num := ⟨_, rfl⟩
      have hlenb : len ≤ 1000000 := by rw [hlen]; exact (h'.out.lst 12 y (List.mem_of_getElem? hx)).2
      have hn100 : num < numTop := by rw [hnm]; exact hnum'.out y (List.mem_of_getElem? hx)
      obtain ⟨la, lc, hsl, hlc, hform⟩ := hown.form
      rw [← hlen] at hsl
      rw [← hlen, ← hnm] at hown
      rw [← hlen] at hlc
      rw [hsl] at q0 hown hform
      rw [← hnm] at q2
      have hx' := Lib.hid hx
      have hsl' := Lib.hid hsl
      have hlen' := Lib.hid hlen
      have hnm' := Lib.hid hnm
      clear hx hsl hlong hlen hnm hyx hy hform
      obtain ⟨Wl, hWl⟩ : ∃ W, W = wr.alloc (.cells #[.slice la len lc, .slice none 0 0, .int .i64 (num : Int)] 131) := ⟨_, rfl⟩
      obtain ⟨hl, hhl⟩ : ∃ z, z = wr.heap.size := ⟨_, rfl⟩
      have hEl : Ext wr Wl := by rw [hWl]; exact (Ext.refl _).alloc _
      have hrl : Wl.heap[hl]? = some (.cells #[.slice la len lc, .slice none 0 0, .int .i64 (num : Int)] 131 (0, 0)) := by rw [hWl, hhl]; exact heap_alloc_new wr _
      have hlown : ∀ q, (Value.slice la len lc).ownBlock = some q → q < hl := fun q hq => by have := (hown.lt q hq).2; omega
      have hhbl : hb < hl := by
        rw [hhl]
        exact World.block_lt_of_cell? wr _ q0
      have hhbo : ∀ q, (Value.slice la len lc).ownBlock = some q → q ≠ hb := fun q hq e => by
        have h5 : y.sl ∈ sls (T 12) := List.mem_map_of_mem (List.mem_of_getElem? hx'.out)
        exact h'.out.seph 12 _ h5 hb (by rw [hva'.out]; rfl) (by rw [hsl'.out, ← e]; exact hq)
      have hbase : base ≤ Wl.heap.size := Nat.le_trans (Nat.le_trans h'.out.gb (Nat.le_trans (Nat.le_of_lt h'.out.gN) h'.out.big)) (Nat.le_trans hI.out.off.size hEl.size)
      have hownl := hown.ext hEl
      have r1 := hEl.cell q1
      have r1f : Wl.frozen? ⟨hb, k * 3 + 1, none⟩ = false := by rw [World.frozen?_of_block (w := wr) (Below.block hEl hb (World.block_lt_of_cell? wr _ q0))]; exact qf1
      have hsz : Hid (Wl.heap.size = hl + 1) := Lib.hid (by rw [hWl, hhl]; simp)
      have hWl' := Lib.hid hWl
      have hhl' := Lib.hid hhl
      have hown' := Lib.hid hownl
      have hlown' := Lib.hid hlown
      have hrl' := Lib.hid hrl
      have htab : Hid (∀ w2, OffB (fun q => (Value.slice la len lc).ownBlock = some q) Wl w2 → ∀ W, Ext w2 W → TabW W) := Lib.hid (fun w2 hO2 => tab_of h'.out.tab h'.out.base_le hI.out.off (fun q hq => h'.out.fpb 12 q hq) hEl hO2 (fun q hq => (hown.lt q hq).1))
      have hEl' := Lib.hid hEl
      have hhbo' := Lib.hid hhbo
      have hbase' := Lib.hid hbase
      have r1' := Lib.hid r1
      have r1f' := Lib.hid r1f
      clear hWl hhl hown hownl hlown hrl hEl hhbo hbase r1 r1f qf1
      have l0 : Wl.cell? ⟨hl, 0, none⟩ = some (.slice la len lc) := by rw [cell_of_row _ _ _ _ _ _ hrl'.out]; rfl
      go_upto_region 4 with fail
      rw [← hWl'.out, ← hhl'.out]
      go_wp2_with fail
      go_loopw [4, 5] (fun lv i w2 => ∃ (c : Nat) (va : Option Addr) (vc : Nat), i = .int .i64 c ∧ c ≤ 40 ∧ lv = .slice va (len + c) vc ∧ Hid (OwnC w2 base 63 16 (.slice va (len + c) vc) (len + c) (reps (mkMsgL num) (len + c))) ∧ Hid (OwnC w2 base 63 16 (.slice la len lc) len (reps (mkMsgL num) len)) ∧ Hid (OffB (fun q => (Value.slice la len lc).ownBlock = some q) Wl w2) ∧ Hid (∀ q, (Value.slice va (len + c) vc).ownBlock = some q → (Value.slice la len lc).ownBlock = some q ∨ Wl.heap.size ≤ q)) (fun _ i _ => 40 - (intOf i).toNat)
      case atStart => exact ⟨0, la, lc, rfl, by omega, rfl, Lib.hid hown'.out, Lib.hid hown'.out, Lib.hid (OffB.refl _), Lib.hid (fun q hq => .inl hq)⟩
      case round =>
        clear l0 q0 q1 q2 hcg2
        obtain ⟨c, va, vc, rfl, hc40, rfl, hlo, hso, hO2, hq2⟩ := hrel
        by_cases hlt : c < 40
        · have hlti : (c : Int) < 40 := by omega
          have hT : Hid (∀ W, Ext wr W → TabW W) := Lib.hid (htab.out _ hO2.out)
          have l2 : wr.cell? ⟨hl, 2, none⟩ = some (.int .i64 (num : Int)) := hO2.out.cell (by rw [cell_of_row _ _ _ _ _ _ hrl'.out]; rfl) (fun e => by have := hlown'.out hl e; omega)
          obtain ⟨s, hs2⟩ : ∃ s, s = (num : Int) := ⟨_, rfl⟩
          have hmark : ∀ W, Ext wr W → Calls Tryz.prog 137 #[.int .i64 (num : Int)] W fun e w' => e = .returned (.agg #[.int .u8 200, .int .u8 0, .int .u8 0, .int .u32 0, .int .u8 0, .int .u32 s, .int .u64 0, .int .u64 0, .slice none 0 0, .slice none 0 0, .slice none 0 0, .slice none 0 0, .slice none 0 0, .int .i64 0, .bool false, .slice none 0 0]) ∧ Ext W w' := fun W hE => by rw [hs2]; exact markMsg_any W num (Nat.lt_of_lt_of_le hn100 (by decide))
          have hrs : Hid (∀ m, reps (mkMsgL num) (m + 1) = reps (mkMsgL num) m ++ (#[.int .u8 200, .int .u8 0, .int .u8 0, .int .u32 0, .int .u8 0, .int .u32 s, .int .u64 0, .int .u64 0, .slice none 0 0, .slice none 0 0, .slice none 0 0, .slice none 0 0, .slice none 0 0, .int .i64 0, .bool false, .slice none 0 0] : Array Value).toList) := Lib.hid (fun m => by rw [reps_succ, hs2]; rfl)
          have hfin : Hid (∀ w3 v' w4, Ext wr w3 → AppK w3 w4 base 63 16 (.slice va (len + c) vc) v' (len + c) (reps (mkMsgL num) (len + c)) (#[.int .u8 200, .int .u8 0, .int .u8 0, .int .u32 0, .int .u8 0, .int .u32 s, .int .u64 0, .int .u64 0, .slice none 0 0, .slice none 0 0, .slice none 0 0, .slice none 0 0, .slice none 0 0, .int .i64 0, .bool false, .slice none 0 0] : Array Value).toList → OwnC w4 base 63 16 v' (len + (c + 1)) (reps (mkMsgL num) (len + (c + 1))) ∧ OwnC w4 base 63 16 (.slice la len lc) len (reps (mkMsgL num) len) ∧ OffB (fun q => (Value.slice la len lc).ownBlock = some q) Wl w4 ∧ ∀ q, v'.ownBlock = some q → (Value.slice la len lc).ownBlock = some q ∨ Wl.heap.size ≤ q) := Lib.hid (fun w3 v' w4 hE hA => by
            refine ⟨?_, hA.keep (hso.out.ext hE) (by omega), ?_, fun q hq => ?_⟩
            · rw [← Nat.add_assoc, hrs.out]; exact hA.own
            · have h6 := OffB.trans (hO2.out.mono (B' := fun q => (Value.slice la len lc).ownBlock = some q ∨ (Value.slice va (len + c) vc).ownBlock = some q) fun q hq => .inl hq) (OffB.trans (.of_ext hE) (hA.off.mono fun q hq => .inr hq))
              exact h6.past (fun q hq hB => by
                rcases hB with hB | hB
                · exact hB
                · rcases hq2.out q hB with h7 | h7
                  · exact h7
                  · omega)
            · rcases hA.at_ q hq with h7 | h7
              · exact hq2.out q h7
              · exact .inr (Nat.le_trans (Nat.le_trans hO2.out.size hE.size) h7))
          have hbase2 : Hid (∀ w3, Ext wr w3 → base ≤ w3.heap.size) := Lib.hid (fun w3 hE => Nat.le_trans hbase'.out (Nat.le_trans hO2.out.size hE.size))
          clear hs2
          go_wp2_with fail
          refine (hmark _ (by first | exact (Ext.refl _).drew | exact Ext.refl _)).mono ?_
          rintro e w3 ⟨rfl, hE3⟩
          have hlo3 := Lib.hid (hlo.out.ext hE3)
          have hb3 := hbase2.out w3 hE3
          go_wp2_with (first | (at_builtin; go_loud (refine wpList_append_k (by rfl) (.tmp 28) (.tmp 32) 71 63 (by rfl) Tryz.underlying71 elb_Msg w3 base (len + c) _ (.slice va (len + c) vc) (by rfl) hlo3.out #[.int .u8 200, .int .u8 0, .int .u8 0, .int .u32 0, .int .u8 0, .int .u32 s, .int .u64 0, .int .u64 0, .slice none 0 0, .slice none 0 0, .slice none 0 0, .slice none 0 0, .slice none 0 0, .int .i64 0, .bool false, .slice none 0 0] (by rfl) (by rfl) (by simp [Value.oneCell']) (by omega) (by omega) hb3 ?_); go_loud (intro v' w4 hA; obtain ⟨oa4, oc4, rfl, _⟩ := hA.own.form; obtain ⟨f1, f2, f3, f4⟩ := hfin.out w3 _ w4 hE3 hA; clear hA)) | fail)
          go_roundw
          case rel => exact ⟨c + 1, oa4, oc4, by go_num, by omega, rfl, Lib.hid f1, Lib.hid f2, Lib.hid f3, Lib.hid f4⟩
          case measure => simp [intOf]; omega
        · have hlti : ¬ (c : Int) < 40 := by omega
          obtain rfl : c = 40 := by omega
          have s1 := hO2.out.cell r1'.out (fun e => hhbo'.out hb e rfl)
          have s1f : wr.frozen? ⟨hb, k * 3 + 1, none⟩ = false := by rw [hO2.out.frozen r1'.out (fun e => hhbo'.out hb e rfl)]; exact r1f'.out
          have sg : wr.cell? ⟨g, 12, none⟩ = some (.slice (some ⟨hb, 0, none⟩) M hc) := hO2.out.cell (hEl'.out.cell (hI.out.cellg h'.out hcg)) (fun e => by
            have h5 : y.sl ∈ sls (T 12) := List.mem_map_of_mem (List.mem_of_getElem? hx'.out)
            exact h'.out.sepg 12 (.inr ⟨_, h5, by rw [hsl'.out]; exact e⟩))
          have hnext := Lib.hid (GrowI.next h'.out hI.out hx'.out (by rw [hva'.out, hM'.out]) (by rw [hsl'.out]; exact (OffB.of_ext hEl'.out).trans hO2.out) (.slice va (len + 40) vc) (by rw [hsl'.out, ← hlen'.out, ← hnm'.out]; exact hso.out) (by rw [← hlen'.out, ← hnm'.out]; exact hlo.out) (fun q hq => by
            rw [hsl'.out]
            rcases hq2.out q hq with h7 | h7
            · exact .inl h7
            · exact .inr (Nat.le_trans hEl'.out.size h7)))
          go_wp2_with fail
          go_roundw
          case rel => exact ⟨k + 1, _, by go_num, by omega, hnext⟩
          case measure => simp [intOf]; omega
    · have hki : ¬ (k : Int) < (M : Int) := by omega
      have hkM2 : k = M := by omega
      have hfin := Lib.hid (GrowI.fin h'.out (j := 12) (hs := hs) (by rw [← hM'.out, ← hkM2]; exact hI.out))
      have hnums : Hid (∀ y ∈ hs, y.num < numTop) := Lib.hid (fun y hy => by
        obtain ⟨i, hi⟩ := List.mem_iff_getElem?.1 hy
        obtain ⟨x, hx⟩ : ∃ x, (T 12).2[i]? = some x := ⟨_, List.getElem?_eq_getElem (by rw [← hI.out.len]; exact (List.getElem?_eq_some_iff.1 hi).1)⟩
        obtain ⟨y', hy', _, _, e3, _⟩ := hI.out.all i x hx
        rw [hi] at hy'
        injection hy' with hy'
        rw [hy', e3]
        exact hnum'.out x (List.mem_of_getElem? hx))
      have hlen := Lib.hid hI.out.len
      clear hkM2
      go_wp2_with fail
      go_end0
      exact ⟨rfl, hfin.out.1, hs, hnums.out, hlen.out, hfin.out.2⟩
end Go.Proofs.YtmopjmhapeinjaaGreatDoor

/- lookMsg: all lists, and what is behind them, are looked at. No condition. -/
namespace Go.Proofs.YtmopjmhapeinjaaGreatDoor
open Go.RowKit
set_option maxRecDepth 100000
set_option maxHeartbeats 4000000
theorem lookMsg_any {base N0 g n : Nat} {T : Nat → Kd} {st : Nat → Nat} {w : World} (h : BkI bkT base N0 g n T st w) (h2 : st 12 = 2) (hnum : ∀ x ∈ (T 12).2, x.num < numTop) (hm : (T 12).2.length ≤ 1000000) :
    Calls Tryz.prog 93 #[.pointer (some ⟨g, 0, none⟩)] w fun e w' => e = .returned (.bool true) ∧ Ext w w' := by
  obtain ⟨M, hM⟩ : ∃ m, m = (T 12).2.length := ⟨_, rfl⟩
  obtain ⟨ha, hc, hva⟩ : ∃ a c, (T 12).1 = .slice a M c := by
    obtain ⟨a, c, e, _⟩ := (h.hdr 12).form
    exact ⟨a, c, by rw [hM]; exact e⟩
  rw [← hM] at hm
  have hcg : w.cell? ⟨g, 12, none⟩ = some (.slice ha M hc) := by rw [cell_of_row _ _ _ _ _ _ h.row, ← hva]; rfl
  have hM' := Lib.hid hM
  have hnum' := Lib.hid hnum
  have h' := Lib.hid h
  have h2' := Lib.hid h2
  have hva' := Lib.hid hva
  clear hM hnum h h2 hva
  go_enter Tryz.func93, Tryz.ntmps93
  go_wp2_with fail
  go_loopw [3, 4, 5] (fun i _ _ wr => ∃ k : Nat, i = .int .i64 k ∧ k ≤ M ∧ Ext w wr) (fun i _ _ _ => M - (intOf i).toNat)
  case atStart => exact ⟨0, rfl, by omega, Ext.refl _⟩
  case round =>
    obtain ⟨k, rfl, hk, hE⟩ := hrel
    have hcg2 := hE.cell hcg
    by_cases hkM : k < M
    · have hki : (k : Int) < (M : Int) := by omega
      obtain ⟨y, hy⟩ : ∃ x, (T 12).2[k]? = some x := ⟨_, List.getElem?_eq_getElem (by rw [← hM'.out]; exact hkM)⟩
      have hI := h'.out.ext hE
      obtain ⟨hb, hcap, e1, ec, q0, q1, q2, _⟩ := hdr_cells (hI.hdr 12) hy
      rw [hva'.out] at e1
      injection e1 with e1 elen e3
      clear elen
      subst e1 e3
      rw [← hM'.out] at ec
      have hst := (hI.lst 12 y (List.mem_of_getElem? hy)).1
      rw [h2'.out] at hst
      obtain ⟨hown, hlong, _⟩ := hst
      have hlb := (hI.lst 12 y (List.mem_of_getElem? hy)).2
      have hn1 := hnum'.out y (List.mem_of_getElem? hy)
      obtain ⟨len, hlen⟩ : ∃ z, z = y.len := ⟨_, rfl⟩
      obtain ⟨num, hnm⟩ : ∃ z, z = y.num := ⟨_, rfl⟩
      obtain ⟨la, lc, hsl, hlc, _⟩ := hown.form
      obtain ⟨ga, gc, hgl, hgc, _⟩ := hlong.form
      rw [← hlen] at hsl hgl hlb
      rw [← hnm] at hn1
      have hr1 := hown.row
      have hr2 := hlong.row
      rw [hsl, ← hlen, ← hnm] at hr1
      rw [hgl, ← hlen, ← hnm] at hr2
      rw [hsl] at q0
      rw [hgl] at q1
      rw [← hnm] at q2
      have hr1' := Lib.hid hr1
      obtain ⟨gb, go, e4, hgc2, hrl⟩ := reps_range hr2 rfl (by omega)
      subst e4
      have hrl' := Lib.hid hrl
      clear hown hlong hlen hnm hsl hgl hr1 hr2 hI hrl hlc hgc hy
      obtain ⟨Wl, hWl⟩ : ∃ W, W = wr.alloc (.cells #[.slice la len lc, .slice (some ⟨gb, go, none⟩) (len + 40) gc, .int .i64 (num : Int)] 131) := ⟨_, rfl⟩
      obtain ⟨hl, hhl⟩ : ∃ z, z = wr.heap.size := ⟨_, rfl⟩
      have hEl : Ext wr Wl := by rw [hWl]; exact (Ext.refl _).alloc _
      have hrow : Wl.heap[hl]? = some (.cells #[.slice la len lc, .slice (some ⟨gb, go, none⟩) (len + 40) gc, .int .i64 (num : Int)] 131 (0, 0)) := by rw [hWl, hhl]; exact heap_alloc_new wr _
      have hL : Hid (∀ w', Ext Wl w' → w'.cell? ⟨hl, 0, none⟩ = some (.slice la len lc) ∧ w'.cell? ⟨hl, 1, none⟩ = some (.slice (some ⟨gb, go, none⟩) (len + 40) gc) ∧ w'.cell? ⟨hl, 2, none⟩ = some (.int .i64 (num : Int))) := Lib.hid (fun w' h => by
        have h1 := h.row hrow
        exact ⟨by rw [cell_of_row _ _ _ _ _ _ h1]; rfl, by rw [cell_of_row _ _ _ _ _ _ h1]; rfl, by rw [cell_of_row _ _ _ _ _ _ h1]; rfl⟩)
      obtain ⟨l0, l1, l2⟩ := hL.out Wl (Ext.refl _)
      have e40 : ((len + 40 : Nat) : Int) = (len : Int) + 40 := by omega
      have hw40 : IntKind.i64.wrap ((len : Int) + 40) = (len : Int) + 40 := by rw [IntKind.wrap_i64]; omega
      have hWl' := Lib.hid hWl
      have hhl' := Lib.hid hhl
      have hEl' := Lib.hid hEl
      clear hWl hhl hEl hrow
      go_upto_region 5 with fail
      rw [← hWl'.out, ← hhl'.out]
      go_wp2_with fail
      go_loopw [5] (fun i w2 => ∃ k2 : Nat, i = .int .i64 k2 ∧ k2 ≤ len + 40 ∧ Ext Wl w2) (fun i _ => len + 40 - (intOf i).toNat)
      case atStart => exact ⟨0, rfl, by omega, Ext.refl _⟩
      case round =>
        clear l0 l1 l2 q0 q1 q2 hcg2 hw40
        obtain ⟨k2, rfl, hk2, hE2⟩ := hrel
        obtain ⟨l0, l1, l2⟩ := hL.out _ hE2
        by_cases hlt : k2 < len + 40
        · have hlti : (k2 : Int) < (len : Int) + 40 := by omega
          have hT : Hid (∀ W, Ext wr W → TabW W) := Lib.hid (fun W hE4 => h'.out.tab W ((((hE.trans hEl'.out).trans hE2).trans hE4).mono h'.out.base_le))
          obtain ⟨s, hs2⟩ : ∃ s, s = (num : Int) := ⟨_, rfl⟩
          have his : Hid (∀ W, Ext wr W → Calls Tryz.prog 150 #[.agg #[.int .u8 200, .int .u8 0, .int .u8 0, .int .u32 0, .int .u8 0, .int .u32 s, .int .u64 0, .int .u64 0, .slice none 0 0, .slice none 0 0, .slice none 0 0, .slice none 0 0, .slice none 0 0, .int .i64 0, .bool false, .slice none 0 0], .int .i64 (num : Int)] W fun e w' => e = .returned (.bool true) ∧ Ext W w') := Lib.hid (fun W hE => by rw [hs2]; exact isMsg_any W num (Nat.lt_of_lt_of_le hn1 (by decide)))
          have hmk : Hid (mkMsgL num = [.int .u8 200, .int .u8 0, .int .u8 0, .int .u32 0, .int .u8 0, .int .u32 s, .int .u64 0, .int .u64 0, .slice none 0 0, .slice none 0 0, .slice none 0 0, .slice none 0 0, .slice none 0 0, .int .i64 0, .bool false, .slice none 0 0]) := Lib.hid (by rw [hs2]; rfl)
          have hg2 : wr.rangeAt gb (go + k2 * 16) (mkMsgL num) := fun i v hv => hE2.cell (hEl'.out.cell (hrl'.out k2 hlt i v hv))
          rw [hmk.out] at hg2
          clear hs2
          by_cases hin : k2 < len
          · have hini : (k2 : Int) < (len : Int) := by omega
            obtain ⟨ab, ao, e5, _, hra⟩ := reps_range hr1'.out rfl (by omega)
            subst e5
            have ha2 : wr.rangeAt ab (ao + k2 * 16) (mkMsgL num) := fun i v hv => hE2.cell (hEl'.out.cell (hra k2 hin i v hv))
            rw [hmk.out] at ha2
            clear hra
            go_upto_region 10 with fail
            refine bqRegion (Ext wr) (by kernel_rfl) (by kernel_rfl) (Ext.refl _).drew ?_
            iterate 1 (refine bqStep (fun K hK => ?_); go_simp; first | (refine hK _ ?_; clear hK K) | (refine ⟨_, fun _ _ => rfl, hK _ ?_⟩; clear hK K))
            refine bqCell (by rfl) 71 _ (by rfl) hl 1 (by rfl) _ (fun w' hw => (hL.out w' (hE2.trans hw)).2.1) _ Tryz.underlying71 rfl ?_
            iterate 2 (refine bqStep (fun K hK => ?_); go_simp; first | (refine hK _ ?_; clear hK K) | (refine ⟨_, fun _ _ => rfl, hK _ ?_⟩; clear hK K))
            refine bqMid (by rfl) 63 _ (by rfl) gb (go + k2 * 16) (by rfl) [.int .u8 200, .int .u8 0, .int .u8 0, .int .u32 0, .int .u8 0, .int .u32 s, .int .u64 0, .int .u64 0, .slice none 0 0, .slice none 0 0, .slice none 0 0, .slice none 0 0, .slice none 0 0, .int .i64 0, .bool false, .slice none 0 0] _ (fun w' hw i v hv => hw.cell (hg2 i v hv)) Tryz.underlying63 rfl (by exact info_msgM) ?_
            iterate 1 (refine bqStep (fun K hK => ?_); go_simp; first | (refine hK _ ?_; clear hK K) | (refine ⟨_, fun _ _ => rfl, hK _ ?_⟩; clear hK K))
            refine bqCell (by rfl) 3 _ (by rfl) hl 2 (by rfl) _ (fun w' hw => (hL.out w' (hE2.trans hw)).2.2) _ Tryz.underlying3 rfl ?_
            refine bqStep (fun K hK => ?_); go_simp; refine ⟨_, fun w' hw => (his.out w' hw).mono (fun e w'' h => ⟨h.1, hw.trans h.2⟩), hK _ ?_⟩; clear hK K
            iterate 4 (refine bqStep (fun K hK => ?_); go_simp; first | (refine hK _ ?_; clear hK K) | (refine ⟨_, fun _ _ => rfl, hK _ ?_⟩; clear hK K))
            refine bqCell (by rfl) 71 _ (by rfl) hl 0 (by rfl) _ (fun w' hw => (hL.out w' (hE2.trans hw)).1) _ Tryz.underlying71 rfl ?_
            iterate 3 (refine bqStep (fun K hK => ?_); go_simp; first | (refine hK _ ?_; clear hK K) | (refine ⟨_, fun _ _ => rfl, hK _ ?_⟩; clear hK K))
            iterate 1 (refine bqStep (fun K hK => ?_); go_simp; first | (refine hK _ ?_; clear hK K) | (refine ⟨_, fun _ _ => rfl, hK _ ?_⟩; clear hK K))
            refine bqCell (by rfl) 71 _ (by rfl) hl 0 (by rfl) _ (fun w' hw => (hL.out w' (hE2.trans hw)).1) _ Tryz.underlying71 rfl ?_
            iterate 2 (refine bqStep (fun K hK => ?_); go_simp; first | (refine hK _ ?_; clear hK K) | (refine ⟨_, fun _ _ => rfl, hK _ ?_⟩; clear hK K))
            refine bqMid (by rfl) 63 _ (by rfl) ab (ao + k2 * 16) (by rfl) [.int .u8 200, .int .u8 0, .int .u8 0, .int .u32 0, .int .u8 0, .int .u32 s, .int .u64 0, .int .u64 0, .slice none 0 0, .slice none 0 0, .slice none 0 0, .slice none 0 0, .slice none 0 0, .int .i64 0, .bool false, .slice none 0 0] _ (fun w' hw i v hv => hw.cell (ha2 i v hv)) Tryz.underlying63 rfl (by exact info_msgM) ?_
            iterate 1 (refine bqStep (fun K hK => ?_); go_simp; first | (refine hK _ ?_; clear hK K) | (refine ⟨_, fun _ _ => rfl, hK _ ?_⟩; clear hK K))
            refine bqCell (by rfl) 3 _ (by rfl) hl 2 (by rfl) _ (fun w' hw => (hL.out w' (hE2.trans hw)).2.2) _ Tryz.underlying3 rfl ?_
            refine bqStep (fun K hK => ?_); go_simp; refine ⟨_, fun w' hw => (his.out w' hw).mono (fun e w'' h => ⟨h.1, hw.trans h.2⟩), hK _ ?_⟩; clear hK K
            iterate 1 (refine bqStep (fun K hK => ?_); go_simp; first | (refine hK _ ?_; clear hK K) | (refine ⟨_, fun _ _ => rfl, hK _ ?_⟩; clear hK K))
            iterate 2 (refine bqStep (fun K hK => ?_); go_simp; first | (refine hK _ ?_; clear hK K) | (refine ⟨_, fun _ _ => rfl, hK _ ?_⟩; clear hK K))
            refine bqNil (fun w9 hE9 => ?_)
            try simp only [Act.put, List.setIfInBounds_toArray, List.set_cons_zero, List.set_cons_succ]
            go_wp2_with fail
            go_roundw
            case rel => exact ⟨k2 + 1, by go_num, by omega, hE2.trans hE9⟩
            case measure => simp [intOf]; omega
          · have hini : ¬ (k2 : Int) < (len : Int) := by omega
            have hind : decide ((k2 : Int) < (len : Int)) = false := decide_eq_false hini
            have hind2 : decide (k2 < len) = false := decide_eq_false hin
            go_upto_region 10 with fail
            refine bqRegion (Ext wr) (by kernel_rfl) (by kernel_rfl) (Ext.refl _).drew ?_
            iterate 1 (refine bqStep (fun K hK => ?_); go_simp; first | (refine hK _ ?_; clear hK K) | (refine ⟨_, fun _ _ => rfl, hK _ ?_⟩; clear hK K))
            refine bqCell (by rfl) 71 _ (by rfl) hl 1 (by rfl) _ (fun w' hw => (hL.out w' (hE2.trans hw)).2.1) _ Tryz.underlying71 rfl ?_
            iterate 2 (refine bqStep (fun K hK => ?_); go_simp; first | (refine hK _ ?_; clear hK K) | (refine ⟨_, fun _ _ => rfl, hK _ ?_⟩; clear hK K))
            refine bqMid (by rfl) 63 _ (by rfl) gb (go + k2 * 16) (by rfl) [.int .u8 200, .int .u8 0, .int .u8 0, .int .u32 0, .int .u8 0, .int .u32 s, .int .u64 0, .int .u64 0, .slice none 0 0, .slice none 0 0, .slice none 0 0, .slice none 0 0, .slice none 0 0, .int .i64 0, .bool false, .slice none 0 0] _ (fun w' hw i v hv => hw.cell (hg2 i v hv)) Tryz.underlying63 rfl (by exact info_msgM) ?_
            iterate 1 (refine bqStep (fun K hK => ?_); go_simp; first | (refine hK _ ?_; clear hK K) | (refine ⟨_, fun _ _ => rfl, hK _ ?_⟩; clear hK K))
            refine bqCell (by rfl) 3 _ (by rfl) hl 2 (by rfl) _ (fun w' hw => (hL.out w' (hE2.trans hw)).2.2) _ Tryz.underlying3 rfl ?_
            refine bqStep (fun K hK => ?_); go_simp; refine ⟨_, fun w' hw => (his.out w' hw).mono (fun e w'' h => ⟨h.1, hw.trans h.2⟩), hK _ ?_⟩; clear hK K
            iterate 4 (refine bqStep (fun K hK => ?_); go_simp; first | (refine hK _ ?_; clear hK K) | (refine ⟨_, fun _ _ => rfl, hK _ ?_⟩; clear hK K))
            refine bqCell (by rfl) 71 _ (by rfl) hl 0 (by rfl) _ (fun w' hw => (hL.out w' (hE2.trans hw)).1) _ Tryz.underlying71 rfl ?_
            iterate 3 (refine bqStep (fun K hK => ?_); go_simp; first | (refine hK _ ?_; clear hK K) | (refine ⟨_, fun _ _ => rfl, hK _ ?_⟩; clear hK K))
            iterate 9 (refine bqSkip (by rfl) ?_; simp only [Act.put, List.setIfInBounds_toArray, List.set_cons_zero, List.set_cons_succ])
            iterate 2 (refine bqStep (fun K hK => ?_); go_simp; first | (refine hK _ ?_; clear hK K) | (refine ⟨_, fun _ _ => rfl, hK _ ?_⟩; clear hK K))
            refine bqNil (fun w9 hE9 => ?_)
            try simp only [Act.put, List.setIfInBounds_toArray, List.set_cons_zero, List.set_cons_succ]
            go_wp2_with fail
            go_roundw
            case rel => exact ⟨k2 + 1, by go_num, by omega, hE2.trans hE9⟩
            case measure => simp [intOf]; omega
        · have hlti : ¬ (k2 : Int) < (len : Int) + 40 := by omega
          have hEn := Lib.hid ((hE.trans hEl'.out).trans hE2)
          go_wp2_with fail
          go_roundw
          case rel => exact ⟨k + 1, by go_num, by omega, hEn.out⟩
          case measure => simp [intOf]; omega
    · have hki : ¬ (k : Int) < (M : Int) := by omega
      go_wp2_with fail
      go_ret
      exact ⟨rfl, hE⟩
end Go.Proofs.YtmopjmhapeinjaaGreatDoor
