/- drop. No condition. -/
import Derived.Test.YtefllplgbalbkaaGreatDoorMg2
namespace Go.Proofs.YtefllplgbalbkaaGreatDoor
open Go.RowKit
set_option maxRecDepth 100000
set_option maxHeartbeats 4000000
/-- The heap in memory, whatever its lists are. -/
structure HpW (w : World) (hb rb cap : Nat) (hs : List Ls) : Prop where
  hd : w.heap[hb]? = some (.cells #[.slice (some ⟨rb, 0, none⟩) hs.length cap, .func (.func 75) #[] #[]] 81 (0, 0))
  row : ∃ cur, w.heap[rb]? = some (.cells cur 22 (0, 0)) ∧ hs.length ≤ cap ∧ cap ≤ maxLen ∧ cap ≤ cur.size ∧ cur.toList.take hs.length = hs.map (·.1)
  ne : hb ≠ rb
  fm : ∀ p ∈ hs, ∃ a n c, p.1 = .slice a n c
theorem HpAt.weak {W0 w : World} {hb rb cap : Nat} {hs : List Ls} (h : HpAt W0 w hb rb cap hs) : HpW w hb rb cap hs := ⟨h.hd, h.row, h.ne, fun p hp => by obtain ⟨⟨a, c, e, _⟩, _⟩ := h.el p hp; exact ⟨a, _, c, e⟩⟩
theorem HpW.strong {W0 w : World} {hb rb cap : Nat} {hs : List Ls} (h : HpW w hb rb cap hs) (he : ∀ p ∈ hs, ElOk W0 p) : HpAt W0 w hb rb cap hs := ⟨h.hd, h.row, h.ne, he⟩
theorem HpW.off {w w' : World} {hb rb cap : Nat} {hs : List Ls} {B : Nat → Prop} (h : HpW w hb rb cap hs) (ho : OffB B w w') (h1 : ¬ B hb) (h2 : ¬ B rb) : HpW w' hb rb cap hs := by
  obtain ⟨cur, k1, k2⟩ := h.row
  refine ⟨?_, ⟨cur, ?_, k2⟩, h.ne, h.fm⟩
  · rw [ho.block hb (Array.getElem?_eq_some_iff.1 h.hd).1 h1]; exact h.hd
  · rw [ho.block rb (Array.getElem?_eq_some_iff.1 k1).1 h2]; exact k1
theorem HpW.cells {w : World} {hb rb cap : Nat} {hs : List Ls} (h : HpW w hb rb cap hs) : w.cell? ⟨hb, 0, none⟩ = some (.slice (some ⟨rb, 0, none⟩) hs.length cap) ∧ w.frozen? ⟨hb, 0, none⟩ = false := by
  refine ⟨?_, by unfold World.frozen?; rw [h.hd]; simp⟩
  rw [cell_of_row _ _ _ _ 81 (0, 0) h.hd]; rfl
theorem HpW.at {w : World} {hb rb cap : Nat} {hs : List Ls} (h : HpW w hb rb cap hs) {i : Nat} {p : Ls} (hp : hs[i]? = some p) : w.cell? ⟨rb, i, none⟩ = some p.1 ∧ w.frozen? ⟨rb, i, none⟩ = false := by
  obtain ⟨cur, h1, h2, h3, h4, h5⟩ := h.row
  have hi : i < hs.length := (List.getElem?_eq_some_iff.1 hp).1
  refine ⟨?_, by unfold World.frozen?; rw [h1]; simp⟩
  rw [cell_of_row _ _ i cur 22 (0, 0) h1]
  have h6 : (cur.toList.take hs.length)[i]? = (hs.map (·.1))[i]? := by rw [h5]
  rw [List.getElem?_take, if_pos hi, List.getElem?_map, hp] at h6
  simpa using h6
theorem HpW.set {w : World} {hb rb cap : Nat} {hs : List Ls} (h : HpW w hb rb cap hs) (i : Nat) (p : Ls) (hp : ∃ a n c, p.1 = .slice a n c) : HpW (w.setCell ⟨rb, i, none⟩ p.1) hb rb cap (hs.set i p) ∧ OffB (fun k => k = rb) w (w.setCell ⟨rb, i, none⟩ p.1) := by
  obtain ⟨cur, h1, h2, h3, h4, h5⟩ := h.row
  have hs' := setCell_eq_setRow w rb i cur 22 (0, 0) p.1 h1
  have hoff : OffB (fun k => k = rb) w (w.setCell ⟨rb, i, none⟩ p.1) := OffB.setCell (B := fun k => k = rb) (OffB.refl w) (p := ⟨rb, i, none⟩) rfl _
  refine ⟨⟨?_, ⟨cur.setIfInBounds i p.1, ?_, ?_, h3, ?_, ?_⟩, h.ne, fun q hq => ?_⟩, hoff⟩
  · rw [List.length_set, hs', setRow_other w rb hb _ h.ne]; exact h.hd
  · rw [hs', setRow_heap _ _ _ _ _ _ h1]
  · rw [List.length_set]; exact h2
  · rw [Array.size_setIfInBounds]; exact h4
  · rw [List.length_set, Array.toList_setIfInBounds, List.take_set, h5, List.map_set]
  · rcases List.mem_or_eq_of_mem_set hq with hq | rfl
    · exact h.fm q hq
    · exact hp
theorem HpW.short {w : World} {hb rb cap : Nat} {hs : List Ls} (h : HpW w hb rb cap hs) {m : Nat} (hm : m ≤ hs.length) : HpW (w.setCell ⟨hb, 0, none⟩ (.slice (some ⟨rb, 0, none⟩) m cap)) hb rb cap (hs.take m) ∧ OffB (fun k => k = hb) w (w.setCell ⟨hb, 0, none⟩ (.slice (some ⟨rb, 0, none⟩) m cap)) := by
  obtain ⟨cur, h1, h2, h3, h4, h5⟩ := h.row
  have hs' := setCell_eq_setRow w hb 0 _ 81 (0, 0) (.slice (some ⟨rb, 0, none⟩) m cap) h.hd
  have hoff : OffB (fun k => k = hb) w (w.setCell ⟨hb, 0, none⟩ (.slice (some ⟨rb, 0, none⟩) m cap)) := OffB.setCell (B := fun k => k = hb) (OffB.refl w) (p := ⟨hb, 0, none⟩) rfl _
  have hl : (hs.take m).length = m := by rw [List.length_take]; omega
  refine ⟨⟨?_, ⟨cur, ?_, by omega, h3, h4, ?_⟩, h.ne, fun q hq => h.fm q (List.mem_of_mem_take hq)⟩, hoff⟩
  · rw [hl, hs', setRow_heap _ _ _ _ _ _ h.hd]; rfl
  · rw [hs', setRow_other w hb rb _ (fun e => h.ne e.symm)]; exact h1
  · rw [hl, List.map_take, ← h5, List.take_take, Nat.min_eq_left hm]
theorem sink_nil (W : World) (hb : Nat) (a : Option Addr) (cap : Nat) (c0 : W.cell? ⟨hb, 0, none⟩ = some (.slice a 0 cap)) : Calls Tryz.prog 77 #[.pointer (some ⟨hb, 0, none⟩), .int .i64 0] W fun e W' => e = .returned (.tuple #[]) ∧ Ext W W' := by
  have hx0 := run_ix0
  have hx1 := run_ix1
  go_enter Tryz.func77, Tryz.ntmps77
  go_wp2_with fail
  go_loopw [1, 4, 6] (fun a _ _ wr => a = .int .i64 0 ∧ Ext W wr) (fun _ _ _ _ => 0)
  case atStart => exact ⟨rfl, Ext.refl _⟩
  case round =>
    obtain ⟨rfl, hE⟩ := hrel
    obtain ⟨W1, hW1⟩ : ∃ W1, W1 = wr := ⟨_, rfl⟩
    subst hW1
    go_wp2_with fail
    go_loopw [4, 6, 15] (fun m _ r wq => ∃ rr : Nat, rr ≤ 2 ∧ r = .int .i64 rr ∧ m = .int .i64 0 ∧ Ext W1 wq) (fun _ _ r _ => 2 - (intOf r).toNat)
    case atStart => exact ⟨0, by omega, rfl, rfl, Ext.refl _⟩
    case round =>
      obtain ⟨rr, hrr, rfl, rfl, hEq⟩ := hrel
      obtain ⟨W2, hW2⟩ : ∃ W1, W1 = wr := ⟨_, rfl⟩
      subst hW2
      have c0' := (hE.trans hEq).cell c0
      obtain rfl | rfl | rfl : rr = 0 ∨ rr = 1 ∨ rr = 2 := by omega
      · go_upto_region 4 with fail
        refine bqRegion (Ext W2) (by kernel_rfl) (by kernel_rfl) (Ext.refl _).drew ?_
        iterate 4 (refine bqStep (fun K hK => ?_); go_simp; first | (refine hK _ ?_; clear hK K) | (refine ⟨_, fun _ _ => rfl, hK _ ?_⟩; clear hK K))
        refine bqCell (by rfl) 58 _ (by rfl) hb (0) (by rfl) _ (fun w' hw => hw.cell c0') _ Tryz.underlying58 rfl ?_
        simp only [Act.put, List.setIfInBounds_toArray, List.set_cons_zero, List.set_cons_succ]
        iterate 3 (refine bqStep (fun K hK => ?_); go_simp; first | (refine hK _ ?_; clear hK K) | (refine ⟨_, fun _ _ => rfl, hK _ ?_⟩; clear hK K))
        iterate 19 (refine bqSkip (by rfl) ?_; simp only [Act.put, List.setIfInBounds_toArray, List.set_cons_zero, List.set_cons_succ])
        iterate 1 (refine bqStep (fun K hK => ?_); go_simp; first | (refine hK _ ?_; clear hK K) | (refine ⟨_, fun _ _ => rfl, hK _ ?_⟩; clear hK K))
        refine bqNil (fun w5 hE5 => ?_)
        try simp only [Act.put, List.setIfInBounds_toArray, List.set_cons_zero, List.set_cons_succ]
        have hEf := hEq.trans hE5
        clear c0'
        go_wp2_with fail
        go_roundw
        case rel => first | exact ⟨1, by omega, rfl, rfl, hEf⟩ | ((repeat apply Exists.intro); exact ⟨⟨1, by omega, rfl, rfl, hEf⟩, rfl⟩)
        case measure => simp [intOf]
      · go_upto_region 4 with fail
        refine bqRegion (Ext W2) (by kernel_rfl) (by kernel_rfl) (Ext.refl _).drew ?_
        iterate 4 (refine bqStep (fun K hK => ?_); go_simp; first | (refine hK _ ?_; clear hK K) | (refine ⟨_, fun _ _ => rfl, hK _ ?_⟩; clear hK K))
        refine bqCell (by rfl) 58 _ (by rfl) hb (0) (by rfl) _ (fun w' hw => hw.cell c0') _ Tryz.underlying58 rfl ?_
        simp only [Act.put, List.setIfInBounds_toArray, List.set_cons_zero, List.set_cons_succ]
        iterate 3 (refine bqStep (fun K hK => ?_); go_simp; first | (refine hK _ ?_; clear hK K) | (refine ⟨_, fun _ _ => rfl, hK _ ?_⟩; clear hK K))
        iterate 19 (refine bqSkip (by rfl) ?_; simp only [Act.put, List.setIfInBounds_toArray, List.set_cons_zero, List.set_cons_succ])
        iterate 1 (refine bqStep (fun K hK => ?_); go_simp; first | (refine hK _ ?_; clear hK K) | (refine ⟨_, fun _ _ => rfl, hK _ ?_⟩; clear hK K))
        refine bqNil (fun w5 hE5 => ?_)
        try simp only [Act.put, List.setIfInBounds_toArray, List.set_cons_zero, List.set_cons_succ]
        have hEf := hEq.trans hE5
        clear c0'
        go_wp2_with fail
        go_roundw
        case rel => first | exact ⟨2, by omega, rfl, rfl, hEf⟩ | ((repeat apply Exists.intro); exact ⟨⟨2, by omega, rfl, rfl, hEf⟩, rfl⟩)
        case measure => simp [intOf]
      · go_wp2_with fail
        refine bodyPost_ret (results_none rfl _ _ _) rfl ?_
        exact ⟨rfl, hE.trans hEq⟩
theorem drop_perm {hs : List Ls} {n : Nat} {x : Ls} (hl : hs.length = n + 1) (hx : hs[n]? = some x) : ((hs.set 0 x).take n).Perm hs.tail := by
  match hs, hl with
  | h :: t, hl =>
    have ht : t.length = n := by simpa using hl
    rw [List.set_cons_zero, List.tail_cons]
    cases n with
    | zero =>
      have : t = [] := List.eq_nil_of_length_eq_zero ht
      subst this
      exact List.Perm.refl _
    | succ n =>
      rw [List.take_succ_cons]
      rw [List.getElem?_cons_succ] at hx
      have h1 : t = t.take n ++ [x] := by
        have h2 : t.take (n + 1) = t.take n ++ [x] := by rw [List.take_add_one, hx]; rfl
        rw [List.take_of_length_le (by omega)] at h2
        exact h2
      rw [h1]
      have h3 : (t.take n ++ [x]).take n = t.take n := by rw [List.take_append_of_le_length (by rw [List.length_take]; omega), List.take_take, Nat.min_self]
      rw [h3]
      exact (List.perm_append_singleton x (t.take n)).symm
theorem drop_hp {hs : List Ls} {n : Nat} {x : Ls} (h : HPx 1 hs) : HPx 1 ((hs.set 0 x).take n) := fun i j p q h1 h2 h3 h4 => by
  rw [List.getElem?_take] at h3 h4
  split at h3
  · split at h4
    · rw [List.getElem?_set_ne (by omega)] at h3
      rw [List.getElem?_set_ne (by have := child_lt h2; omega)] at h4
      exact h i j p q h1 h2 h3 h4
    · cases h4
  · cases h3
theorem HPx.set0 {hs : List Ls} {p : Ls} (h : HPx 1 hs) : HPx 1 (hs.set 0 p) := fun i j a b h1 h2 h3 h4 => by
  rw [List.getElem?_set_ne (by omega)] at h3
  rw [List.getElem?_set_ne (by have := child_lt h2; omega)] at h4
  exact h i j a b h1 h2 h3 h4
def DropE (W0 W : World) (hb rb cap : Nat) (hs : List Ls) (e : Ending) (W' : World) : Prop := e = .returned (.tuple #[]) ∧ ∃ hs', HpAt W0 W' hb rb cap hs' ∧ hs'.Perm hs.tail ∧ (HPx 1 hs → HPx 0 hs') ∧ OffB (fun k => k = rb ∨ k = hb) W W'
theorem drop_any (W0 W : World) (hb rb cap : Nat) (hs : List Ls) (hH : HpW W hb rb cap hs) (h0 : Ext W0 W) (hrb : W0.heap.size ≤ rb) (hhb : W0.heap.size ≤ hb) (hlo : 0 < hs.length) (hn : hs.length ≤ 1000000) (hel : ∀ p ∈ hs.tail, ElOk W0 p) : Calls Tryz.prog 78 #[.pointer (some ⟨hb, 0, none⟩)] W (DropE W0 W hb rb cap hs) := by
  obtain ⟨n, hnn⟩ : ∃ n, n + 1 = hs.length := ⟨hs.length - 1, by omega⟩
  obtain ⟨x, hx⟩ : ∃ x, hs[n]? = some x := ⟨_, List.getElem?_eq_getElem (by omega)⟩
  obtain ⟨t, ht⟩ : ∃ x, hs[0]? = some x := ⟨_, List.getElem?_eq_getElem (by omega)⟩
  obtain ⟨f0, z0⟩ := hH.cells
  obtain ⟨px, _⟩ := hH.at hx
  have pt := (hH.at ht).1
  have zt := (hH.at ht).2
  obtain ⟨xa, xn, xc, ex⟩ := hH.fm x (List.mem_of_getElem? hx)
  obtain ⟨hS, hO⟩ := hH.set 0 x (hH.fm x (List.mem_of_getElem? hx))
  have g0 := hS.cells.1
  have y0 := hS.cells.2
  rw [List.length_set] at g0
  have hS2 := hS.off (OffB.drew (OffB.refl (B := fun _ => False) _)) (fun h => h) (fun h => h)
  obtain ⟨hT, hO2⟩ := hS2.short (m := n) (by rw [List.length_set]; omega)
  have htk : ((hs.set 0 x).take n).length = n := by rw [List.length_take, List.length_set]; omega
  have hcap : n + 1 ≤ cap := by obtain ⟨_, _, h, _⟩ := hH.row; omega
  have hpm := drop_perm hnn.symm hx
  have hT' : HpAt W0 _ hb rb cap _ := hT.strong (fun p hp => hel p (hpm.mem_iff.1 hp))
  obtain ⟨N, hN⟩ : ∃ N, N = hs.length := ⟨_, rfl⟩
  rw [← hN] at f0 g0 hnn hn
  rw [ex] at px g0 hT' hO2 hO y0
  have hoW := ((hO.mono (B' := fun k => k = rb ∨ k = hb) (fun k h => .inl h)).drew).trans (hO2.mono (B' := fun k => k = rb ∨ k = hb) (fun k h => .inr h))
  obtain ⟨W5, hW5⟩ : ∃ W5, W5 = ((W.setCell ⟨rb, 0, none⟩ (.slice xa xn xc)).drew).setCell ⟨hb, 0, none⟩ (.slice (some ⟨rb, 0, none⟩) n cap) := ⟨_, rfl⟩
  rw [← hW5] at hT' hoW
  have hE5 : Ext W0 W5 := Below.trans h0 (hoW.below (base := W0.heap.size) (fun k hk => by rcases hk with hk | hk <;> rw [hk] <;> assumption) h0.size)
  have hn1 : IntKind.i64.wrap ((N : Int) - 1) = (n : Int) := by rw [IntKind.wrap_i64]; omega
  have hn2 : (n : Int) < (N : Int) := by omega
  have hn3 : (0 : Int) < (N : Int) := by omega
  have hn4 : 0 ≤ (n : Int) := by omega
  have hn5 : (n : Int) ≤ (cap : Int) := by omega
  have hW5' := Lib.hid hW5
  have hT2 := Lib.hid hT'
  have hoW' := Lib.hid hoW
  have hpm' := Lib.hid hpm
  have htk' := Lib.hid htk
  have hhp := Lib.hid (drop_hp (hs := hs) (n := n) (x := x))
  have hn6 : 0 < N := by omega
  have hnn' := Lib.hid hnn
  have hN' := Lib.hid hN
  clear hN hS hS2 hT hO hO2 hH hel hx ht hW5 hT' hoW hpm htk ex hlo hnn
  go_enter Tryz.func78, Tryz.ntmps78
  go_upto_region 1 with fail
  go_region
  go_upto_region 3 with fail
  have hW6 : ((W.setCell ⟨rb, 0, none⟩ (.slice xa xn xc)).setCell ⟨hb, 0, none⟩ (.slice (some ⟨rb, 0, none⟩) n cap)).drew = W5 := hW5'.out.symm
  rw [hW6]
  clear hW6 hW5' f0 z0 px pt zt g0 y0
  go_wp2_with fail
  by_cases hn0 : n = 0
  · have hT := hT2.out
    have hl0 : (hs.set 0 x).take n = [] := by rw [hn0]; rfl
    have hc := hT.cells.1
    rw [hl0] at hc
    refine (sink_nil W5 hb (some ⟨rb, 0, none⟩) cap hc).mono ?_
    rintro e W6 ⟨rfl, hE6⟩
    go_wp2_with fail
    go_end0
    refine ⟨rfl, _, hT.ext hE6, hpm'.out, fun _ => ?_, hoW'.out.trans (OffB.of_ext hE6)⟩
    rw [hl0]
    exact HPx.half (by simp)
  · have hc := sink_any W0 W5 hb rb cap 0 _ hT2.out hE5 hrb (by rw [htk'.out]; omega) (by rw [htk'.out]; omega)
    refine hc.mono ?_
    clear hc
    rintro e W6 ⟨rfl, hs', h1, h2, h3, h4⟩
    go_wp2_with fail
    go_end0
    exact ⟨rfl, hs', h1, h2.trans hpm'.out, fun h => h3 (hhp.out h), hoW'.out.trans (h4.mono (fun k h => .inl h))⟩
end Go.Proofs.YtefllplgbalbkaaGreatDoor
