/- A state's make: changes, one by one. No condition. -/
import Derived.Test.YtmjoaiepfipmaaaMod4
import Derived.Test.YtmjoaiepfipmaaaOff
import Derived.Deep.RegionHeld3
import Derived.StillTailTactics
namespace Go.Proofs.Ytmjoaiepfipmaaa
open Go.RowKit Go.Maps Go.WideMaps
set_option maxRecDepth 100000
set_option maxHeartbeats 2000000
def insW (x : Rw) : List Rw → List Rw
  | [] => [x]
  | y :: r => if bytesBefore x.key.data.toList y.key.data.toList then x :: y :: r else y :: insW x r
def putW (l : List Rw) (k v : ByteArray) : List Rw := insW ⟨k, v⟩ (l.filter fun r => !(r.key.data.toList == k.data.toList))
def delW (l : List Rw) (k : ByteArray) : List Rw := l.filter fun r => !(r.key.data.toList == k.data.toList)
theorem insR_map (x : Rw × Nat) : ∀ rs : List (Rw × Nat), (insR x rs).map Prod.fst = insW x.1 (rs.map Prod.fst)
  | [] => rfl
  | y :: r => by
    unfold insR
    rw [List.map_cons]
    unfold insW
    split
    · rfl
    · rw [List.map_cons, insR_map x r]
theorem filt_map (k : ByteArray) (rs : List (Rw × Nat)) : (rs.filter fun p => !keyIs k p).map Prod.fst = (rs.map Prod.fst).filter fun r => !(r.key.data.toList == k.data.toList) := by
  rw [List.filter_map]; rfl
theorem putR_map (rs : List (Rw × Nat)) (k v : ByteArray) (g : Nat) : (putR rs k v g).map Prod.fst = putW (rs.map Prod.fst) k v := by
  unfold putR putW; rw [insR_map, filt_map]
theorem delR_map (rs : List (Rw × Nat)) (k : ByteArray) : (delR rs k).map Prod.fst = delW (rs.map Prod.fst) k := by
  unfold delR delW; exact filt_map k rs
theorem insR_mem {x p : Rw × Nat} : ∀ {rs : List (Rw × Nat)}, p ∈ insR x rs → p = x ∨ p ∈ rs
  | [], h => by simp [insR] at h; exact .inl h
  | y :: r, h => by
    unfold insR at h
    split at h
    · rcases List.mem_cons.1 h with h | h
      · exact .inl h
      · exact .inr h
    · rcases List.mem_cons.1 h with h | h
      · exact .inr (by rw [h]; exact List.mem_cons_self ..)
      · rcases insR_mem h with h | h
        · exact .inl h
        · exact .inr (List.mem_cons_of_mem _ h)
theorem insR_length (x : Rw × Nat) : ∀ rs : List (Rw × Nat), (insR x rs).length = rs.length + 1
  | [] => rfl
  | y :: r => by unfold insR; split <;> simp [insR_length x r]
theorem putR_length (rs : List (Rw × Nat)) (k v : ByteArray) (g : Nat) : (putR rs k v g).length ≤ rs.length + 1 := by
  unfold putR; rw [insR_length]; have := List.length_filter_le (fun p => !keyIs k p) rs; omega
/-- One change. -/
def chW (l : List Rw) (c : Ch) : List Rw := if c.gone then delW l c.key else putW l c.key c.val
def chsW (l : List Rw) (cs : List Ch) : List Rw := cs.foldl chW l
theorem chsW_take {l : List Rw} {cs : List Ch} {k : Nat} {c : Ch} (h : cs[k]? = some c) : chsW l (cs.take (k + 1)) = chW (chsW l (cs.take k)) c := by
  unfold chsW; rw [List.take_add_one, h, List.foldl_append]; rfl
/-- A state's map is written at a key: the row's block lies in memory already. -/
theorem StX.store {w0 w : World} {st : Nat} {rs : List (Rw × Nat)} {sd : List Sv} (h : StX w0 w st rs sd) (hn : rs.length ≤ 1000000) {k v : ByteArray} (hk : k.size ≤ 140737488351232) {g : Nat} (hg : w0.heap.size ≤ g) (hgs : g ≠ st) (hrow : w.heap[g]? = some (.cells (rowR ⟨k, v⟩) 62 (0, 0))) {mb : Nat} (hmb : w.cell? ⟨st, 0, none⟩ = some (.map (some mb))) :
    ∃ w', (Instr.mapUpdate 28 (.map (some mb)) (.string k) (.pointer (some ⟨g, 0, none⟩))).run Try.prog w = .ok () w' ∧ StX w0 w' st (putR rs k v g) sd ∧ w.grownBy w' (some mb) := by
  obtain ⟨h0, h1, mb', h2, h3, h4, h5, h6⟩ := h
  have hc := cell_of_row _ _ 0 _ 37 (0, 0) h6
  rw [hmb] at hc
  obtain rfl : mb = mb' := by simpa [stRow] using hc
  obtain ⟨w', hrun, hown, hgr⟩ := h2.1.update keyed Try.underlying28 (by unfold maxLen; omega) (keyOf_string_mk Try.underlying9 (s := k) (by unfold maxLen; omega)) (val := .pointer (some ⟨g, 0, none⟩)) (d := .lit (.int .u64 (g : Int))) (ps := []) rfl
  rw [dOf_put] at hown
  have hown2 := own_tight hown
  rw [dOf_size] at hown2
  have hbl : ∀ i, i < w.heap.size → i ≠ mb → w'.heap[i]? = w.heap[i]? := fun i hi hne => hgr.block i hi (fun e => hne (by injection e))
  have hgl := (Array.getElem?_eq_some_iff.1 hrow).1
  have hgm : g ≠ mb := fun e => by
    obtain ⟨es, clock, hb, _⟩ := h2.1
    rw [← e, hrow] at hb; cases hb
  refine ⟨w', hrun, ⟨?_, h1, mb, ⟨hown2, h2.2.1, fun p hp => ?_⟩, h3, h4, fun p hp => ?_, ?_⟩, hgr⟩
  · exact Below.trans h0 ⟨hgr.os, hgr.tape, hgr.output, hgr.size, fun i hi => hbl i (by have := h0.size; omega) (by have := h2.2.1; omega)⟩
  · rcases insR_mem hp with rfl | hp
    · exact ⟨hg, hgm, by rw [hbl g hgl hgm]; exact hrow⟩
    · have hp := (List.mem_filter.1 hp).1
      obtain ⟨a, b, c⟩ := h2.2.2 p hp
      exact ⟨a, b, by rw [hbl p.2 (Array.getElem?_eq_some_iff.1 c).1 b]; exact c⟩
  · rcases insR_mem hp with rfl | hp
    · exact hgs
    · exact h5 p (List.mem_filter.1 hp).1
  · rw [hbl st (Array.getElem?_eq_some_iff.1 h6).1 h4]; exact h6
/-- A key is struck. -/
theorem StX.strike {w0 w : World} {st : Nat} {rs : List (Rw × Nat)} {sd : List Sv} (h : StX w0 w st rs sd) {k : ByteArray} (hk : k.size ≤ 140737488351232) {mb : Nat} (hmb : w.cell? ⟨st, 0, none⟩ = some (.map (some mb))) (ty : TypeId) :
    ∃ w', (Builtin.delete_ #[28, 9] ty #[.map (some mb), .string k]).run Try.prog w = .ok (.tuple #[]) w' ∧ StX w0 w' st (delR rs k) sd ∧ w.grownBy w' (some mb) := by
  obtain ⟨h0, h1, mb', h2, h3, h4, h5, h6⟩ := h
  have hc := cell_of_row _ _ 0 _ 37 (0, 0) h6
  rw [hmb] at hc
  obtain rfl : mb = mb' := by simpa [stRow] using hc
  obtain ⟨w', hrun, hown, htn⟩ := h2.1.drop keyed Try.underlying28 (keyOf_string_mk Try.underlying9 (s := k) (by unfold maxLen; omega)) ty
  have hgr := htn.grown
  rw [dOf_del] at hown
  have hown2 := own_tight hown
  rw [dOf_size] at hown2
  have hbl : ∀ i, i < w.heap.size → i ≠ mb → w'.heap[i]? = w.heap[i]? := fun i hi hne => hgr.block i hi (fun e => hne (by injection e))
  refine ⟨w', hrun, ⟨?_, h1, mb, ⟨hown2, h2.2.1, fun p hp => ?_⟩, h3, h4, fun p hp => h5 p (List.mem_filter.1 hp).1, ?_⟩, hgr⟩
  · exact Below.trans h0 ⟨hgr.os, hgr.tape, hgr.output, hgr.size, fun i hi => hbl i (by have := h0.size; omega) (by have := h2.2.1; omega)⟩
  · obtain ⟨a, b, c⟩ := h2.2.2 p (List.mem_filter.1 hp).1
    exact ⟨a, b, by rw [hbl p.2 (Array.getElem?_eq_some_iff.1 c).1 b]; exact c⟩
  · rw [hbl st (Array.getElem?_eq_some_iff.1 h6).1 h4]; exact h6
theorem StX.maps {w0 w : World} {st : Nat} {rs : List (Rw × Nat)} {sd : List Sv} (h : StX w0 w st rs sd) : ∃ mb, w.cell? ⟨st, 0, none⟩ = some (.map (some mb)) ∧ w0.heap.size ≤ mb ∧ w0.heap.size ≤ st ∧ st ≠ mb := by
  obtain ⟨h0, h1, mb, h2, h3, h4, h5, h6⟩ := h
  exact ⟨mb, by rw [cell_of_row _ _ 0 _ 37 (0, 0) h6]; rfl, h2.2.1, h3, h4⟩
theorem ch_cells {w : World} {g : Nat} {c : Ch} (h : w.heap[g]? = some (.cells c.cells.toArray 79 (0, 0))) : w.cell? ⟨g, 0, none⟩ = some (.string c.key) ∧ w.cell? ⟨g, 1, none⟩ = some (.string c.val) ∧ w.cell? ⟨g, 2, none⟩ = some (.bool c.gone) := by
  refine ⟨?_, ?_, ?_⟩ <;> (rw [cell_of_row _ _ _ _ 79 (0, 0) h]; rfl)
theorem ch_one1 (c : Ch) : c.cells.toArray.all (·.oneCell') = true := by kernel_rfl
/-- make: the rows behind it; who said what is as it was. -/
def MadeE (w0 : World) (st : Nat) (l : List Rw) (sd : List Sv) (B : Nat) (e : Ending) (w' : World) : Prop := e = .returned (.tuple #[]) ∧ ∃ rs, StX w0 w' st rs sd ∧ rs.map Prod.fst = l ∧ rs.length ≤ B
theorem off_grown {w w' : World} {mb : Nat} (h : w.grownBy w' (some mb)) : OffB (fun i => i = mb) w w' := ⟨h.os, h.tape, h.output, h.size, fun k hk hn => h.block k hk (fun e => hn (by injection e))⟩
theorem ChsAt.off {B : Nat → Prop} {w w' : World} {l : List Ch} {a : Option Addr} {cap : Nat} (h : ChsAt w l a cap) (ho : Out B (.slice a l.length cap)) (he : OffB B w w') : ChsAt w' l a cap := ⟨h.1.off ho he, h.2⟩
theorem st_make {w0 w : World} {st mb : Nat} {rs : List (Rw × Nat)} {sd : List Sv} (hS : StX w0 w st rs sd) (hmb : w.cell? ⟨st, 0, none⟩ = some (.map (some mb))) (hn : rs.length ≤ 100000) (cs : List Ch) (a : Option Addr) (cap : Nat) (hcn : cs.length ≤ 100000) (hC : ChsAt w cs a cap) (hO : 0 < cs.length → Out (fun i => i = mb) (.slice a cs.length cap)) :
    Calls Try.prog 36 #[.pointer (some ⟨st, 0, none⟩), .slice a cs.length cap] w fun e w' => MadeE w0 st (chsW (rs.map Prod.fst) cs) sd (rs.length + cs.length) e w' ∧ OffB (fun i => i = mb) w w' := by
  have hne : st ≠ mb := by
    obtain ⟨mb2, h1, _, _, h2⟩ := hS.maps
    rw [hmb] at h1
    injection h1 with h1
    injection h1 with h1
    injection h1 with h1
    rw [h1]; exact h2
  have hmb' := Lib.hid hmb
  have hC' := Lib.hid hC
  have hO' := Lib.hid hO
  have hr0 := Lib.hid (show chsW (rs.map Prod.fst) [] = rs.map Prod.fst from rfl)
  clear hC hO hmb
  go_enter Try.func36, Try.ntmps36
  go_wp2_with fail
  go_loopw [8] (fun i wr => ∃ (k : Nat) (rk : List (Rw × Nat)), k ≤ cs.length ∧ i = .int .i64 k ∧ StX w0 wr st rk sd ∧ rk.map Prod.fst = chsW (rs.map Prod.fst) (cs.take k) ∧ rk.length ≤ rs.length + k ∧ OffB (fun i => i = mb) w wr) (fun i _ => cs.length - (intOf i).toNat)
  case atStart => exact ⟨0, rs, by omega, rfl, hS, hr0.out.symm, by omega, OffB.refl _⟩
  case round =>
    clear hS
    obtain ⟨k, rk, hk, rfl, hS, hrk, hrn, hF⟩ := hrel
    have hrk' := Lib.hid hrk
    clear hrk
    by_cases hlt : k < cs.length
    · have hli : (k : Int) < (cs.length : Int) := by omega
      obtain ⟨c, hc⟩ : ∃ c, cs[k]? = some c := ⟨_, List.getElem?_eq_getElem hlt⟩
      obtain ⟨hrow0, hby, hsm⟩ := hC'.out.off (hO'.out (by omega)) hF
      obtain ⟨b, off, hat⟩ := hrow0.at
      obtain ⟨rfl, _, hd⟩ := hat (by omega)
      have hrg := ch_range hd hc
      have hsmc := hsm c (List.mem_of_getElem? hc)
      have hnx := Lib.hid (chsW_take (l := rs.map Prod.fst) hc)
      clear hat hd hc hrow0 hsm
      go_upto_region 3 with (first | (refine wpList_load_mid (by rfl) 79 (.tmp 10) (by rfl) b (off + k * 3) (by rfl) c.cells _ hrg Try.underlying79 rfl (by exact info_ch) ?_) | (refine wpList_store_whole (by rfl) 79 (.tmp 5) (.tmp 11) (by rfl) wr _ c.cells.toArray wr.heap.size (by rfl) rfl (by rfl) info_ch rfl (ch_one1 c) ?_) | fail)
      have hr5 := heap_alloc_new wr (.cells c.cells.toArray 79)
      have hE5 := (Ext.refl wr).alloc (.cells c.cells.toArray 79)
      have hS5 := hS.ext hE5
      have hF5 := hF.trans (.of_ext hE5)
      have hgm : wr.heap.size ≠ mb := fun e => by
        have := World.block_lt_of_cell? w _ hmb'.out
        obtain ⟨mb2, h1, _⟩ := hS.map
        have h2 := hF.cell hmb'.out hne
        obtain ⟨_, _, mb3, ⟨⟨es, clock, hb, _⟩, _⟩, _, _, _, h6⟩ := hS
        have hc := cell_of_row _ _ 0 _ 37 (0, 0) h6
        rw [h2] at hc
        obtain rfl : mb = mb3 := by simpa [stRow] using hc
        have := (Array.getElem?_eq_some_iff.1 hb).1
        omega
      clear hS hE5 hrg hF
      generalize wr.alloc _ = w5 at *
      generalize wr.heap.size = g5 at *
      obtain ⟨y0, y1, y2⟩ := ch_cells hr5
      have hm5 := hF5.cell hmb'.out hne
      have hk140 := hsmc.1
      cases hgn : c.gone
      · rw [hgn] at y2
        have hgn' := Lib.hid hgn
        have hg6 : w0.heap.size ≤ w5.heap.size := hS5.1.size
        have hs6 : st < w5.heap.size := hS5.lt
        have hE6 : Ext w5 (w5.alloc (.cells (rowR ⟨c.key, c.val⟩) 62)).drew := ((Ext.refl w5).alloc _).drew
        obtain ⟨w7, hrun, hS7, hgr⟩ := (hS5.ext hE6).store (by omega) hk140 hg6 (by omega) (show (w5.alloc (.cells (rowR ⟨c.key, c.val⟩) 62)).drew.heap[w5.heap.size]? = some (.cells (rowR ⟨c.key, c.val⟩) 62 (0, 0)) from heap_alloc_new w5 _) (hE6.cell hm5)
        have hF7 := (hF5.trans (.of_ext hE6)).trans (off_grown hgr)
        have hrun' := hrun
        unfold rowR at hrun'
        simp only at hrun'
        have z0 := (off_grown hgr).cell (hE6.cell y0) hgm
        have z1 := (off_grown hgr).cell (hE6.cell y1) hgm
        have z2 := (off_grown hgr).cell (hE6.cell hm5) hne
        have hfin := Lib.hid (And.intro hgn (And.intro hS7 hF7))
        clear hgn hS7 hF7 hgr hrun hS5 hF5 hE6
        go_upto_region 5 with fail
        go_region_held3 (fun w' => w'.cell? ⟨g5, 0, none⟩ = some (.string c.key) ∧ w'.cell? ⟨g5, 1, none⟩ = some (.string c.val) ∧ w'.cell? ⟨st, 0, none⟩ = some (.map (some mb))) (first | exact ⟨z0, z1, z2⟩ | go_keep) (fail)
        obtain ⟨hgn, hS7, hF7⟩ := hfin.out
        clear z0 z1 z2 hrun'
        go_wp2_with fail
        go_roundw
        case rel =>
          refine ⟨k + 1, putR rk c.key c.val w5.heap.size, by omega, by go_num, hS7, ?_, by have := putR_length rk c.key c.val w5.heap.size; omega, hF7⟩
          rw [putR_map, hrk'.out, hnx.out]
          unfold chW
          rw [hgn]; rfl
        case measure => simp [intOf]; omega
      · rw [hgn] at y2
        obtain ⟨w7, hrun, hS7, hgr⟩ := (hS5.ext (Ext.refl w5).drew).strike hk140 hm5 0
        have hF7 := (hF5.trans (.of_ext (Ext.refl w5).drew)).trans (off_grown hgr)
        have hfin := Lib.hid (And.intro hgn (And.intro hS7 hF7))
        clear hgn hS7 hF7 hgr hS5 hF5
        go_upto_region 4 with fail
        go_still_tail 6, (by kernel_rfl)
        change wpList _ _ _ _ _ w5.drew
        obtain ⟨hgn, hS7, hF7⟩ := hfin.out
        have hgn' := Lib.hid hgn
        clear hgn
        go_wp2_with fail
        go_roundw
        case rel =>
          refine ⟨k + 1, delR rk c.key, by omega, by go_num, hS7, ?_, by have := List.length_filter_le (fun p => !keyIs c.key p) rk; unfold delR; omega, hF7⟩
          rw [delR_map, hrk'.out, hnx.out]
          unfold chW
          rw [hgn'.out]; rfl
        case measure => simp [intOf]; omega
    · have hli : ¬ (k : Int) < (cs.length : Int) := by omega
      have hkl : cs.take k = cs := List.take_of_length_le (by omega)
      go_wp2_with fail
      go_end0
      exact ⟨⟨rfl, rk, hS, by rw [hrk'.out, hkl], by omega⟩, hF⟩
end Go.Proofs.Ytmjoaiepfipmaaa
