/- Several texts in one: Mod9 Mod10 Mod5. No condition. -/
import Derived.Test.YthageoibkeebhaaGreatDoorGrE
import Derived.Test.YthageoibkeebhaaGreatDoorGrF
import Derived.Test.YthageoibkeebhaaGreatDoorGrKit
import Derived.Test.YthageoibkeebhaaGreatDoorGrB
import Derived.Test.YthageoibkeebhaaGreatDoorGrC
import Derived.Deep.RegionHeld3
import Derived.StillTailTactics
/- slices.Clone of changes at a seat without clients. No condition. -/
namespace Go.Proofs.YthageoibkeebhaaGreatDoor
open Go.RowKit
set_option maxRecDepth 100000
theorem ch_eql_nil (w : World) (a : Option Addr) (n c n' c' : Nat) : (binOp .eql 64 (.slice a n c) (.slice none n' c')).run Tryz.prog w = .ok (.bool a.isNone) w := Lib.run_eql_slice_nil w _ _ a n c n' c' Tryz.underlying64
theorem made_row (w : World) (e : TypeId) (size : Nat) : (w.alloc (.cells #[] e)).ownsRow w.heap.size e size (.slice (some ⟨w.heap.size, 0, none⟩) 0 0) 0 [] := World.ownsRow_made w #[] 0 (Nat.le_refl _) (Nat.zero_le _) (by simp)
/-- What Clone of n changes tells: a slice of the call's own. -/
def Cloned (w : World) (n : Nat) (xs : List Value) (e : Ending) (w' : World) : Prop := ∃ a cap, e = .returned (.slice a n cap) ∧ n ≤ cap ∧ w'.ownsRow w.heap.size 102 3 (.slice a n cap) n xs ∧ Ext w w'
/-- slices.Clone of changes, its block the call's own. -/
theorem clone_ch (w : World) (l : List Ch) (a : Option Addr) (cap : Nat) (h : ChsAt w l a cap) :
    Calls Tryz.prog 99 #[.slice a l.length cap] w (Cloned w l.length (l.flatMap Ch.cells)) := by
  obtain ⟨hr, hn, _⟩ := h
  have h1 := ch_one l
  generalize l.flatMap Ch.cells = xs at *
  generalize l.length = n at *
  have q30 := ch_eql_nil
  cases a with
  | none =>
    obtain ⟨hl, _, ⟨rfl, a', cap', he, hc⟩ | ⟨b, off, cap', he, _⟩⟩ := hr
    · injection he with e1 _ e3
      subst e1 e3
      obtain rfl := hc rfl
      obtain rfl : xs = [] := List.eq_nil_of_length_eq_zero (by simpa using hl)
      go_enter Tryz.func99, Tryz.ntmps99
      go_wp2
      go_ret
      exact ⟨none, 0, rfl, Nat.le_refl _, World.ownsRow_nil _ _ _ _, Ext.refl _⟩
    · injection he with e1; cases e1
  | some ad =>
    have hl := hr.2.1
    go_enter Tryz.func99, Tryz.ntmps99
    go_wp2_with (at_builtin; refine wpList_append_row rfl (.tmp 5) (.tmp 6) 64 102 rfl Tryz.underlying64 el_ch (w.alloc (.cells #[] 102)) w.heap.size 0 [] _ (by rfl) (made_row w 102 3) (.slice (some ad) n cap) n xs rfl (hr.ext ((Ext.refl w).alloc _)) h1 (by omega) (by omega) (by simp) ?_; intro v' w' hown hb)
    go_ret
    rw [Nat.zero_add, List.nil_append] at hown
    obtain ⟨a', cap', rfl, hc⟩ := own_slice hown
    exact ⟨a', cap', rfl, hc, hown, Below.trans ((Ext.refl w).alloc _) hb⟩
end Go.Proofs.YthageoibkeebhaaGreatDoor

/- What changes an ask would bring. No condition. -/
namespace Go.Proofs.YthageoibkeebhaaGreatDoor
open Go.RowKit
set_option maxRecDepth 100000
set_option maxHeartbeats 800000
def chgL (rs : List (Rw × Nat)) (x : Ak) : List Ch :=
  if x.okB = true then (if x.kind = 1 then [⟨x.key, x.val, false⟩] else if x.kind = 2 then [⟨x.key, ⟨#[]⟩, true⟩] else if x.kind = 4 then x.chs else if x.kind = 3 then (if casB (rs.find? (keyIs x.key)) x = true then [⟨x.key, x.val, false⟩] else []) else []) else []
def ChgE (l : List Ch) (w : World) (e : Ending) (w' : World) : Prop := ∃ a cap, e = .returned (.slice a l.length cap) ∧ RowIs w' 3 (.slice a l.length cap) l.length (l.flatMap Ch.cells) ∧ Ext w w'
theorem chg_nil {w w' : World} (h : Ext w w') : ChgE [] w (.returned (.slice none 0 0)) w' := ⟨none, 0, rfl, RowIs.nil _ _ _ _ (fun _ => rfl), h⟩
theorem chg_one (w W : World) (h : Ext w W) (c : Ch) : ChgE [c] w (.returned (.slice (some ⟨W.heap.size, 0, none⟩) 1 1)) (W.alloc (.cells #[.string c.key, .string c.val, .bool c.gone] 102)) := by
  refine ⟨_, 1, rfl, ⟨rfl, by simp, .inr ⟨_, 0, 1, rfl, by simp, fun i hi => ?_⟩⟩, h.alloc _⟩
  have hi : i < 3 := by simpa using hi
  rw [Nat.zero_add, cell_of_row _ _ i _ 102 (0, 0) (heap_alloc_new W _)]
  obtain rfl | rfl | rfl : i = 0 ∨ i = 1 ∨ i = 2 := by omega
  all_goals rfl
theorem field_yes (w : World) (b : Bool) : (Instr.field 74 (.agg #[.int .i64 0, .bool b, .slice none 0 0]) 1).run Tryz.prog w = .ok (.bool b) w := by kernel_rfl
theorem ask_rng {W : World} {g : Nat} {x : Ak} {v : Value} (h : W.heap[g]? = some (.cells (x.row v) 66 (0, 0))) : W.rangeAt g 0 (x.row v).toList := fun j u hu => by
  rw [Nat.zero_add, cell_of_row _ _ j _ 66 (0, 0) h, ← hu]; simp
theorem ask_ln (x : Ak) (v : Value) : (x.row v).toList.length = 8 := rfl
theorem ask_inf : (Tryz.prog.info? 66).map (·.size) = some 8 := by kernel_rfl
/-- The changes are told in memory of the call's own. -/
def ChgO (l : List Ch) (w : World) (e : Ending) (w' : World) : Prop := ∃ a cap, e = .returned (.slice a l.length cap) ∧ OwnC w' w.heap.size 102 3 (.slice a l.length cap) l.length (l.flatMap Ch.cells) ∧ Ext w w'
theorem chgO_nil {w w' : World} (h : Ext w w') : ChgO [] w (.returned (.slice none 0 0)) w' := ⟨none, 0, rfl, OwnC.nil _ _ _ _, h⟩
theorem chgO_one (w W : World) (h : Ext w W) (c : Ch) : ChgO [c] w (.returned (.slice (some ⟨W.heap.size, 0, none⟩) 1 1)) (W.alloc (.cells #[.string c.key, .string c.val, .bool c.gone] 102)) :=
  ⟨_, 1, rfl, ⟨rfl, .inr ⟨W.heap.size, 1, _, rfl, h.size, heap_alloc_new W _, Nat.le_refl _, by unfold maxLen; omega, Nat.le_refl _, rfl⟩⟩, h.alloc _⟩
theorem st_changesO {w0 w : World} {st : Nat} {rs : List (Rw × Nat)} {sd : List Sv} (hS : StX w0 w st rs sd) (x : Ak) (a : Option Addr) (cap : Nat) (h : ChsAt w x.chs a cap) (hs : x.small) :
    Calls Tryz.prog 26 #[.pointer (some ⟨st, 0, none⟩), .agg (x.row (.slice a x.chs.length cap))] w (ChgO (chgL rs x) w) := by
  obtain ⟨L, hL⟩ : ∃ L, L = chgL rs x := ⟨_, rfl⟩
  rw [← hL]
  unfold chgL at hL
  have hL' := Lib.hid hL
  clear hL
  obtain ⟨W, hW⟩ : ∃ W, W = w.alloc (.cells (x.row (.slice a x.chs.length cap)) 66) := ⟨_, rfl⟩
  have hE : Ext w W := by rw [hW]; exact (Ext.refl _).alloc _
  have hX : W.heap[w.heap.size]? = some (.cells (x.row (.slice a x.chs.length cap)) 66 (0, 0)) := by rw [hW]; exact heap_alloc_new w _
  have hW' := Lib.hid hW
  have hX' := Lib.hid hX
  have hrg := ask_rng hX
  have hc := askc hX
  clear hW hX
  unfold Ak.row at hW' hrg
  unfold Ak.row
  go_enter Tryz.func26, Tryz.ntmps26
  go_upto_region 1 with fail
  rw [← hW'.out]
  clear hW'
  go_wp2_with fail
  refine (st_there (hS.ext hE)).mono ?_
  rintro e w' ⟨rfl, rfl⟩
  go_wp2_with (first | (refine wpList_load_mid (by rfl) 66 (.tmp 3) (by rfl) w.heap.size 0 (by rfl) (x.row (.slice a x.chs.length cap)).toList _ hrg Tryz.underlying66 rfl (by rw [ask_ln]; exact ask_inf) ?_) | (refine wpList_load_mid_on (by rfl) 66 (.tmp 3) (by rfl) w.heap.size 0 (by rfl) (x.row (.slice a x.chs.length cap)).toList _ hrg Tryz.underlying66 rfl (by rw [ask_ln]; exact ask_inf) ?_) | fail)
  refine (check_any _ x a cap (h.ext hE) hs).mono ?_
  rintro e w1 ⟨rfl, hE1⟩
  have hE2 := hE.trans hE1
  have hL := hL'.out
  clear hL' hrg hc
  cases hok : x.okB
  · rw [hok] at hL
    have hL2 : L = [] := by simpa using hL
    clear hok hL
    go_wp2_with fail
    go_ret
    rw [hL2]
    exact chgO_nil hE2
  · rw [if_pos hok] at hL
    obtain ⟨c0, c1, c2, _, _, _, _, c7⟩ := askc (hE1.row hX'.out)
    have hrg := ask_rng (hE1.row hX'.out)
    have hL3 := Lib.hid hL
    clear hL hok
    by_cases k1 : x.kind = 1
    · have hL := hL3.out
      rw [if_pos k1] at hL
      have hL4 := Lib.hid hL
      clear hL hL3
      go_wp2_with fail
      go_ret
      rw [hL4.out]
      exact chgO_one w w1 hE2 ⟨x.key, x.val, false⟩
    by_cases k2 : x.kind = 2
    · have hL := hL3.out
      rw [if_neg k1, if_pos k2] at hL
      have hL4 := Lib.hid hL
      clear hL hL3
      go_wp2_with fail
      go_ret
      rw [hL4.out]
      exact chgO_one w w1 hE2 ⟨x.key, ⟨#[]⟩, true⟩
    by_cases k4 : x.kind = 4
    · have hL := hL3.out
      rw [if_neg k1, if_neg k2, if_pos k4] at hL
      have hL4 := Lib.hid hL
      clear hL hL3
      go_wp2_with fail
      refine (clone_ch _ x.chs a cap (h.ext hE2)).mono ?_
      rintro e w2 ⟨a', cap', rfl, _, hown, hE3⟩
      go_wp2_with fail
      go_ret
      rw [hL4.out]
      exact ⟨a', cap', rfl, OwnC.weak (OwnC.of_own hown) hE2.size, hE2.trans hE3⟩
    by_cases k3 : x.kind = 3
    · have hL := hL3.out
      rw [if_neg k1, if_neg k2, if_neg k4, if_pos k3] at hL
      have hL4 := Lib.hid hL
      clear hL hL3
      unfold Ak.row at hrg
      go_wp2_with (first | (refine wpList_load_mid (by rfl) 66 (.tmp 3) (by rfl) w.heap.size 0 (by rfl) (x.row (.slice a x.chs.length cap)).toList _ hrg Tryz.underlying66 rfl (by rw [ask_ln]; exact ask_inf) ?_) | fail)
      refine (st_cas (hS.ext hE2) x hs.2.1 (.slice a x.chs.length cap)).mono ?_
      rintro e w2 ⟨rfl, hE3⟩
      replace c1 := hE3.cell c1
      replace c2 := hE3.cell c2
      cases hb : casB (rs.find? (keyIs x.key)) x
      · have hL5 := hL4.out
        rw [hb] at hL5
        have hL6 : L = [] := by simpa using hL5
        clear hL4 hL5 hb
        have hfy := field_yes
        unfold reB
        go_wp2_with fail
        go_ret
        rw [hL6]
        exact chgO_nil (hE2.trans hE3)
      · have hL5 := hL4.out
        rw [if_pos hb] at hL5
        have hL6 := Lib.hid hL5
        clear hL4 hL5 hb
        have hfy := field_yes
        unfold reB
        go_wp2_with fail
        go_ret
        rw [hL6.out]
        exact chgO_one w w2 (hE2.trans hE3) ⟨x.key, x.val, false⟩
    · have hL := hL3.out
      rw [if_neg k1, if_neg k2, if_neg k4, if_neg k3] at hL
      have hL4 := Lib.hid hL
      clear hL hL3
      go_wp2_with fail
      go_ret
      rw [hL4.out]
      exact chgO_nil hE2
theorem st_changes {w0 w : World} {st : Nat} {rs : List (Rw × Nat)} {sd : List Sv} (hS : StX w0 w st rs sd) (x : Ak) (a : Option Addr) (cap : Nat) (h : ChsAt w x.chs a cap) (hs : x.small) :
    Calls Tryz.prog 26 #[.pointer (some ⟨st, 0, none⟩), .agg (x.row (.slice a x.chs.length cap))] w (ChgE (chgL rs x) w) := by
  refine (st_changesO hS x a cap h hs).mono ?_
  rintro e w' ⟨a, cap, he, ho, hE⟩
  exact ⟨a, cap, he, ho.row, hE⟩
end Go.Proofs.YthageoibkeebhaaGreatDoor

/- A state's make: changes, one by one. No condition. -/
namespace Go.Proofs.YthageoibkeebhaaGreatDoor
open Go.RowKit Go.Maps Go.WideMaps
set_option maxRecDepth 100000
set_option maxHeartbeats 2000000
def insW (x : Rw) : List Rw → List Rw
  | [] => [x]
  | y :: r => if bytesBefore x.key.data.toList y.key.data.toList then x :: y :: r else y :: insW x r
def putW (l : List Rw) (k v : ByteArray) : List Rw := insW ⟨k, v⟩ (l.filter fun r => !(r.key.data.toList == k.data.toList))
def delW (l : List Rw) (k : ByteArray) : List Rw := l.filter fun r => !(r.key.data.toList == k.data.toList)
theorem insR_map (x : Rw × Nat) : ∀ rs : List (Rw × Nat), (insR x rs).map Prod.fst = insW x.1 (rs.map Prod.fst)
  | [] => rfl
  | y :: r => by
    unfold insR
    rw [List.map_cons]
    unfold insW
    split
    · rfl
    · rw [List.map_cons, insR_map x r]
theorem filt_map (k : ByteArray) (rs : List (Rw × Nat)) : (rs.filter fun p => !keyIs k p).map Prod.fst = (rs.map Prod.fst).filter fun r => !(r.key.data.toList == k.data.toList) := by
  rw [List.filter_map]; rfl
theorem putR_map (rs : List (Rw × Nat)) (k v : ByteArray) (g : Nat) : (putR rs k v g).map Prod.fst = putW (rs.map Prod.fst) k v := by
  unfold putR putW; rw [insR_map, filt_map]
theorem delR_map (rs : List (Rw × Nat)) (k : ByteArray) : (delR rs k).map Prod.fst = delW (rs.map Prod.fst) k := by
  unfold delR delW; exact filt_map k rs
theorem insR_mem {x p : Rw × Nat} : ∀ {rs : List (Rw × Nat)}, p ∈ insR x rs → p = x ∨ p ∈ rs
  | [], h => by simp [insR] at h; exact .inl h
  | y :: r, h => by
    unfold insR at h
    split at h
    · rcases List.mem_cons.1 h with h | h
      · exact .inl h
      · exact .inr h
    · rcases List.mem_cons.1 h with h | h
      · exact .inr (by rw [h]; exact List.mem_cons_self ..)
      · rcases insR_mem h with h | h
        · exact .inl h
        · exact .inr (List.mem_cons_of_mem _ h)
theorem insR_length (x : Rw × Nat) : ∀ rs : List (Rw × Nat), (insR x rs).length = rs.length + 1
  | [] => rfl
  | y :: r => by unfold insR; split <;> simp [insR_length x r]
theorem putR_length (rs : List (Rw × Nat)) (k v : ByteArray) (g : Nat) : (putR rs k v g).length ≤ rs.length + 1 := by
  unfold putR; rw [insR_length]; have := List.length_filter_le (fun p => !keyIs k p) rs; omega
/-- One change. -/
def chW (l : List Rw) (c : Ch) : List Rw := if c.gone then delW l c.key else putW l c.key c.val
def chsW (l : List Rw) (cs : List Ch) : List Rw := cs.foldl chW l
theorem chsW_take {l : List Rw} {cs : List Ch} {k : Nat} {c : Ch} (h : cs[k]? = some c) : chsW l (cs.take (k + 1)) = chW (chsW l (cs.take k)) c := by
  unfold chsW; rw [List.take_add_one, h, List.foldl_append]; rfl
/-- A state's map is written at a key: the row's block lies in memory already. -/
theorem StX.store {w0 w : World} {st : Nat} {rs : List (Rw × Nat)} {sd : List Sv} (h : StX w0 w st rs sd) (hn : rs.length ≤ 1000000) {k v : ByteArray} (hk : k.size ≤ 140737488351232) {g : Nat} (hg : w0.heap.size ≤ g) (hgs : g ≠ st) (hrow : w.heap[g]? = some (.cells (rowR ⟨k, v⟩) 84 (0, 0))) {mb : Nat} (hmb : w.cell? ⟨st, 0, none⟩ = some (.map (some mb))) :
    ∃ w', (Instr.mapUpdate 91 (.map (some mb)) (.string k) (.pointer (some ⟨g, 0, none⟩))).run Tryz.prog w = .ok () w' ∧ StX w0 w' st (putR rs k v g) sd ∧ w.grownBy w' (some mb) := by
  obtain ⟨h0, h1, mb', h2, h3, h4, h5, h6⟩ := h
  have hc := cell_of_row _ _ 0 _ 96 (0, 0) h6
  rw [hmb] at hc
  obtain rfl : mb = mb' := by simpa [stRow] using hc
  obtain ⟨w', hrun, hown, hgr⟩ := h2.1.update keyed Tryz.underlying91 (by unfold maxLen; omega) (keyOf_string_mk Tryz.underlying9 (s := k) (by unfold maxLen; omega)) (val := .pointer (some ⟨g, 0, none⟩)) (d := .lit (.int .u64 (g : Int))) (ps := []) rfl
  rw [dOf_put] at hown
  have hown2 := own_tight hown
  rw [dOf_size] at hown2
  have hbl : ∀ i, i < w.heap.size → i ≠ mb → w'.heap[i]? = w.heap[i]? := fun i hi hne => hgr.block i hi (fun e => hne (by injection e))
  have hgl := (Array.getElem?_eq_some_iff.1 hrow).1
  have hgm : g ≠ mb := fun e => by
    obtain ⟨es, clock, hb, _⟩ := h2.1
    rw [← e, hrow] at hb; cases hb
  refine ⟨w', hrun, ⟨?_, h1, mb, ⟨hown2, h2.2.1, fun p hp => ?_⟩, h3, h4, fun p hp => ?_, ?_⟩, hgr⟩
  · exact Below.trans h0 ⟨hgr.os, hgr.tape, hgr.output, hgr.size, fun i hi => hbl i (by have := h0.size; omega) (by have := h2.2.1; omega)⟩
  · rcases insR_mem hp with rfl | hp
    · exact ⟨hg, hgm, by rw [hbl g hgl hgm]; exact hrow⟩
    · have hp := (List.mem_filter.1 hp).1
      obtain ⟨a, b, c⟩ := h2.2.2 p hp
      exact ⟨a, b, by rw [hbl p.2 (Array.getElem?_eq_some_iff.1 c).1 b]; exact c⟩
  · rcases insR_mem hp with rfl | hp
    · exact hgs
    · exact h5 p (List.mem_filter.1 hp).1
  · rw [hbl st (Array.getElem?_eq_some_iff.1 h6).1 h4]; exact h6
/-- A key is struck. -/
theorem StX.strike {w0 w : World} {st : Nat} {rs : List (Rw × Nat)} {sd : List Sv} (h : StX w0 w st rs sd) {k : ByteArray} (hk : k.size ≤ 140737488351232) {mb : Nat} (hmb : w.cell? ⟨st, 0, none⟩ = some (.map (some mb))) (ty : TypeId) :
    ∃ w', (Builtin.delete_ #[91, 9] ty #[.map (some mb), .string k]).run Tryz.prog w = .ok (.tuple #[]) w' ∧ StX w0 w' st (delR rs k) sd ∧ w.grownBy w' (some mb) := by
  obtain ⟨h0, h1, mb', h2, h3, h4, h5, h6⟩ := h
  have hc := cell_of_row _ _ 0 _ 96 (0, 0) h6
  rw [hmb] at hc
  obtain rfl : mb = mb' := by simpa [stRow] using hc
  obtain ⟨w', hrun, hown, htn⟩ := h2.1.drop keyed Tryz.underlying91 (keyOf_string_mk Tryz.underlying9 (s := k) (by unfold maxLen; omega)) ty
  have hgr := htn.grown
  rw [dOf_del] at hown
  have hown2 := own_tight hown
  rw [dOf_size] at hown2
  have hbl : ∀ i, i < w.heap.size → i ≠ mb → w'.heap[i]? = w.heap[i]? := fun i hi hne => hgr.block i hi (fun e => hne (by injection e))
  refine ⟨w', hrun, ⟨?_, h1, mb, ⟨hown2, h2.2.1, fun p hp => ?_⟩, h3, h4, fun p hp => h5 p (List.mem_filter.1 hp).1, ?_⟩, hgr⟩
  · exact Below.trans h0 ⟨hgr.os, hgr.tape, hgr.output, hgr.size, fun i hi => hbl i (by have := h0.size; omega) (by have := h2.2.1; omega)⟩
  · obtain ⟨a, b, c⟩ := h2.2.2 p (List.mem_filter.1 hp).1
    exact ⟨a, b, by rw [hbl p.2 (Array.getElem?_eq_some_iff.1 c).1 b]; exact c⟩
  · rw [hbl st (Array.getElem?_eq_some_iff.1 h6).1 h4]; exact h6
theorem StX.maps {w0 w : World} {st : Nat} {rs : List (Rw × Nat)} {sd : List Sv} (h : StX w0 w st rs sd) : ∃ mb, w.cell? ⟨st, 0, none⟩ = some (.map (some mb)) ∧ w0.heap.size ≤ mb ∧ w0.heap.size ≤ st ∧ st ≠ mb := by
  obtain ⟨h0, h1, mb, h2, h3, h4, h5, h6⟩ := h
  exact ⟨mb, by rw [cell_of_row _ _ 0 _ 96 (0, 0) h6]; rfl, h2.2.1, h3, h4⟩
theorem ch_cells {w : World} {g : Nat} {c : Ch} (h : w.heap[g]? = some (.cells c.cells.toArray 102 (0, 0))) : w.cell? ⟨g, 0, none⟩ = some (.string c.key) ∧ w.cell? ⟨g, 1, none⟩ = some (.string c.val) ∧ w.cell? ⟨g, 2, none⟩ = some (.bool c.gone) := by
  refine ⟨?_, ?_, ?_⟩ <;> (rw [cell_of_row _ _ _ _ 102 (0, 0) h]; rfl)
theorem ch_one1 (c : Ch) : c.cells.toArray.all (·.oneCell') = true := by kernel_rfl
/-- make: the rows behind it; who said what is as it was. -/
def MadeE (w0 : World) (st : Nat) (l : List Rw) (sd : List Sv) (B : Nat) (e : Ending) (w' : World) : Prop := e = .returned (.tuple #[]) ∧ ∃ rs, StX w0 w' st rs sd ∧ rs.map Prod.fst = l ∧ rs.length ≤ B
theorem off_grown {w w' : World} {mb : Nat} (h : w.grownBy w' (some mb)) : OffB (fun i => i = mb) w w' := ⟨h.os, h.tape, h.output, h.size, fun k hk hn => h.block k hk (fun e => hn (by injection e))⟩
theorem ChsAt.off {B : Nat → Prop} {w w' : World} {l : List Ch} {a : Option Addr} {cap : Nat} (h : ChsAt w l a cap) (ho : Out B (.slice a l.length cap)) (he : OffB B w w') : ChsAt w' l a cap := ⟨h.1.off ho he, h.2⟩
theorem st_make {w0 w : World} {st mb : Nat} {rs : List (Rw × Nat)} {sd : List Sv} (hS : StX w0 w st rs sd) (hmb : w.cell? ⟨st, 0, none⟩ = some (.map (some mb))) (hn : rs.length ≤ 100000) (cs : List Ch) (a : Option Addr) (cap : Nat) (hcn : cs.length ≤ 100000) (hC : ChsAt w cs a cap) (hO : 0 < cs.length → Out (fun i => i = mb) (.slice a cs.length cap)) :
    Calls Tryz.prog 104 #[.pointer (some ⟨st, 0, none⟩), .slice a cs.length cap] w fun e w' => MadeE w0 st (chsW (rs.map Prod.fst) cs) sd (rs.length + cs.length) e w' ∧ OffB (fun i => i = mb) w w' := by
  have hne : st ≠ mb := by
    obtain ⟨mb2, h1, _, _, h2⟩ := hS.maps
    rw [hmb] at h1
    injection h1 with h1
    injection h1 with h1
    injection h1 with h1
    rw [h1]; exact h2
  have hmb' := Lib.hid hmb
  have hC' := Lib.hid hC
  have hO' := Lib.hid hO
  have hr0 := Lib.hid (show chsW (rs.map Prod.fst) [] = rs.map Prod.fst from rfl)
  clear hC hO hmb
  go_enter Tryz.func104, Tryz.ntmps104
  go_wp2_with fail
  go_loopw [8] (fun i wr => ∃ (k : Nat) (rk : List (Rw × Nat)), k ≤ cs.length ∧ i = .int .i64 k ∧ StX w0 wr st rk sd ∧ rk.map Prod.fst = chsW (rs.map Prod.fst) (cs.take k) ∧ rk.length ≤ rs.length + k ∧ OffB (fun i => i = mb) w wr) (fun i _ => cs.length - (intOf i).toNat)
  case atStart => exact ⟨0, rs, by omega, rfl, hS, hr0.out.symm, by omega, OffB.refl _⟩
  case round =>
    clear hS
    obtain ⟨k, rk, hk, rfl, hS, hrk, hrn, hF⟩ := hrel
    have hrk' := Lib.hid hrk
    clear hrk
    by_cases hlt : k < cs.length
    · have hli : (k : Int) < (cs.length : Int) := by omega
      obtain ⟨c, hc⟩ : ∃ c, cs[k]? = some c := ⟨_, List.getElem?_eq_getElem hlt⟩
      obtain ⟨hrow0, hby, hsm⟩ := hC'.out.off (hO'.out (by omega)) hF
      obtain ⟨b, off, hat⟩ := hrow0.at
      obtain ⟨rfl, _, hd⟩ := hat (by omega)
      have hrg := ch_range hd hc
      have hsmc := hsm c (List.mem_of_getElem? hc)
      have hnx := Lib.hid (chsW_take (l := rs.map Prod.fst) hc)
      clear hat hd hc hrow0 hsm
      go_upto_region 3 with (first | (refine wpList_load_mid (by rfl) 102 (.tmp 10) (by rfl) b (off + k * 3) (by rfl) c.cells _ hrg Tryz.underlying102 rfl (by exact info_ch) ?_) | (refine wpList_store_whole (by rfl) 102 (.tmp 5) (.tmp 11) (by rfl) wr _ c.cells.toArray wr.heap.size (by rfl) rfl (by rfl) info_ch rfl (ch_one1 c) ?_) | fail)
      have hr5 := heap_alloc_new wr (.cells c.cells.toArray 102)
      have hE5 := (Ext.refl wr).alloc (.cells c.cells.toArray 102)
      have hS5 := hS.ext hE5
      have hF5 := hF.trans (.of_ext hE5)
      have hgm : wr.heap.size ≠ mb := fun e => by
        have := World.block_lt_of_cell? w _ hmb'.out
        obtain ⟨mb2, h1, _⟩ := hS.map
        have h2 := hF.cell hmb'.out hne
        obtain ⟨_, _, mb3, ⟨⟨es, clock, hb, _⟩, _⟩, _, _, _, h6⟩ := hS
        have hc := cell_of_row _ _ 0 _ 96 (0, 0) h6
        rw [h2] at hc
        obtain rfl : mb = mb3 := by simpa [stRow] using hc
        have := (Array.getElem?_eq_some_iff.1 hb).1
        omega
      clear hS hE5 hrg hF
      generalize wr.alloc _ = w5 at *
      generalize wr.heap.size = g5 at *
      obtain ⟨y0, y1, y2⟩ := ch_cells hr5
      have hm5 := hF5.cell hmb'.out hne
      have hk140 := hsmc.1
      cases hgn : c.gone
      · rw [hgn] at y2
        have hgn' := Lib.hid hgn
        have hg6 : w0.heap.size ≤ w5.heap.size := hS5.1.size
        have hs6 : st < w5.heap.size := hS5.lt
        have hE6 : Ext w5 (w5.alloc (.cells (rowR ⟨c.key, c.val⟩) 84)).drew := ((Ext.refl w5).alloc _).drew
        obtain ⟨w7, hrun, hS7, hgr⟩ := (hS5.ext hE6).store (by omega) hk140 hg6 (by omega) (show (w5.alloc (.cells (rowR ⟨c.key, c.val⟩) 84)).drew.heap[w5.heap.size]? = some (.cells (rowR ⟨c.key, c.val⟩) 84 (0, 0)) from heap_alloc_new w5 _) (hE6.cell hm5)
        have hF7 := (hF5.trans (.of_ext hE6)).trans (off_grown hgr)
        have hrun' := hrun
        unfold rowR at hrun'
        simp only at hrun'
        have z0 := (off_grown hgr).cell (hE6.cell y0) hgm
        have z1 := (off_grown hgr).cell (hE6.cell y1) hgm
        have z2 := (off_grown hgr).cell (hE6.cell hm5) hne
        have hfin := Lib.hid (And.intro hgn (And.intro hS7 hF7))
        clear hgn hS7 hF7 hgr hrun hS5 hF5 hE6
        go_upto_region 5 with fail
        go_region_held3 (fun w' => w'.cell? ⟨g5, 0, none⟩ = some (.string c.key) ∧ w'.cell? ⟨g5, 1, none⟩ = some (.string c.val) ∧ w'.cell? ⟨st, 0, none⟩ = some (.map (some mb))) (first | exact ⟨z0, z1, z2⟩ | go_keep) (fail)
        obtain ⟨hgn, hS7, hF7⟩ := hfin.out
        clear z0 z1 z2 hrun'
        go_wp2_with fail
        go_roundw
        case rel =>
          refine ⟨k + 1, putR rk c.key c.val w5.heap.size, by omega, by go_num, hS7, ?_, by have := putR_length rk c.key c.val w5.heap.size; omega, hF7⟩
          rw [putR_map, hrk'.out, hnx.out]
          unfold chW
          rw [hgn]; rfl
        case measure => simp [intOf]; omega
      · rw [hgn] at y2
        obtain ⟨w7, hrun, hS7, hgr⟩ := (hS5.ext (Ext.refl w5).drew).strike hk140 hm5 0
        have hF7 := (hF5.trans (.of_ext (Ext.refl w5).drew)).trans (off_grown hgr)
        have hfin := Lib.hid (And.intro hgn (And.intro hS7 hF7))
        clear hgn hS7 hF7 hgr hS5 hF5
        go_upto_region 4 with fail
        go_still_tail 6, (by kernel_rfl)
        change wpList _ _ _ _ _ w5.drew
        obtain ⟨hgn, hS7, hF7⟩ := hfin.out
        have hgn' := Lib.hid hgn
        clear hgn
        go_wp2_with fail
        go_roundw
        case rel =>
          refine ⟨k + 1, delR rk c.key, by omega, by go_num, hS7, ?_, by have := List.length_filter_le (fun p => !keyIs c.key p) rk; unfold delR; omega, hF7⟩
          rw [delR_map, hrk'.out, hnx.out]
          unfold chW
          rw [hgn'.out]; rfl
        case measure => simp [intOf]; omega
    · have hli : ¬ (k : Int) < (cs.length : Int) := by omega
      have hkl : cs.take k = cs := List.take_of_length_le (by omega)
      go_wp2_with fail
      go_end0
      exact ⟨⟨rfl, rk, hS, by rw [hrk'.out, hkl], by omega⟩, hF⟩
end Go.Proofs.YthageoibkeebhaaGreatDoor
