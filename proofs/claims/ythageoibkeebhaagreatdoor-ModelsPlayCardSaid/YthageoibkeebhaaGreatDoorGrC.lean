/- Several texts in one: Off Mod6 Kit5. No condition. -/
import Derived.Test.YthageoibkeebhaaGreatDoorGrKit
import Derived.Deep.MidRow
import Derived.Test.YthageoibkeebhaaGreatDoorGrB
import Derived.Deep.CutRange
import Derived.Laws.Cover1
/- Worlds that keep all blocks but some of the call's own (OffB), and a slice's row across them. No condition. -/
namespace Go.Proofs.YthageoibkeebhaaGreatDoor
open Go.RowKit

/-- All blocks that were there are as they were, but for those of B; new ones may have come. -/
structure OffB (B : Nat → Prop) (w w' : World) : Prop where
  os : w'.os = w.os
  tape : w'.tape = w.tape
  output : w'.output = w.output
  size : w.heap.size ≤ w'.heap.size
  block : ∀ k, k < w.heap.size → ¬ B k → w'.heap[k]? = w.heap[k]?

variable {B : Nat → Prop}
theorem OffB.refl (w : World) : OffB B w w := ⟨rfl, rfl, rfl, Nat.le_refl _, fun _ _ _ => rfl⟩
theorem OffB.trans {a b c : World} (h : OffB B a b) (k : OffB B b c) : OffB B a c :=
  ⟨k.os.trans h.os, k.tape.trans h.tape, k.output.trans h.output, Nat.le_trans h.size k.size, fun i hi hb => (k.block i (Nat.lt_of_lt_of_le hi h.size) hb).trans (h.block i hi hb)⟩
theorem OffB.mono {B' : Nat → Prop} {w w' : World} (h : OffB B w w') (hb : ∀ k, B k → B' k) : OffB B' w w' := ⟨h.os, h.tape, h.output, h.size, fun k hk hn => h.block k hk (fun hB => hn (hb k hB))⟩
/-- What came past the world's end is free to turn. -/
theorem OffB.past {B' : Nat → Prop} {w w' : World} (h : OffB B w w') (hb : ∀ k, k < w.heap.size → B k → B' k) : OffB B' w w' := ⟨h.os, h.tape, h.output, h.size, fun k hk hn => h.block k hk (fun hB => hn (hb k hk hB))⟩
theorem OffB.of_ext {w w' : World} (h : Ext w w') : OffB B w w' := ⟨Below.os h, Below.tape h, Below.output h, Below.size h, fun k hk _ => Below.block h k hk⟩
theorem OffB.of_below {w w' : World} {base : Nat} (h : Below base w w') (hb : ∀ k, k < w.heap.size → base ≤ k → B k) : OffB B w w' := ⟨h.os, h.tape, h.output, h.size, fun k hk hn => h.block k (Nat.lt_of_not_le fun hle => hn (hb k hk hle))⟩
theorem OffB.ext {w w' : World} (h : OffB B w w') (hb : ∀ k, k < w.heap.size → ¬ B k) : Ext w w' := ⟨h.os, h.tape, h.output, h.size, fun k hk => h.block k hk (hb k hk)⟩
theorem OffB.below {w w' : World} {base : Nat} (h : OffB B w w') (hb : ∀ k, B k → base ≤ k) (hs : base ≤ w.heap.size) : Below base w w' := ⟨h.os, h.tape, h.output, h.size, fun k hk => h.block k (by omega) (fun hB => by have := hb k hB; omega)⟩
theorem OffB.drew {a w : World} (h : OffB B a w) : OffB B a w.drew := ⟨h.os, h.tape, h.output, h.size, h.block⟩
theorem OffB.alloc {a w : World} (h : OffB B a w) (o : Obj) : OffB B a (w.alloc o) := h.trans (.of_ext ((Ext.refl w).alloc o))
theorem OffB.setCell {a w : World} (h : OffB B a w) {p : Addr} (hp : B p.block) (u : Value) : OffB B a (w.setCell p u) :=
  h.trans ⟨rfl, rfl, rfl, by simp, fun k _ hn => Below.heap_setCell w p u k (fun e => hn (e ▸ hp))⟩
theorem OffB.setCells {a w : World} (h : OffB B a w) {b : Nat} (hp : B b) (o : Nat) (vs : List Value) : OffB B a (w.setCells b o vs) := by
  induction vs generalizing o w with
  | nil => exact h
  | cons v r ih => exact ih (h.setCell hp v) (o + 1)
theorem OffB.cell {w w' : World} (h : OffB B w w') {a : Addr} {v : Value} (hc : w.cell? a = some v) (hn : ¬ B a.block) : w'.cell? a = some v := by
  rw [World.cell?_of_block (w := w) (h.block a.block (World.block_lt_of_cell? w a hc) hn)]; exact hc
theorem OffB.frozen {w w' : World} (h : OffB B w w') {a : Addr} {v : Value} (hc : w.cell? a = some v) (hn : ¬ B a.block) : w'.frozen? a = w.frozen? a :=
  World.frozen?_of_block (w := w) (h.block a.block (World.block_lt_of_cell? w a hc) hn)
theorem OffB.range {w w' : World} (h : OffB B w w') {b o : Nat} {cs : List Value} (hc : w.rangeAt b o cs) (hn : ¬ B b) : w'.rangeAt b o cs := fun j v hv => h.cell (hc j v hv) hn

/-- The block of a slice's row. -/
def Out (B : Nat → Prop) (v : Value) : Prop := ∀ a n c, v = .slice (some a) n c → ¬ B a.block
theorem Out.nil {a : Nat} {c : Nat} : Out B (.slice none a c) := fun _ _ _ h => by injection h with h1; cases h1
theorem RowIs.off {w w' : World} {size : Nat} {v : Value} {n : Nat} {xs : List Value} (h : RowIs w size v n xs) (hv : Out B v) (he : OffB B w w') : RowIs w' size v n xs := by
  obtain ⟨h1, h2, h3 | ⟨b, off, cap, rfl, hc, h4⟩⟩ := h
  · exact ⟨h1, h2, .inl h3⟩
  · refine ⟨h1, h2, .inr ⟨b, off, cap, rfl, hc, fun i hi => ?_⟩⟩
    have e := h4 i hi
    rw [List.getElem?_eq_getElem (by omega)] at e ⊢
    exact he.cell e (hv ⟨b, off, none⟩ n cap rfl)
theorem Out.of_own {w : World} {base : Nat} {e : TypeId} {size : Nat} {v : Value} {n : Nat} {xs : List Value} (h : w.ownsRow base e size v n xs) (hb : ∀ k, B k → k < base) : Out B v := by
  intro a m c hv hB
  subst hv
  obtain ⟨_, ⟨h1, _⟩ | ⟨g, cap, cur, h1, hg, _⟩⟩ := h
  · injection h1 with h2; cases h2
  · injection h1 with h2
    injection h2 with h3
    subst h3
    have := hb _ hB
    simp at this
    omega
end Go.Proofs.YthageoibkeebhaaGreatDoor

/- What scan is answered. No condition. -/
namespace Go.Proofs.YthageoibkeebhaaGreatDoor
open Go.RowKit Go.Maps Go.WideMaps
set_option maxRecDepth 100000
set_option maxHeartbeats 800000
def inR (x : Ak) (r : Rw) : Bool := !(Op.bytesLess r.key.toList x.key.toList) && (Op.bytesLess r.key.toList x.to.toList || r.key.toList == x.to.toList)
def scanL (x : Ak) (l : List Rw) : List Rw := (l.filter (inR x)).take x.many.toNat
theorem scanL_add (x : Ak) (l : List Rw) (r : Rw) : scanL x (l ++ [r]) = if inR x r = true ∧ ((scanL x l).length : Int) < x.many then scanL x l ++ [r] else scanL x l := by
  unfold scanL
  rw [List.filter_append, List.take_append, List.length_take]
  by_cases h : inR x r = true
  · rw [show [r].filter (inR x) = [r] by simp [h]]
    by_cases h2 : ((min x.many.toNat (l.filter (inR x)).length : Nat) : Int) < x.many
    · rw [if_pos ⟨h, h2⟩, List.take_of_length_le (l := [r]) (by simp; omega)]
    · rw [if_neg (fun hc => h2 hc.2), show x.many.toNat - (l.filter (inR x)).length = 0 by omega]; simp
  · rw [if_neg (fun hc => h hc.1), show [r].filter (inR x) = [] by simp [h]]; simp
theorem scanL_len (x : Ak) (l : List Rw) : (scanL x l).length ≤ l.length := by
  unfold scanL; rw [List.length_take]; have := List.length_filter_le (inR x) l; omega
theorem own_rw {w : World} {base g cap n : Nat} {l : List Rw} (h : w.ownsRow base 84 2 (.slice (some ⟨g, 0, none⟩) n cap) n (l.flatMap rwL)) {k : Nat} {r : Rw} (hr : l[k]? = some r) (hk : k < n) : w.rangeAt g (k * 2) (rowR r).toList := fun j v hv => by
  have hj : j < 2 := by
    have := (List.getElem?_eq_some_iff.1 hv).1
    simpa [rowR] using this
  have hfm : ∀ (l : List Rw) (k : Nat), l[k]? = some r → (l.flatMap rwL)[k * 2 + j]? = (rwL r)[j]? := by
    intro l
    induction l with
    | nil => intro k h; simp at h
    | cons y t ih =>
      intro k hk
      cases k with
      | zero =>
        obtain rfl : y = r := by simpa using hk
        rw [List.flatMap_cons, List.getElem?_append_left (by simp [rwL]; omega)]; simp
      | succ k =>
        have := ih k (by simpa using hk)
        rw [List.flatMap_cons, List.getElem?_append_right (by simp [rwL]; omega), show (k + 1) * 2 + j - (rwL y).length = k * 2 + j by simp [rwL]; omega]
        exact this
  rw [h.cellAt (k * 2 + j) (by omega), hfm l k hr, ← hv]
  rfl
def reF (b : Bool) (l : Value) : Array Value := #[.int .i64 0, .bool b, l]
theorem reF_one (b : Bool) (a : Option Addr) (n c : Nat) : (reF b (.slice a n c)).all (·.oneCell') = true := by kernel_rfl
theorem fz {w : World} {b o : Nat} {cs : Array Value} {t : TypeId} (h : w.heap[b]? = some (.cells cs t (0, 0))) : w.frozen? ⟨b, o, none⟩ = false := by unfold World.frozen?; rw [h]; simp
theorem own_some {w : World} {base n cap : Nat} {e : TypeId} {size : Nat} {a : Option Addr} {xs : List Value} (h : w.ownsRow base e size (.slice a n cap) n xs) (hn : 0 < n) : ∃ g, a = some ⟨g, 0, none⟩ ∧ base ≤ g := by
  obtain ⟨_, ⟨_, h0⟩ | ⟨g, c, cur, h1, hb, _⟩⟩ := h
  · omega
  · injection h1 with h2
    exact ⟨g, h2, hb⟩
theorem st_scan {w0 w : World} {st : Nat} {rs : List (Rw × Nat)} {sd : List Sv} (hS : StX w0 w st rs sd) (hn : rs.length ≤ 1000000) (hks : ∀ p ∈ rs, p.1.key.size ≤ 140737488351232) (x : Ak) (u : Value) : Calls Tryz.prog 149 #[.pointer (some ⟨st, 0, none⟩), .agg (x.row u)] w (ReE false (scanL x (rs.map Prod.fst)) w) := by
  obtain ⟨W, hW⟩ : ∃ W, W = (w.alloc (.cells (x.row u) 66)).alloc (.cells zRe 74) := ⟨_, rfl⟩
  have hE : Ext w W := by rw [hW]; exact ((Ext.refl _).alloc _).alloc _
  have hX : W.heap[w.heap.size]? = some (.cells (x.row u) 66 (0, 0)) := by rw [hW]; exact ((Ext.refl _).alloc _).row (heap_alloc_new w _)
  have hR : W.heap[w.heap.size + 1]? = some (.cells zRe 74 (0, 0)) := by
    have h1 := heap_alloc_new (w.alloc (.cells (x.row u) 66)) (.cells zRe 74)
    rw [show (w.alloc (.cells (x.row u) 66)).heap.size = w.heap.size + 1 by simp] at h1
    rw [hW]; exact h1
  have hWs : W.heap.size = w.heap.size + 2 := by rw [hW]; simp
  have hT := hS.ext hE
  have hW' := Lib.hid hW
  have hT' := Lib.hid hT
  have hX' := Lib.hid hX
  have hR' := Lib.hid hR
  clear hW hX hR hT
  unfold Ak.row zRe at hW'
  unfold Ak.row
  go_enter Tryz.func149, Tryz.ntmps149
  go_upto_region 1 with fail
  rw [← hW'.out]
  clear hW'
  go_wp2_with fail
  refine (st_rows hT'.out hn hks).mono ?_
  rintro e w1 ⟨a, cap, rfl, hac, hown, hE1⟩
  obtain ⟨l, hl⟩ : ∃ l, l = rs.map Prod.fst := ⟨_, rfl⟩
  rw [← hl] at hown hac
  have hln : l.length ≤ 1000000 := by rw [hl, List.length_map]; exact hn
  rw [← hl]
  have hl' := Lib.hid hl
  clear hl hT'
  have hXr := hE1.row hX'.out
  have hRr := hE1.row hR'.out
  clear hX' hR'
  have hb1 : W.heap.size ≤ w1.heap.size := hE1.size
  have hown' := Lib.hid hown
  have hXr' := Lib.hid hXr
  have hRr' := Lib.hid hRr
  clear hown hXr hRr
  obtain ⟨n, hn1⟩ : ∃ n, n = l.length := ⟨_, rfl⟩
  rw [← hn1]
  have hn2 := Lib.hid hn1
  rw [← hn1] at hln hac
  clear hn1
  go_wp2_with fail
  go_loopw [10] (fun i wr => ∃ (k m : Nat) (oa : Option Addr) (oc : Nat), k ≤ n ∧ i = .int .i64 k ∧ Hid (m = (scanL x (l.take k)).length) ∧ wr.heap[w.heap.size + 1]? = some (.cells #[.int .i64 0, .bool false, .slice oa m oc] 74 (0, 0)) ∧ wr.ownsRow w1.heap.size 84 2 (.slice oa m oc) m ((scanL x (l.take k)).flatMap rwL) ∧ OffB (· = w.heap.size + 1) w1 wr) (fun i _ => n - (intOf i).toNat)
  case atStart => exact ⟨0, 0, none, 0, by omega, rfl, Lib.hid (by simp [scanL]), hRr'.out, by simpa [scanL] using World.ownsRow_nil _ _ _ _, OffB.refl _⟩
  case round =>
    obtain ⟨k, m, oa, oc, hk, rfl, hm, hR, hown, hO⟩ := hrel
    by_cases hlt : k < n
    · have hli : (k : Int) < (n : Int) := by omega
      have hn3 := hn2.out
      obtain ⟨r, hr⟩ : ∃ r, l[k]? = some r := ⟨_, List.getElem?_eq_getElem (by omega)⟩
      obtain ⟨g, rfl, hg⟩ := own_some hown'.out (by omega)
      have hrg := hO.range (own_rw hown'.out hr (by omega)) (by omega)
      have hxc := askc hXr'.out
      have hxk := hO.cell hxc.2.1 (by simp)
      have hxt := hO.cell hxc.2.2.2.2.2.1 (by simp)
      have hxm := hO.cell hxc.2.2.2.2.2.2.1 (by simp)
      have htk : l.take (k + 1) = l.take k ++ [r] := by rw [List.take_add_one, hr]; rfl
      have hml := hm.out
      have hmk : m ≤ k := by rw [hml]; have := scanL_len x (l.take k); rw [List.length_take] at this; omega
      have hadd := scanL_add x (l.take k) r
      rw [← htk, ← hml] at hadd
      have hadd' := Lib.hid hadd
      have hR' := Lib.hid hR
      obtain ⟨r0, r1, r2⟩ := re_cells hR
      have hn4 := Lib.hid hn3
      clear hn3 hml hadd htk hR hr hxc hown' hXr' hRr'
      have hX4 : Ext wr (wr.alloc (.cells (rowR r) 84)) := (Ext.refl _).alloc _
      have hnw := heap_alloc_new wr (.cells (rowR r) 84)
      have hws : w1.heap.size ≤ wr.heap.size := hO.size
      go_upto_region 4 with (first | (refine wpList_load_mid (by rfl) 84 (.tmp 12) (by rfl) g (k * 2) (by rfl) (rowR r).toList _ hrg Tryz.underlying84 rfl (by exact info_row) ?_) | (refine wpList_store_whole (by rfl) 84 (.tmp 6) (.tmp 13) (by rfl) wr _ (rowR r) wr.heap.size (by rfl) rfl (by rfl) (by exact info_row) rfl (rowR_one r) ?_) | fail)
      generalize hW4 : wr.alloc (.cells (rowR r) 84) = W4 at *
      have hs4 : W4.heap.size = wr.heap.size + 1 := by rw [← hW4]; simp
      clear hW4
      have hO4 := hO.trans (.of_ext hX4)
      have hown4 : W4.ownsRow w1.heap.size 84 2 (.slice oa m oc) m ((scanL x (l.take k)).flatMap rwL) := hown.kept (grown_of_ext hX4) (Classical.em _)
      replace r0 := hX4.cell r0
      replace r1 := hX4.cell r1
      replace r2 := hX4.cell r2
      replace hxk := hX4.cell hxk
      replace hxt := hX4.cell hxt
      replace hxm := hX4.cell hxm
      have hR4 := Lib.hid (hX4.row hR'.out)
      obtain ⟨q0, q1⟩ := row_cells hnw
      have hnw' := Lib.hid hnw
      have hs4' := Lib.hid hs4
      clear hrg hown hO hX4 hnw hR' hs4
      have hrg4 := row_range hnw'.out
      have hsz4 : w1.heap.size ≤ W4.heap.size := by rw [hs4'.out]; omega
      have hskip : ∀ (hq : ¬ (inR x r = true ∧ (m : Int) < x.many)), ∃ (k' m' : Nat) (oa' : Option Addr) (oc' : Nat), k' ≤ n ∧ Value.int .i64 ((k : Int) + 1) = .int .i64 k' ∧ Hid (m' = (scanL x (l.take k')).length) ∧ W4.heap[w.heap.size + 1]? = some (.cells #[.int .i64 0, .bool false, .slice oa' m' oc'] 74 (0, 0)) ∧ W4.ownsRow w1.heap.size 84 2 (.slice oa' m' oc') m' ((scanL x (l.take k')).flatMap rwL) ∧ OffB (· = w.heap.size + 1) w1 W4 := by
        intro hq
        have ha := hadd'.out
        rw [if_neg hq] at ha
        exact ⟨k + 1, m, oa, oc, by omega, by simp, Lib.hid (by rw [ha]; exact hm.out), hR4.out, by rw [ha]; exact hown4, hO4⟩
      have hskip' := Lib.hid hskip
      clear hskip
      cases h1 : Op.bytesLess r.key.toList x.key.toList with
      | true =>
        go_wp2_with fail
        go_roundw
        case rel => exact hskip'.out (by unfold inR; rw [h1]; simp)
        case measure => simp [intOf]; omega
      | false =>
        cases h2 : (Op.bytesLess r.key.toList x.to.toList || r.key.toList == x.to.toList) with
        | false =>
          go_wp2_with fail
          go_roundw
          case rel => exact hskip'.out (by unfold inR; rw [h1, h2]; simp)
          case measure => simp [intOf]; omega
        | true =>
          by_cases h3 : (m : Int) < x.many
          · go_upto_region 5 with fail
            go_wp2_with (first | (refine wpList_load_mid (by rfl) 84 (.tmp 6) (by rfl) wr.heap.size 0 (by rfl) (rowR r).toList _ hrg4 Tryz.underlying84 rfl (by exact info_row) ?_) | (refine wpList_bs_row (by rfl) (.tmp 36) (by rfl) r (by rfl) ?_) | (at_builtin; go_loud (refine wpList_append_lit (by rfl) (.tmp 35) (.tmp 37) 22 84 (by rfl) Tryz.underlying22 el_row W4 w1.heap.size m _ (.slice oa m oc) (by rfl) hown4 (rowR r) (by rfl) (by rfl) (fun u hu => Array.all_eq_true_iff_forall_mem.1 (rowR_one r) u (by simpa using hu)) (by omega) (by omega) hsz4 ?_); go_loud (intro v' w3 hown5 hbel); go_loud (have hR5 : w3.heap[w.heap.size + 1]? = some (.cells #[.int .i64 0, .bool false, .slice oa m oc] 74 (0, 0)) := (hbel.block _ (by omega)).trans hR4.out); go_loud (have s2 := (re_cells hR5).2.2); go_loud (obtain ⟨oa', oc', rfl, _⟩ := own_slice hown5); go_loud (have f2 : w3.frozen? ⟨w.heap.size + 1, 2, none⟩ = false := fz hR5); go_loud (replace hR5 := Lib.hid hR5)) | fail)
            go_roundw
            case rel =>
              have ha := hadd'.out
              rw [if_pos ⟨by unfold inR; rw [h1, h2]; rfl, h3⟩] at ha
              refine ⟨k + 1, m + 1, oa', oc', by omega, by go_num, Lib.hid (by rw [ha, List.length_append, ← hm.out]; rfl), by simp [World.setCell, Array.getElem?_modify, hR5.out], ownsRow_setCell_below ?_ (show w.heap.size + 1 < w1.heap.size by omega) _, OffB.setCell (a := w1) (w := w3) ⟨(Below.os hbel).trans hO4.os, (Below.tape hbel).trans hO4.tape, (Below.output hbel).trans hO4.output, Nat.le_trans hO4.size (Below.size hbel), fun i hi hq => (Below.block hbel i hi).trans (hO4.block i hi hq)⟩ rfl _⟩
              rw [ha, List.flatMap_append]
              simpa [rwL, rowR] using hown5
            case measure => simp [intOf]; omega
          · go_wp2_with fail
            go_roundw
            case rel => exact hskip'.out (fun hc => h3 hc.2)
            case measure => simp [intOf]; omega
    · have hli : ¬ (k : Int) < (n : Int) := by omega
      obtain rfl : k = n := by omega
      have hfull : l.take k = l := List.take_of_length_le (by rw [← hn2.out]; exact Nat.le_refl _)
      rw [hfull] at hown hm
      obtain ⟨r0, r1, r2⟩ := re_cells hR
      have hm' : (scanL x l).length = m := hm.out.symm
      have hm2 := Lib.hid hm'
      clear hm hm' hfull
      replace hR : wr.heap[w.heap.size + 1]? = some (.cells (reF false (.slice oa m oc)) 74 (0, 0)) := hR
      clear hown' hXr' hRr'
      go_wp2_with (first | (refine wpList_store_row (by rfl) 74 (.tmp 4) (.tmp 41) (by rfl) (w.heap.size + 1) (reF false (.slice oa m oc)) (by rfl) (by rfl) 74 (reF false (.slice oa m oc)) hR (by exact info_reply) (by rfl) (reF_one _ _ _ _) ?_) | fail)
      have hset : (wr.setRow (w.heap.size + 1) (reF false (.slice oa m oc))).heap[w.heap.size + 1]? = some (.cells (reF false (.slice oa m oc)) 74 (0, 0)) := by rw [setRow_heap _ _ _ _ _ _ hR]
      have hEE := hE.trans hE1
      have hOs := hO.size
      have hSz : (wr.setRow (w.heap.size + 1) (reF false (.slice oa m oc))).heap.size = wr.heap.size := by simp
      have hEf : Ext w (wr.setRow (w.heap.size + 1) (reF false (.slice oa m oc))) := ⟨hO.os.trans (Below.os hEE), hO.tape.trans (Below.tape hEE), hO.output.trans (Below.output hEE), by rw [hSz]; omega, fun i hi => by rw [setRow_other _ _ _ _ (by omega)]; exact (hO.block i (by omega) (by omega)).trans (Below.block hEE i hi)⟩
      have hOf : OffB (· = w.heap.size + 1) wr (wr.setRow (w.heap.size + 1) (reF false (.slice oa m oc))) := ⟨rfl, rfl, rfl, by rw [hSz]; omega, fun i _ hq => setRow_other _ _ _ _ hq⟩
      have hrow := (RowIs.of_own hown).off (Out.of_own hown (fun i hi => by omega)) hOf
      generalize wr.setRow (w.heap.size + 1) (reF false (.slice oa m oc)) = Wf at *
      obtain ⟨c0, c1, c2⟩ := re_cells hset
      exact bodyPost_ret (v := .agg (reF false (.slice oa m oc))) (by simp [results, Tryz.results149, go_sem, c0, c1, c2, reF]) rfl ⟨oa, oc, by rw [← hl'.out, hm2.out]; rfl, by rw [← hl'.out, hm2.out]; exact hrow, hEf⟩
end Go.Proofs.YthageoibkeebhaaGreatDoor

/- Append to one of several rows of the call's own, at one operation of a region that draws its order. No condition. -/
namespace Go.Proofs.YthageoibkeebhaaGreatDoor
open Go.RowKit

theorem wp_append_sep {P : Program} {o : Oper} {a : Act} {K : Act → World → Prop} {Q : Exit → Act → World → Prop} (s x : Operand) (t e : TypeId)
    (ho : o.op = .call { callee := .builtin .append, args := #[s, x], argTypes := #[t, t] }) (ht : P.underlying t = some (.slice e)) {size bytes : Nat} (hel : ElemIs P e size bytes)
    (w : World) (base n : Nat) (xs : List Value) (v : Value) (hs : a.eval s = v) (hown : w.ownsRow base e size v n xs) (cs : Array Value)
    (hx : a.eval x = .slice (some ⟨w.heap.size, 0, none⟩) 1 1) (hcs : cs.size = size) (h1 : ∀ u ∈ cs.toList, u.oneCell' = true) (hn : n < 9223372036854775807) (hb : (n + 1) * bytes ≤ 140737488355328) (hbase : base ≤ w.heap.size)
    (h : ∀ v' w', w'.ownsRow base e size v' (n + 1) (xs ++ cs.toList) → Below base w w' → Keeps w w' v v' → K (a.put o.dst v') w') : o.wp P a (w.alloc (.cells cs e)) K Q := by
  obtain ⟨i, z, hi, hz, hsize, hby, hzs, hpos⟩ := hel
  obtain ⟨v', w', hr, hown', hg, _, hat⟩ := run_append_own_at (P := P) (w.alloc (.cells cs e)) base t o.type e i z size bytes ht hi hz hsize hby hzs hpos v n xs (hown.alloc _) ⟨w.heap.size, 0, none⟩ 1 1 cs.toList (by simp [hcs]) (by
    intro j u hu
    rw [Addr.add_mid, Nat.zero_add, cell_of_row _ _ j cs e (0, 0) (heap_alloc_new w _)]
    simpa using hu) h1 (by unfold maxLen; omega) hb (by simp; omega)
  unfold Oper.wp execOp
  simp only [ho, resolve, invoke, builtin, Sem.run_bind, Sem.run_pure, Result.andThen_ok, List.map_toArray, List.map_cons, List.map_nil, hs, hx, hr]
  refine h v' w' hown' (((Below.refl base w).alloc hbase _).grown hg (by simp; omega) (fun k hk => (hown.lt k hk).1)) ?_
  intro base2 e2 size2 u n2 xs2 hu hsep
  refine ⟨(hu.alloc _).kept hg ?_, ?_⟩
  · cases hub : u.ownBlock with
    | none => exact .inl rfl
    | some k => exact .inr (fun hk => hsep.symm k hub hk.symm)
  · intro g hg' hug
    rcases hat with hat | hat
    · exact hsep g (hat ▸ hg') hug
    · rw [hat] at hg'
      have := (hu.lt g hug).2
      simp at hg'
      omega

theorem step_append_sep {P : Program} {ops : Array Oper} {o : Oper} {a : Act} {K : Act → World → Prop} {Q : Exit → Act → World → Prop} {E : Prop} (hg : Region.wanted o (yielded ops a.tmps) = true) (s x : Operand) (t e : TypeId)
    (ho : o.op = .call { callee := .builtin .append, args := #[s, x], argTypes := #[t, t] }) (ht : P.underlying t = some (.slice e)) {size bytes : Nat} (hel : ElemIs P e size bytes)
    (w : World) (base n : Nat) (xs : List Value) (v : Value) (hs : a.eval s = v) (hown : w.ownsRow base e size v n xs) (cs : Array Value)
    (hx : a.eval x = .slice (some ⟨w.heap.size, 0, none⟩) 1 1) (hcs : cs.size = size) (h1 : ∀ u ∈ cs.toList, u.oneCell' = true) (hn : n < 9223372036854775807) (hb : (n + 1) * bytes ≤ 140737488355328) (hbase : base ≤ w.heap.size)
    (h : ∀ v' w', w'.ownsRow base e size v' (n + 1) (xs ++ cs.toList) → Below base w w' → Keeps w w' v v' → K (a.put o.dst v') w') : if Region.wanted o (yielded ops a.tmps) = true then Oper.wp P o a (w.alloc (.cells cs e)) K Q else E := by
  rw [if_pos hg]
  exact wp_append_sep s x t e ho ht hel w base n xs v hs hown cs hx hcs h1 hn hb hbase h
end Go.Proofs.YthageoibkeebhaaGreatDoor
