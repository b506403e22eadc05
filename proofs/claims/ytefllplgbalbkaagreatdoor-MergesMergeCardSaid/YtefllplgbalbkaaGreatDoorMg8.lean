/- See told. No condition. -/
import Derived.Test.YtefllplgbalbkaaGreatDoorMg7
import Derived.Test.YtefllplgbalbkaaGreatDoorMg4
import Derived.Test.YtefllplgbalbkaaGreatDoorRnd
namespace Go.Proofs.YtefllplgbalbkaaGreatDoor
open Go.RowKit
attribute [local go_sem] Oper.semAt_some
set_option maxRecDepth 100000
set_option maxHeartbeats 4000000
/-- A row. -/
structure Rw where
  key : ByteArray
  val : ByteArray
def rowR (r : Rw) : Array Value := #[.string r.key, .string r.val]
def rwL (r : Rw) : List Value := [.string r.key, .string r.val]
/-- Of one key's entries the row that shows at a number. -/
def seeG (s : Nat) (g : List En) : Option Rw := match g.find? (fun e => decide (e.mark.seq ≤ s)) with
  | some e => if e.mark.gone then none else some ⟨e.mark.key, e.val⟩
  | none => none
def seeL (L : List En) (s : Nat) : List Rw := (keyG L).filterMap (seeG s)
theorem seenI_none {g : List En} {s : Nat} (h : g.find? (fun e => decide (e.mark.seq ≤ s)) = none) : seenI g s = -1 := by
  unfold seenI
  rw [List.findIdx?_eq_none_iff.2 (fun x hx => by have := List.find?_eq_none.1 h x hx; simpa using this)]
theorem seenI_some {g : List En} {s : Nat} {e : En} (h : g.find? (fun e => decide (e.mark.seq ≤ s)) = some e) : ∃ i : Nat, seenI g s = (i : Int) ∧ g[i]? = some e := by
  cases hi : g.findIdx? (fun e => decide (e.mark.seq ≤ s)) with
  | none => rw [List.find?_eq_none.2 (fun x hx => by have := List.findIdx?_eq_none_iff.1 hi x hx; simpa using this)] at h; cases h
  | some i =>
    refine ⟨i, by unfold seenI; rw [hi], ?_⟩
    obtain ⟨hl, hp, hn⟩ := List.findIdx?_eq_some_iff_getElem.1 hi
    have : g.find? (fun e => decide (e.mark.seq ≤ s)) = some g[i] := by
      rw [List.find?_eq_some_iff_getElem]
      exact ⟨hp, i, hl, rfl, fun j hj => by have := hn j hj; simpa using this⟩
    rw [this] at h
    injection h with h
    rw [← h]
    exact List.getElem?_eq_getElem hl
theorem el_row : ElemIs Tryz.prog 74 2 32 := by
  refine ElemIs.mk (z := .agg #[.string ⟨#[]⟩, .string ⟨#[]⟩]) (by kernel_rfl) (by rfl) (by decide)
theorem SlIs.row {w : World} {a : Option Addr} {n cap : Nat} {g : List En} (h : SlIs w (.slice a n cap) g) : RowIs w 4 (.slice a g.length cap) g.length (g.flatMap enL) := by
  obtain ⟨a', c', e1, h2⟩ := h
  injection e1 with q1 q2 q3
  subst q1 q3 q2
  exact h2
def SeeE (w : World) (L : List En) (s : Nat) (e : Ending) (w' : World) : Prop := Ext w w' ∧
  (risesB L = false → e = .returned (.tuple #[.slice none 0 0, .int .i64 1])) ∧
  (risesB L = true → ∃ a cap, e = .returned (.tuple #[.slice a (seeL L s).length cap, .int .i64 0]) ∧ OwnC w' w.heap.size 74 2 (.slice a (seeL L s).length cap) (seeL L s).length ((seeL L s).flatMap rwL))
/-- Between two rounds. -/
structure SeeI (w : World) (L : List En) (s g b : Nat) (k : Nat) (W : World) : Prop where
  ext : Ext w W
  sb : W.heap[g]? = some (.cells #[.int .u64 (s : Int)] 23 (0, 0))
  out : ∃ a N cap, N = (((keyG L).take k).filterMap (seeG s)).length ∧ W.heap[g + 1]? = some (.cells #[.slice a N cap] 26 (0, 0)) ∧ OwnC W (b + 3) 74 2 (.slice a N cap) N ((((keyG L).take k).filterMap (seeG s)).flatMap rwL)
theorem SeeI.off {w : World} {L : List En} {s g b k : Nat} {W W' : World} (h : SeeI w L s g b k W) (hO : OffB (LB b (b + 1)) W W') (hg : g = w.heap.size) (hb : g + 1 < b) : SeeI w L s g b k W' := by
  obtain ⟨h1, h2, a, N, cap, h3, h4, h5⟩ := h
  refine ⟨Below.trans h1 (hO.below (base := w.heap.size) (fun j hj => by rcases hj with hj | hj | hj <;> omega) h1.size), ?_, a, N, cap, h3, ?_, h5.off hO (fun q hq hB => by have := (h5.lt q hq).1; rcases hB with hB | hB | hB <;> omega)⟩
  · rw [hO.block g (Array.getElem?_eq_some_iff.1 h2).1 (fun hj => by rcases hj with hj | hj | hj <;> omega)]; exact h2
  · rw [hO.block (g + 1) (Array.getElem?_eq_some_iff.1 h4).1 (fun hj => by rcases hj with hj | hj | hj <;> omega)]; exact h4
theorem SeeI.ext6 {w : World} {L : List En} {s g b k : Nat} {W W' : World} (h : SeeI w L s g b k W) (hE : Ext W W') : SeeI w L s g b k W' := by
  obtain ⟨h1, h2, a, N, cap, h3, h4, h5⟩ := h
  exact ⟨h1.trans hE, hE.row h2, a, N, cap, h3, hE.row h4, h5.ext hE⟩
theorem SeeI.next {w : World} {L : List En} {s g b k : Nat} {W : World} (h : SeeI w L s g b k W) (he : ((keyG L).take (k + 1)).filterMap (seeG s) = ((keyG L).take k).filterMap (seeG s)) : SeeI w L s g b (k + 1) W := by
  obtain ⟨h1, h2, a, N, cap, h3, h4, h5⟩ := h
  exact ⟨h1, h2, a, N, cap, by rw [he]; exact h3, h4, by rw [he]; exact h5⟩
theorem keyG_len (l : List En) : (keyG l).length ≤ l.length := by
  induction l using keyG.induct with
  | case1 => rw [keyG_nil]; exact Nat.le_refl _
  | case2 x l ih =>
    rw [keyG_cons]
    simp only [List.length_cons]
    have := (List.dropWhile_sublist (sk x) (l := l)).length_le
    omega
theorem see_any (w : World) (L : List En) (s : Nat) (la : Option Addr) (lc : Nat) (hR : SlIs w (.slice la L.length lc) L) (hn : L.length ≤ 1000000) : Calls Tryz.prog 8 #[.slice la L.length lc, .int .u64 (s : Int)] w (SeeE w L s) := by
  obtain ⟨n, hnn⟩ : ∃ n, n = L.length := ⟨_, rfl⟩
  have hR' := Lib.hid hR
  have hri := fun W (hE : Ext w W) => rises_any W L la lc (hR.row.ext hE)
  rw [← hnn] at hri hn hR' ⊢
  have hnn' := Lib.hid hnn
  obtain ⟨rb, hrb⟩ : ∃ r, r = risesB L := ⟨_, rfl⟩
  rw [← hrb] at hri
  have hrb' := Lib.hid hrb
  clear hR hnn hrb
  obtain ⟨g, hg⟩ : ∃ g, g = w.heap.size := ⟨_, rfl⟩
  obtain ⟨W2, hW2⟩ : ∃ W2, W2 = (w.alloc (.cells #[.int .u64 (s : Int)] 23)).alloc (.cells #[.slice none 0 0] 26) := ⟨_, rfl⟩
  have hE2 : Ext w W2 := by rw [hW2]; exact ((Ext.refl w).alloc _).alloc _
  have hs2 : W2.heap[g]? = some (.cells #[.int .u64 (s : Int)] 23 (0, 0)) := by
    rw [hW2, hg]; exact ((Ext.refl _).alloc _).row (heap_alloc_new w _)
  have ho2 : W2.heap[g + 1]? = some (.cells #[.slice none 0 0] 26 (0, 0)) := by
    rw [hW2, hg]
    have h := heap_alloc_new (w.alloc (.cells #[.int .u64 (s : Int)] 23)) (.cells #[.slice none 0 0] 26)
    rwa [show (w.alloc (.cells #[.int .u64 (s : Int)] 23)).heap.size = w.heap.size + 1 by simp] at h
  have hW2' := Lib.hid hW2
  have hg' := Lib.hid hg
  clear hW2 hg
  refine (callsIn_wide (n := 4)).1 (callsIn_of_wp_marks Tryz.func8 rfl trivial ?_)
  refine (wpIn_wide (n := 4)).2 ?_
  simp only [Tryz.ntmps8, List.size_toArray, List.length_cons, List.length_nil, Nat.reduceAdd, Nat.reduceSub, Array.replicate_succ, Array.replicate_zero, List.push_toArray, List.append_toArray, List.nil_append, List.cons_append]
  go_wp2_with fail
  rw [← hW2'.out, ← hg'.out]
  refine (hri W2 hE2).mono ?_
  clear hri hW2'
  rintro e w4 ⟨rfl, hE4⟩
  have hs4 := hE4.row hs2
  have ho4 := hE4.row ho2
  have hEw := hE2.trans hE4
  clear hs2 ho2
  have c0 : w4.cell? ⟨g + 1, 0, none⟩ = some (.slice none 0 0) := by rw [cell_of_row _ _ _ _ 26 (0, 0) ho4]; rfl
  have z0 : w4.frozen? ⟨g + 1, 0, none⟩ = false := by unfold World.frozen?; rw [ho4]; simp
  cases rb with
  | false =>
    have c1 : (w4.setCell ⟨g + 1, 0, none⟩ (.slice none 0 0)).cell? ⟨g + 1, 0, none⟩ = some (.slice none 0 0) := World.cell?_setCell_same' _ _ _ (by rw [c0]; rfl)
    go_wp2_with fail
    exact ⟨.tuple #[.slice none 0 0, .int .i64 1], by simp [results, Tryz.results8, go_sem, c1], Ext.setCell hEw (p := ⟨g + 1, 0, none⟩) (by rw [hg'.out]; exact Nat.le_succ _) _, fun _ => rfl, fun h => by rw [← hrb'.out] at h; cases h⟩
  | true =>
    go_wp2_with fail
    refine (keys_any w4 la n lc).mono ?_
    rintro e w5 ⟨rfl, hw5⟩
    obtain ⟨b, hb⟩ : ∃ b, b = w4.heap.size := ⟨_, rfl⟩
    have hD : w5.heap.size = b + 1 := by rw [hw5, hb]; simp
    have hB5 : w5.heap[b]? = some (.cells #[.slice la L.length lc] 22 (0, 0)) := by rw [hw5, hb, ← hnn'.out]; exact heap_alloc_new w4 _
    have hE5 : Ext w4 w5 := by rw [hw5]; exact (Ext.refl _).alloc _
    have hs5 := hE5.row hs4
    have ho5 := hE5.row ho4
    have hgb : g + 1 < b := by rw [hb]; exact (Array.getElem?_eq_some_iff.1 ho4).1
    have hEw5 := hEw.trans hE5
    rw [← hb]
    clear hw5 hs4 ho4 hb hE5 hEw c0 z0 hE4
    go_wp2_with fail
    have hI0 : SeeI w L s g b 0 w5 := ⟨hEw5, hs5, none, 0, 0, rfl, ho5, OwnC.nil _ _ _ _⟩
    refine keys_range (m := 2) (b := b) (L := L) (la := la) (lc := lc) (w0 := w) 6 rfl hB5 (by rw [← hnn'.out]; exact hR'.out) (SeeI w L s g b) (fun k W h => h.ext) (fun k W W' h hO => h.off (by rw [hD] at hO; exact hO) hg'.out hgb) hI0 ?assign ?body ?done
    case assign =>
      intro l v W K hK
      simp only [List.setIfInBounds_toArray, List.set_cons_zero, List.set_cons_succ] at hK ⊢
      gi_wp2
      exact hK
    case body =>
      intro l k gr v W hgr hI hsz hv
      simp only [List.setIfInBounds_toArray, List.set_cons_zero, List.set_cons_succ]
      obtain ⟨va, vc, rfl, hvr⟩ := hv
      obtain ⟨m, hm⟩ : ∃ m, m = gr.length := ⟨_, rfl⟩
      have hex := hI.ext
      have hse := seen_any W s gr va vc (hvr.ext hex)
      obtain ⟨r, hr⟩ : ∃ r, r = seenI gr s := ⟨_, rfl⟩
      rw [← hr] at hse
      rw [← hm] at hse hvr ⊢
      have s0 : W.cell? ⟨g, 0, none⟩ = some (.int .u64 (s : Int)) := by rw [cell_of_row _ _ _ _ 23 (0, 0) hI.sb]; rfl
      have hm' := Lib.hid hm
      have hr' := Lib.hid hr
      have hvr' := Lib.hid hvr
      clear hm hr hvr hI0 hs5 ho5 hB5
      have hn3 : (Fence.wide.inRound l).depth.isSome = true → 1 ≤ 2 := fun h => by cases h
      gi_wp2_with fail
      refine ⟨trivial, CallsIn.mono (CallsIn.inRound l (callsIn_wide.2 hse)) ?_⟩
      clear hse s0
      rintro e W6 ⟨rfl, hE6⟩
      have hI6 : SeeI w L s g b k W6 := hI.ext6 hE6
      have hk1 : (keyG L).take (k + 1) = (keyG L).take k ++ [gr] := by rw [List.take_add_one, hgr]; rfl
      have hk1' := Lib.hid hk1
      have hsame : Hid (∀ j, LB b (b + 1) j → W6.heap[j]? = W.heap[j]?) := Lib.hid (fun j hj => Below.block hE6 j (by rw [hD] at hsz; rcases hj with hj | hj | hj <;> omega))
      have hs6 := Lib.hid (Below.size hE6)
      clear hI hk1 hgr
      cases hf : gr.find? (fun e => decide (e.mark.seq ≤ s)) with
      | none =>
        have hr1 : r = -1 := by rw [hr'.out]; exact seenI_none hf
        have hrow : seeG s gr = none := by unfold seeG; rw [hf]
        have hI7 : SeeI w L s g b (k + 1) W6 := hI6.next (by rw [hk1'.out, List.filterMap_append]; simp [hrow])
        subst hr1
        clear hf hrow
        gi_wp2_with fail
        rw [hD]
        exact ⟨hI7, hs6.out, hsame.out⟩
      | some en =>
        obtain ⟨i, hi, hgi⟩ := seenI_some hf
        have hri : r = (i : Int) := by rw [hr'.out]; exact hi
        subst hri
        have him : i < m := by rw [hm'.out]; exact (List.getElem?_eq_some_iff.1 hgi).1
        have himi : (i : Int) < (m : Int) := by omega
        have hi0 : 0 ≤ (i : Int) := by omega
        obtain ⟨tb, tof, hat⟩ := (hvr'.out.ext (hI6.ext)).at
        obtain ⟨rfl, hcc, hd⟩ := hat (by omega)
        have hrg := ens_range (by rw [← hm'.out]; exact hd) hgi
        have pk : W6.cell? ⟨tb, tof + i * 4, none⟩ = some (.string en.mark.key) := by have := hrg 0 (.string en.mark.key) rfl; simpa using this
        have pg : W6.cell? ⟨tb, tof + i * 4 + 2, none⟩ = some (.bool en.mark.gone) := hrg 2 (.bool en.mark.gone) rfl
        have pv : W6.cell? ⟨tb, tof + i * 4 + 3, none⟩ = some (.string en.val) := hrg 3 (.string en.val) rfl
        have hrow : seeG s gr = if en.mark.gone then none else some ⟨en.mark.key, en.val⟩ := by unfold seeG; rw [hf]
        clear hf hi hgi hat hd hrg
        cases hgn : en.mark.gone with
        | true =>
          rw [hgn] at hrow pg
          have hI7 : SeeI w L s g b (k + 1) W6 := hI6.next (by rw [hk1'.out, List.filterMap_append]; simp [hrow])
          clear hrow hgn
          gi_wp2_with fail
          rw [hD]
          exact ⟨hI7, hs6.out, hsame.out⟩
        | false =>
          rw [hgn] at hrow pg
          have hrow' := Lib.hid hrow
          clear hrow hgn
          obtain ⟨h1, h2, a6, N6, c6, h3, h4, h5⟩ := hI6
          have htb : tb < w.heap.size := by
            obtain ⟨tb2, tof2, hat2⟩ := hvr'.out.at
            obtain ⟨e2, _, hd2⟩ := hat2 (by omega)
            injection e2 with e2
            injection e2 with e2 e3
            rw [e2]
            have := hd2 0 (by omega)
            have hl : (gr.flatMap enL)[0]? ≠ none := by
              rw [← this]
              intro h
              have hlen := hvr'.out.1
              rw [this] at h
              have := List.getElem?_eq_none_iff.1 h
              omega
            obtain ⟨u, hu⟩ := Option.ne_none_iff_exists'.1 hl
            exact World.block_lt_of_cell? w _ (this.trans hu)
          have hb6 : b + 3 ≤ W6.heap.size := by have := hs6.out; rw [hD] at hsz; omega
          have hlen6 : N6 ≤ 1000000 := by
            rw [h3]
            refine Nat.le_trans (List.length_filterMap_le _ _) ?_
            rw [List.length_take]
            have := keyG_len L
            have := hnn'.out
            omega
          have hby : (N6 + 1) * 32 ≤ 140737488355328 := by omega
          have hn63 : N6 < 9223372036854775807 := by omega
          have h5' : OwnC W6.drew (b + 3) 74 2 (.slice a6 N6 c6) N6 ((((keyG L).take k).filterMap (seeG s)).flatMap rwL) := h5.ext (Ext.refl _).drew
          have hgg := hg'.out
          have hfin : Hid (∀ v' w8, AppE W6.drew w8 (b + 3) 74 2 (.slice a6 N6 c6) v' (N6 + 1) ((((keyG L).take k).filterMap (seeG s)).flatMap rwL ++ (rowR ⟨en.mark.key, en.val⟩).toList) → ∃ a8 c8, v' = .slice a8 (N6 + 1) c8 ∧ w8.cell? ⟨tb, tof + i * 4, none⟩ = some (.string en.mark.key) ∧ w8.cell? ⟨tb, tof + i * 4 + 3, none⟩ = some (.string en.val) ∧ w8.cell? ⟨g + 1, 0, none⟩ = some (.slice a6 N6 c6) ∧ w8.frozen? ⟨g + 1, 0, none⟩ = false ∧ kPost b w5.heap.size (SeeI w L s g b) k W .normal { tmps := #[], defers := [] } (w8.setCell ⟨g + 1, 0, none⟩ (.slice a8 (N6 + 1) c8))) := Lib.hid (fun v' w8 hA => by
            obtain ⟨a8, c8, rfl, _⟩ := hA.own.form
            have h48 : w8.heap[g + 1]? = some (.cells #[.slice a6 N6 c6] 26 (0, 0)) := (hA.below.block (g + 1) (by omega)).trans h4
            have h28 : w8.heap[g]? = some (.cells #[.int .u64 (s : Int)] 23 (0, 0)) := (hA.below.block g (by omega)).trans h2
            have hoff : OffB (fun z => z = g + 1) w8 (w8.setCell ⟨g + 1, 0, none⟩ (.slice a8 (N6 + 1) c8)) := OffB.setCell (B := fun z => z = g + 1) (OffB.refl w8) (p := ⟨g + 1, 0, none⟩) rfl _
            have hL : ((keyG L).take (k + 1)).filterMap (seeG s) = ((keyG L).take k).filterMap (seeG s) ++ [⟨en.mark.key, en.val⟩] := by rw [hk1'.out, List.filterMap_append]; simp [hrow'.out]
            have hsz8 := hA.below.size
            have hx8 : Ext w w8 := Below.trans h1.drew (Below.mono hA.below (by omega))
            refine ⟨a8, c8, rfl, (World.cell?_of_block (hA.below.block tb (by omega))).trans pk, (World.cell?_of_block (hA.below.block tb (by omega))).trans pv, by rw [cell_of_row _ _ _ _ 26 (0, 0) h48]; rfl, by unfold World.frozen?; rw [h48]; simp, ⟨?_, ?_, a8, N6 + 1, c8, ?_, ?_, ?_⟩, ?_, fun j hj => ?_⟩
            · exact Ext.setCell hx8 (p := ⟨g + 1, 0, none⟩) (by show w.heap.size ≤ g + 1; omega) _
            · rw [hoff.block g (Array.getElem?_eq_some_iff.1 h28).1 (by omega)]; exact h28
            · rw [hL, List.length_append, ← h3]; rfl
            · rw [setCell_eq_setRow _ _ _ _ _ _ _ h48, setRow_heap _ _ _ _ _ _ h48]; rfl
            · rw [hL, List.flatMap_append]
              refine OwnC.off ?_ hoff (fun q hq hB => by have := (hA.own.lt q hq).1; omega)
              have := hA.own
              simpa [rwL, rowR] using this
            · have e1 := hs6.out
              have e2 : W6.drew.heap.size = W6.heap.size := rfl
              have e3 := hoff.size
              omega
            · rw [hD] at hj
              have hlt : j < W6.heap.size := by rcases hj with hj | hj | hj <;> omega
              have e1 : j ≠ g + 1 := by rcases hj with hj | hj | hj <;> omega
              have e2 : j < b + 3 := by rcases hj with hj | hj | hj <;> omega
              rw [hoff.block j (by have : W6.drew.heap.size = W6.heap.size := rfl; omega) e1]
              exact (hA.below.block j e2).trans (hsame.out j hj))
          have hgt : g + 1 ≠ tb := by omega
          have h5'' := Lib.hid h5'
          have b6 : W6.cell? ⟨g + 1, 0, none⟩ = some (.slice a6 N6 c6) := by rw [cell_of_row _ _ _ _ 26 (0, 0) h4]; rfl
          clear hgg h3 h5 h5' h1 h2 h4
          gi_wp2_with fail
          refine wpIn_round_held (fun W => W.cell? ⟨tb, tof + i * 4, none⟩ = some (.string en.mark.key) ∧ W.cell? ⟨tb, tof + i * 4 + 3, none⟩ = some (.string en.val)) (by kernel_rfl) (by kernel_rfl) (fun _ _ h => h) ⟨pk, pv⟩ (fun hS => ?_)
          refine wpAnyH_take (i := 1) (v := ?_) rfl (by kernel_rfl) (by kernel_rfl) (by kernel_rfl) (fun _ _ _ h => h) (Or.inl ⟨by rfl, ?_⟩) (by assumption) ?_
          rotate_left 1
          · (intro w hSw; obtain ⟨s1, s2⟩ := hSw; go_simp; first | done | (with_reducible rfl))
          refine wpAnyH_take (i := 2) (v := ?_) rfl (by kernel_rfl) (by kernel_rfl) (by kernel_rfl) (fun _ _ _ h => h) (Or.inl ⟨by rfl, ?_⟩) (by assumption) ?_
          rotate_left 1
          · (intro w hSw; obtain ⟨s1, s2⟩ := hSw; go_simp; first | done | (with_reducible rfl))
          refine wpAnyH_take (i := 3) (v := ?_) rfl (by kernel_rfl) (by kernel_rfl) (by kernel_rfl) (fun _ _ _ h => h) (Or.inl ⟨by rfl, ?_⟩) (by assumption) ?_
          rotate_left 1
          · (intro w hSw; obtain ⟨s1, s2⟩ := hSw; go_simp; first | done | (with_reducible rfl))
          refine wpAnyH_take (i := 4) (v := ?_) rfl (by kernel_rfl) (by kernel_rfl) (by kernel_rfl) (fun _ _ _ h => h) (Or.inl ⟨by rfl, ?_⟩) (by assumption) ?_
          rotate_left 1
          · (intro w hSw; obtain ⟨s1, s2⟩ := hSw; go_simp; first | done | (with_reducible rfl))
          refine wpAnyH_take (i := 5) (v := ?_) rfl (by kernel_rfl) (by kernel_rfl) (by kernel_rfl) (fun _ _ _ h => h) (Or.inl ⟨by rfl, ?_⟩) (by assumption) ?_
          rotate_left 1
          · (intro w hSw; obtain ⟨s1, s2⟩ := hSw; go_simp; first | done | (with_reducible rfl))
          refine wpAnyH_take (i := 6) (v := ?_) rfl (by kernel_rfl) (by kernel_rfl) (by kernel_rfl) (fun _ _ _ h => h) (Or.inl ⟨by rfl, ?_⟩) (by assumption) ?_
          rotate_left 1
          · (intro w hSw; obtain ⟨s1, s2⟩ := hSw; go_simp; first | done | (with_reducible rfl))
          refine wpAnyH_take (i := 7) (v := ?_) rfl (by kernel_rfl) (by kernel_rfl) (by kernel_rfl) (fun _ _ _ h => h) (Or.inl ⟨by rfl, ?_⟩) (by assumption) ?_
          rotate_left 1
          · (intro w hSw; obtain ⟨s1, s2⟩ := hSw; go_simp; first | done | (with_reducible rfl))
          refine wpAnyH_take (i := 8) (v := ?_) rfl (by kernel_rfl) (by kernel_rfl) (by kernel_rfl) (fun _ _ _ h => h) (Or.inl ⟨by rfl, ?_⟩) (by assumption) ?_
          rotate_left 1
          · (intro w hSw; obtain ⟨s1, s2⟩ := hSw; go_simp; first | done | (with_reducible rfl))
          refine wpAnyH_take (i := 9) (v := ?_) rfl (by kernel_rfl) (by kernel_rfl) (by kernel_rfl) (fun _ _ _ h => h) (Or.inl ⟨by rfl, ?_⟩) (by assumption) ?_
          rotate_left 1
          · (intro w hSw; obtain ⟨s1, s2⟩ := hSw; go_simp; first | done | (with_reducible rfl))
          refine wpAnyH_take (i := 10) (v := ?_) rfl (by kernel_rfl) (by kernel_rfl) (by kernel_rfl) (fun _ _ _ h => h) (Or.inl ⟨by rfl, ?_⟩) (by assumption) ?_
          rotate_left 1
          · (intro w hSw; obtain ⟨s1, s2⟩ := hSw; go_simp; first | done | (with_reducible rfl))
          refine wpAnyH_take (i := 11) (v := ?_) rfl (by kernel_rfl) (by kernel_rfl) (by kernel_rfl) (fun _ _ _ h => h) (Or.inl ⟨by rfl, ?_⟩) (by assumption) ?_
          rotate_left 1
          · (intro w hSw; obtain ⟨s1, s2⟩ := hSw; go_simp; first | done | (with_reducible rfl))
          refine wpAnyH_take (i := 12) (v := ?_) rfl (by kernel_rfl) (by kernel_rfl) (by kernel_rfl) (fun _ _ _ h => h) (Or.inl ⟨by rfl, ?_⟩) (by assumption) ?_
          rotate_left 1
          · (intro w hSw; obtain ⟨s1, s2⟩ := hSw; go_simp; first | done | (with_reducible rfl))
          simp only [Act.put, List.setIfInBounds_toArray]
          refine wpAnyH_ready (rs := [0, 13]) (by kernel_rfl) (by simp) ?_
          refine AllReadyH.cons rfl (fun K hK => ?_) (AllReadyH.cons rfl (fun K hK => ?_) AllReadyH.nil)
          · go_simp
            refine hK.out _ _ ⟨pk, pv⟩ (fun _ => ?_)
            clear hK K
            refine wpAnyH_ready (rs := [13]) (by kernel_rfl) (by simp) ?_
            refine AllReadyH.cons rfl (fun K hK => ?_) AllReadyH.nil
            go_simp
            refine hK.out _ _ ⟨((Ext.refl W6.drew).alloc _).cell pk, ((Ext.refl W6.drew).alloc _).cell pv⟩ (fun _ => ?_)
            clear hK K
            refine wpAnyH_ready (rs := [14]) (by kernel_rfl) (by simp) ?_
            refine AllReadyH.cons rfl (fun K hK => ?_) AllReadyH.nil
            refine step_append_c (by rfl) (.tmp 28) (.tmp 41) 26 74 (by rfl) Tryz.underlying26 el_row W6.drew (b + 3) N6 _ (.slice a6 N6 c6) (by rfl) h5''.out (rowR ⟨en.mark.key, en.val⟩) (by rfl) (by rfl) (by simp [rowR, Value.oneCell']) hn63 hby hb6 ?_
            intro v' w8 hA8
            obtain ⟨a8, c8, rfl, q1, q2, q3, q4, q5⟩ := hfin.out v' w8 hA8
            refine hK.out _ _ ⟨q1, q2⟩ (fun _ => ?_)
            clear hK K hA8
            refine wpAnyH_ready (rs := [15]) (by kernel_rfl) (by simp) ?_
            refine AllReadyH.cons rfl (fun K hK => ?_) AllReadyH.nil
            go_simp
            refine hK.out _ _ ⟨(World.cell?_setCell_far _ _ _ _ hgt).trans q1, (World.cell?_setCell_far _ _ _ _ hgt).trans q2⟩ (fun _ => ?_)
            clear hK K
            refine wpAnyH_done (by kernel_rfl) ?_ _
            exact q5
          · go_simp
            refine hK.out _ _ ⟨((Ext.refl W6.drew).alloc _).cell pk, ((Ext.refl W6.drew).alloc _).cell pv⟩ (fun _ => ?_)
            clear hK K
            have b7 := ((Ext.refl W6).alloc (.cells #[.string en.mark.key, .string en.val] 74)).cell b6
            refine wpAnyH_ready (rs := [0]) (by kernel_rfl) (by simp) ?_
            refine AllReadyH.cons rfl (fun K hK => ?_) AllReadyH.nil
            go_simp
            refine hK.out _ _ ⟨((Ext.refl W6.drew).alloc _).cell pk, ((Ext.refl W6.drew).alloc _).cell pv⟩ (fun _ => ?_)
            clear hK K
            refine wpAnyH_ready (rs := [14]) (by kernel_rfl) (by simp) ?_
            refine AllReadyH.cons rfl (fun K hK => ?_) AllReadyH.nil
            refine step_append_c (by rfl) (.tmp 28) (.tmp 41) 26 74 (by rfl) Tryz.underlying26 el_row W6.drew (b + 3) N6 _ (.slice a6 N6 c6) (by rfl) h5''.out (rowR ⟨en.mark.key, en.val⟩) (by rfl) (by rfl) (by simp [rowR, Value.oneCell']) hn63 hby hb6 ?_
            intro v' w8 hA8
            obtain ⟨a8, c8, rfl, q1, q2, q3, q4, q5⟩ := hfin.out v' w8 hA8
            refine hK.out _ _ ⟨q1, q2⟩ (fun _ => ?_)
            clear hK K hA8
            refine wpAnyH_ready (rs := [15]) (by kernel_rfl) (by simp) ?_
            refine AllReadyH.cons rfl (fun K hK => ?_) AllReadyH.nil
            go_simp
            refine hK.out _ _ ⟨(World.cell?_setCell_far _ _ _ _ hgt).trans q1, (World.cell?_setCell_far _ _ _ _ hgt).trans q2⟩ (fun _ => ?_)
            clear hK K
            refine wpAnyH_done (by kernel_rfl) ?_ _
            exact q5
    case done =>
      intro W hI hK
      obtain ⟨h1, h2, a6, N6, c6, h3, h4, h5⟩ := hI
      rw [List.take_of_length_le (Nat.le_refl _)] at h3 h5
      have b6 : W.cell? ⟨g + 1, 0, none⟩ = some (.slice a6 N6 c6) := by rw [cell_of_row _ _ _ _ 26 (0, 0) h4]; rfl
      have z6 : W.frozen? ⟨g + 1, 0, none⟩ = false := by unfold World.frozen?; rw [h4]; simp
      have b7 : (W.setCell ⟨g + 1, 0, none⟩ (.slice a6 N6 c6)).cell? ⟨g + 1, 0, none⟩ = some (.slice a6 N6 c6) := World.cell?_setCell_same' _ _ _ (by rw [b6]; rfl)
      have hoff : OffB (fun z => z = g + 1) W (W.setCell ⟨g + 1, 0, none⟩ (.slice a6 N6 c6)) := OffB.setCell (B := fun z => z = g + 1) (OffB.refl W) (p := ⟨g + 1, 0, none⟩) rfl _
      have hK2 : (W.setCell ⟨g + 1, 0, none⟩ (.slice a6 N6 c6)).heap[w5.heap.size]? = some (.deferred (some [])) := (hoff.block _ (Array.getElem?_eq_some_iff.1 hK).1 (by omega)).trans hK
      obtain ⟨D, hDD⟩ : ∃ D, D = w5.heap.size := ⟨_, rfl⟩
      rw [← hDD] at hK2
      obtain ⟨W8, hW8⟩ : ∃ W8, W8 = (W.setCell ⟨g + 1, 0, none⟩ (.slice a6 N6 c6)).putObj D (.deferred none) := ⟨_, rfl⟩
      have hoff2 : OffB (fun z => z = g + 1 ∨ z = D) W W8 := by rw [hW8]; exact OffB.putObj (hoff.mono (fun z hz => .inl hz)) (.inr rfl) _
      have hgg := hg'.out
      have hE8 : Ext w W8 := Below.trans h1 (hoff2.below (base := w.heap.size) (fun z hz => by rcases hz with hz | hz <;> omega) h1.size)
      have hown8 : OwnC W8 w.heap.size 74 2 (.slice a6 N6 c6) N6 ((seeL L s).flatMap rwL) := OwnC.mono (h5.off hoff2 (fun q hq hB => by have := (h5.lt q hq).1; rcases hB with hB | hB <;> omega)) (by omega)
      have hN6 : N6 = (seeL L s).length := h3
      have b8 : W8.cell? ⟨g + 1, 0, none⟩ = some (.slice a6 N6 c6) := by rw [hW8]; exact (World.cell?_of_block (World.putObj_heap_other (by show g + 1 ≠ D; omega))).trans b7
      rw [hN6] at hown8
      have hown8' := Lib.hid hown8
      have hN6' := Lib.hid hN6
      have hW8' := Lib.hid hW8
      clear hgg h1 h2 h3 h4 h5 hown8 hN6 hW8 hI0 hB5 hs5 ho5
      go_wp2_with fail
      rw [← hDD]
      refine ⟨by simp, .inl ⟨_, _, rfl, run_takeDeferred hK2, ?_⟩⟩
      rw [← hW8'.out]
      refine ⟨.tuple #[.slice a6 N6 c6, .int .i64 0], by simp [results, Tryz.results8, go_sem, b8], hE8, fun h => (by rw [← hrb'.out] at h; cases h), fun _ => ⟨a6, c6, by rw [← hN6'.out], hown8'.out⟩⟩
end Go.Proofs.YtefllplgbalbkaaGreatDoor
