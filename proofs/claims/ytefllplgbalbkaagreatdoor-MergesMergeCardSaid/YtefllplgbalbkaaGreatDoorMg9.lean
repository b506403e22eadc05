/- Thin: the plain law; a row of counts. No condition. -/
import Derived.Test.YtefllplgbalbkaaGreatDoorMg6
import Derived.Test.YtefllplgbalbkaaGreatDoorMg4
import Derived.Deep.OwnRows
namespace Go.Proofs.YtefllplgbalbkaaGreatDoor
open Go.RowKit
set_option maxRecDepth 100000
def stayB (looks : List Nat) (g : List En) (i : Nat) : Bool := i == 0 || looks.any (fun s => seenI g s == (i : Int))
theorem stayB_snoc (ls : List Nat) (s : Nat) (g : List En) (i : Nat) : stayB (ls ++ [s]) g i = (stayB ls g i || seenI g s == (i : Int)) := by
  unfold stayB
  rw [List.any_append, List.any_cons, List.any_nil, Bool.or_false, Bool.or_assoc]
def stayP (looks : List Nat) (g : List En) (k : Nat) : List En := ((g.take k).zipIdx.filter (fun p => stayB looks g p.2)).map (·.1)
def stayL (looks : List Nat) (g : List En) : List En := stayP looks g g.length
def trimL (l : List En) : List En := (l.reverse.dropWhile (fun e => e.mark.gone)).reverse
def thinStep (looks : List Nat) (last : Bool) (out : List En) (g : List En) : List En := if last then trimL (out ++ stayL looks g) else out ++ stayL looks g
def thinK (looks : List Nat) (last : Bool) (gs : List (List En)) : List En := gs.foldl (thinStep looks last) []
def thinL (L : List En) (looks : List Nat) (last : Bool) : List En := thinK looks last (keyG L)
theorem thinK_snoc (looks : List Nat) (last : Bool) (gs : List (List En)) (g : List En) : thinK looks last (gs ++ [g]) = thinStep looks last (thinK looks last gs) g := by
  unfold thinK
  rw [List.foldl_append]
  rfl
theorem stayP_succ {looks : List Nat} {g : List En} {k : Nat} {x : En} (h : g[k]? = some x) : stayP looks g (k + 1) = if stayB looks g k then stayP looks g k ++ [x] else stayP looks g k := by
  unfold stayP
  have hk : k < g.length := (List.getElem?_eq_some_iff.1 h).1
  have ht : g.take (k + 1) = g.take k ++ [x] := by rw [List.take_add_one, h]; rfl
  rw [ht, List.zipIdx_append, List.filter_append, List.map_append, List.length_take, Nat.min_eq_left (by omega)]
  cases hb : stayB looks g k <;> simp [hb]
theorem trimL_snoc_gone {l : List En} {x : En} (h : x.mark.gone = true) : trimL (l ++ [x]) = trimL l := by
  unfold trimL
  rw [List.reverse_append, List.reverse_singleton, List.singleton_append, List.dropWhile_cons, if_pos h]
theorem trimL_snoc_here {l : List En} {x : En} (h : x.mark.gone = false) : trimL (l ++ [x]) = l ++ [x] := by
  unfold trimL
  rw [List.reverse_append, List.reverse_singleton, List.singleton_append, List.dropWhile_cons, if_neg (by rw [h]; decide)]
  simp
theorem trimL_nil : trimL [] = [] := rfl
theorem trimL_len (l : List En) : (trimL l).length ≤ l.length := by
  unfold trimL
  rw [List.length_reverse]
  have := (List.dropWhile_sublist (fun e : En => e.mark.gone) (l := l.reverse)).length_le
  rwa [List.length_reverse] at this
theorem stayP_len (looks : List Nat) (g : List En) (k : Nat) : (stayP looks g k).length ≤ g.length := by
  unfold stayP
  rw [List.length_map]
  refine Nat.le_trans (List.length_filter_le _ _) ?_
  rw [List.length_zipIdx, List.length_take]
  omega
theorem thinK_len (looks : List Nat) (last : Bool) (gs : List (List En)) : (thinK looks last gs).length ≤ gs.flatten.length := by
  have : ∀ (gs : List (List En)) (out : List En), (gs.foldl (thinStep looks last) out).length ≤ out.length + gs.flatten.length := by
    intro gs
    induction gs with
    | nil => intro out; simp
    | cons g gs ih =>
      intro out
      rw [List.foldl_cons, List.flatten_cons, List.length_append]
      have h1 := ih (thinStep looks last out g)
      have h2 : (thinStep looks last out g).length ≤ out.length + g.length := by
        unfold thinStep
        have h3 := stayP_len looks g g.length
        have h4 := trimL_len (out ++ stayL looks g)
        rw [List.length_append] at h4
        split
        · unfold stayL at h4 ⊢; omega
        · rw [List.length_append]; unfold stayL; omega
      omega
  have := this gs []
  simpa [thinK] using this
/-- A row of counts. -/
structure StAt (W : World) (q m : Nat) (c : Nat → Nat) : Prop where
  out : ∃ cur, W.heap[q]? = some (.cells cur 3 (0, 0)) ∧ cur.size = m ∧ ∀ i, i < m → cur[i]? = some (.int .i64 (c i : Int))
theorem StAt.cell {W : World} {q m : Nat} {c : Nat → Nat} (h : StAt W q m c) {i : Nat} (hi : i < m) : W.cell? ⟨q, i, none⟩ = some (.int .i64 (c i : Int)) ∧ W.frozen? ⟨q, i, none⟩ = false := by
  obtain ⟨cur, h1, h2, h3⟩ := h.out
  refine ⟨?_, by unfold World.frozen?; rw [h1]; simp⟩
  rw [cell_of_row _ _ i cur 3 (0, 0) h1]
  exact h3 i hi
theorem StAt.ext {W W' : World} {q m : Nat} {c : Nat → Nat} (h : StAt W q m c) (he : Ext W W') : StAt W' q m c := by
  obtain ⟨cur, h1, h2⟩ := h.out
  exact ⟨cur, he.row h1, h2⟩
theorem StAt.off {W W' : World} {q m : Nat} {c : Nat → Nat} {B : Nat → Prop} (h : StAt W q m c) (ho : OffB B W W') (hb : ¬ B q) : StAt W' q m c := by
  obtain ⟨cur, h1, h2⟩ := h.out
  exact ⟨cur, by rw [ho.block q (Array.getElem?_eq_some_iff.1 h1).1 hb]; exact h1, h2⟩
theorem StAt.lt {W : World} {q m : Nat} {c : Nat → Nat} (h : StAt W q m c) : q < W.heap.size := by
  obtain ⟨cur, h1, _⟩ := h.out
  exact (Array.getElem?_eq_some_iff.1 h1).1
theorem StAt.set {W : World} {q m : Nat} {c : Nat → Nat} (h : StAt W q m c) (i v : Nat) : StAt (W.setCell ⟨q, i, none⟩ (.int .i64 (v : Int))) q m (fun j => if j = i then v else c j) ∧ OffB (fun k => k = q) W (W.setCell ⟨q, i, none⟩ (.int .i64 (v : Int))) := by
  obtain ⟨cur, h1, h2, h3⟩ := h.out
  have hs' := setCell_eq_setRow W q i cur 3 (0, 0) (.int .i64 (v : Int)) h1
  refine ⟨⟨cur.setIfInBounds i (.int .i64 (v : Int)), ?_, by rw [Array.size_setIfInBounds]; exact h2, fun j hj => ?_⟩, OffB.setCell (B := fun k => k = q) (OffB.refl W) (p := ⟨q, i, none⟩) rfl _⟩
  · rw [hs', setRow_heap _ _ _ _ _ _ h1]
  · rw [Array.getElem?_setIfInBounds]
    by_cases hij : i = j
    · subst hij
      rw [if_pos rfl, if_pos (by omega), if_pos rfl]
    · rw [if_neg hij, if_neg (fun e => hij e.symm)]
      exact h3 j hj
theorem StAt.made (W : World) (m : Nat) : StAt (W.alloc (.cells (madeCells #[.int .i64 0] m) 3)) W.heap.size m (fun _ => 0) := by
  refine ⟨_, heap_alloc_new W _, ?_, fun i hi => ?_⟩
  · rw [← Array.length_toList, toList_madeCells_one, List.length_replicate]
  · rw [← Array.getElem?_toList, toList_madeCells_one, List.getElem?_replicate, if_pos hi]
    rfl
theorem StAt.own {W : World} {q m : Nat} {c : Nat → Nat} (h : StAt W q m c) {base : Nat} (hb : base ≤ q) (hm : m ≤ 1000000) : ∃ xs, OwnC W base 3 1 (.slice (some ⟨q, 0, none⟩) m m) m xs := by
  obtain ⟨cur, h1, h2, h3⟩ := h.out
  exact ⟨cur.toList, by simp [h2], .inr ⟨q, m, cur, rfl, hb, h1, Nat.le_refl _, by unfold maxLen; omega, by omega, by rw [Nat.mul_one, ← h2, ← Array.length_toList, List.take_length]⟩⟩
theorem app_keep {w w' : World} {base : Nat} {e : TypeId} {size : Nat} {v v' : Value} {n : Nat} {xs : List Value} (h : AppE w w' base e size v v' n xs) {q m : Nat} {c : Nat → Nat} (hst : StAt w q m c) (hm : m ≤ 1000000) (hne : ∀ p, v.ownBlock = some p → p ≠ q) : StAt w' q m c ∧ ∀ p, v'.ownBlock = some p → p ≠ q := by
  refine ⟨hst.off (OffB.of_grown h.grown) (fun e => hne q e.symm rfl), fun p hp hpq => ?_⟩
  obtain ⟨ys, hy⟩ := hst.own (Nat.le_refl q) hm
  have := (h.keep _ _ _ _ _ _ hy (fun p hp h2 => hne p hp (by injection h2 with h2; exact h2.symm))).2 p hp
  exact this (by rw [hpq]; rfl)
theorem OwnC.cut {w : World} {base : Nat} {e : TypeId} {size : Nat} {a : Option Addr} {n cap m : Nat} {xs : List Value} (h : OwnC w base e size (.slice a n cap) n xs) (hm : m ≤ n) : OwnC w base e size (.slice a m cap) m (xs.take (m * size)) := by
  obtain ⟨hl, ⟨e0, hn⟩ | ⟨g, cap', cur, e0, h2, h3, h4, h5, h6, h7⟩⟩ := h
  · obtain rfl : m = 0 := by omega
    subst hn
    exact ⟨by simp, .inl ⟨e0, rfl⟩⟩
  · injection e0 with e1 e2 e3
    subst e1 e3
    have hms : m * size ≤ n * size := Nat.mul_le_mul_right _ hm
    refine ⟨by rw [List.length_take, hl]; omega, .inr ⟨g, cap, cur, rfl, h2, h3, by omega, h5, by omega, ?_⟩⟩
    rw [← h7, List.take_take, Nat.min_eq_left hms]
theorem info_int : (Tryz.prog.info? 3).map (fun i => (i.zero, i.size, i.bytes)) = some (some (.int .i64 0), 1, 8) := by kernel_rfl
theorem make_ints (m : Nat) (hm : m ≤ 1000000) (w : World) : (Instr.makeSlice 77 (.int .i64 (m : Int)) (.int .i64 (m : Int))).run Tryz.prog w = .ok (.slice (some ⟨w.heap.size, 0, none⟩) m m) (w.alloc (.cells (madeCells #[.int .i64 0] m) 3)) :=
  run_make_row' 77 3 (.int .i64 0) 8 Tryz.underlying77 info_int rfl .i64 .i64 m (by omega) (by omega) w
end Go.Proofs.YtefllplgbalbkaaGreatDoor
