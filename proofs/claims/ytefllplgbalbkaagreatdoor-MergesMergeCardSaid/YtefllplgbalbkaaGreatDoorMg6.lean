/- keys: an iterator over the entries of each key: its contract. No condition. -/
import Derived.RangeFuncNested
import Derived.RangeFuncBound
import Derived.RangeFuncCalls
import Derived.RangeFuncLeaves
import Derived.Shelf.RegionOpen
import Derived.OwnWalkIn
import Derived.TacticsInMore
import Derived.LoopNIn
import Derived.LoopIn
import Derived.Test.YtefllplgbalbkaaGreatDoorMg5
import Derived.Test.YtefllplgbalbkaaGreatDoorOff
namespace Go.Proofs.YtefllplgbalbkaaGreatDoor
open Go.RowKit
set_option maxRecDepth 100000
set_option maxHeartbeats 2000000
def sk (x y : En) : Bool := y.mark.key.toList == x.mark.key.toList
/-- The entries of each key. -/
def keyG : List En → List (List En)
  | [] => []
  | x :: l => (x :: l.takeWhile (sk x)) :: keyG (l.dropWhile (sk x))
termination_by l => l.length
decreasing_by
  have := (List.dropWhile_sublist (sk x) (l := l)).length_le
  simp only [List.length_cons]
  omega
theorem keyG_nil : keyG [] = [] := by rw [keyG]
theorem keyG_cons (x : En) (l : List En) : keyG (x :: l) = (x :: l.takeWhile (sk x)) :: keyG (l.dropWhile (sk x)) := by rw [keyG]
theorem keyG_flat (l : List En) : (keyG l).flatten = l := by
  induction l using keyG.induct with
  | case1 => rw [keyG_nil]; rfl
  | case2 x l ih => rw [keyG_cons, List.flatten_cons, ih, List.cons_append, List.takeWhile_append_dropWhile]
theorem keyG_ne {l : List En} {g : List En} (h : g ∈ keyG l) : g ≠ [] := by
  induction l using keyG.induct with
  | case1 => rw [keyG_nil] at h; cases h
  | case2 x l ih =>
    rw [keyG_cons] at h
    rcases List.mem_cons.1 h with rfl | h
    · simp
    · exact ih h
theorem tw_len {p : En → Bool} : ∀ (l : List En) (j : Nat), (∀ i x, i < j → l[i]? = some x → p x = true) → j ≤ l.length → (∀ x, l[j]? = some x → p x = false) → l.takeWhile p = l.take j ∧ l.dropWhile p = l.drop j
  | [], j, _, hj, _ => by simp at hj; subst hj; exact ⟨rfl, rfl⟩
  | x :: l, 0, _, _, h => by
    have h0 := h x rfl
    rw [List.takeWhile_cons, List.dropWhile_cons, h0]
    exact ⟨rfl, rfl⟩
  | x :: l, j + 1, h1, hj, h2 => by
    have h0 := h1 0 x (by omega) rfl
    obtain ⟨e1, e2⟩ := tw_len l j (fun i y hi hy => h1 (i + 1) y (by omega) hy) (by simpa using hj) (fun y hy => h2 y hy)
    rw [List.takeWhile_cons, List.dropWhile_cons, h0, if_pos rfl, if_pos rfl, e1, e2]
    exact ⟨rfl, rfl⟩
/-- A slice of entries. -/
def SlIs (w : World) (v : Value) (g : List En) : Prop := ∃ a cap, v = .slice a g.length cap ∧ RowIs w 4 v g.length (g.flatMap enL)
theorem SlIs.ext {w w' : World} {v : Value} {g : List En} (h : SlIs w v g) (he : Ext w w') : SlIs w' v g := by
  obtain ⟨a, c, h1, h2⟩ := h
  exact ⟨a, c, h1, h2.ext he⟩
theorem flat_take (l : List En) (k : Nat) : (l.flatMap enL).take (k * 4) = (l.take k).flatMap enL := by
  induction l generalizing k with
  | nil => simp
  | cons x l ih =>
    cases k with
    | zero => simp
    | succ k =>
      rw [List.flatMap_cons, List.take_succ_cons, List.flatMap_cons, ← ih k, List.take_append]
      have : (enL x).length = 4 := rfl
      rw [this, show (k + 1) * 4 - 4 = k * 4 by omega, List.take_of_length_le (by rw [this]; omega)]
theorem flat_drop (l : List En) (k : Nat) : (l.flatMap enL).drop (k * 4) = (l.drop k).flatMap enL := by
  induction l generalizing k with
  | nil => simp
  | cons x l ih =>
    cases k with
    | zero => simp
    | succ k =>
      rw [List.flatMap_cons, List.drop_succ_cons, ← ih k, List.drop_append]
      have : (enL x).length = 4 := rfl
      rw [this, show (k + 1) * 4 - 4 = k * 4 by omega, List.drop_of_length_le (by rw [this]; omega)]
      rfl
theorem SlIs.take {w : World} {a : Option Addr} {n cap : Nat} {g : List En} (h : SlIs w (.slice a n cap) g) (hn : n = g.length) {j : Nat} (hj : j ≤ n) : SlIs w (.slice a j cap) (g.take j) := by
  obtain ⟨a', c', e, h2⟩ := h
  injection e with e1 e2 e3
  subst e1 e3
  rw [← hn] at h2
  have hl : (g.take j).length = j := by rw [List.length_take]; omega
  refine ⟨a, cap, by rw [hl], ?_⟩
  have := h2.take hj
  rw [flat_take] at this
  rw [hl]; exact this
theorem SlIs.drop {w : World} {a : Option Addr} {n cap : Nat} {g : List En} (h : SlIs w (.slice a n cap) g) (hn : n = g.length) (j : Nat) : SlIs w (.slice (tailAddr a cap j 4) (n - j) (cap - j)) (g.drop j) := by
  obtain ⟨a', c', e, h2⟩ := h
  injection e with e1 e2 e3
  subst e1 e3
  rw [← hn] at h2
  have hl : (g.drop j).length = n - j := by rw [List.length_drop]; omega
  refine ⟨tailAddr a cap j 4, cap - j, by rw [hl], ?_⟩
  have := h2.drop j
  rw [flat_drop] at this
  rw [hl]; exact this
theorem grp_of {x : En} {t : List En} {j : Nat} (hj1 : 1 ≤ j) (hj : j ≤ (x :: t).length) (h : ∀ i y, i < j → (x :: t)[i]? = some y → sk x y = true) (h2 : ∀ y, (x :: t)[j]? = some y → sk x y = false) : keyG (x :: t) = (x :: t).take j :: keyG ((x :: t).drop j) := by
  obtain ⟨i, rfl⟩ : ∃ i, j = i + 1 := ⟨j - 1, by omega⟩
  obtain ⟨e1, e2⟩ := tw_len (p := sk x) t i (fun a y ha hy => h (a + 1) y (by omega) hy) (by simpa using hj) (fun y hy => h2 y hy)
  rw [keyG_cons, e1, e2]
  rfl
theorem tail_some (b o cap k : Nat) : tailAddr (some ⟨b, o, none⟩) cap k 4 = if cap = k then some ⟨b, o, none⟩ else some ⟨b, o + k * 4, none⟩ := by
  unfold tailAddr
  split <;> simp [Addr.add]
def lenAt (w : World) (b : Nat) : Nat := match w.cell? ⟨b, 0, none⟩ with
  | some (.slice _ n _) => n
  | _ => 0
theorem keys_any (w : World) (a : Option Addr) (n cap : Nat) : Calls Tryz.prog 29 #[.slice a n cap] w fun e w' => e = .returned (.func (.func 80) #[] #[.pointer (some ⟨w.heap.size, 0, none⟩)]) ∧ w' = w.alloc (.cells #[.slice a n cap] 22) := by
  go_enter Tryz.func29, Tryz.ntmps29
  go_wp2_with fail
  go_ret
  exact ⟨rfl, rfl⟩
def KeyE (J : Nat → World → Prop) (G : Nat) (e : Ending) (w' : World) : Prop := (∃ v, e = .returned v) ∧ J G w'
theorem keys1_in (n l b : Nat) (L : List En) (w0 : World) (J : Nat → World → Prop) (hJe : ∀ k W, J k W → Ext w0 W) (hJo : ∀ k W W', J k W → OffB (fun j => j = b) W W' → J k W')
    (hY : ∀ k g W v, (keyG L)[k]? = some g → J k W → SlIs w0 v g → YieldAt Fence.wide (n - 1) Tryz.prog l #[v] W fun e W' => e = .returned (.bool true) ∧ J (k + 1) W' ∧ W'.heap[b]? = W.heap[b]?)
    (W : World) (la : Option Addr) (lc : Nat) (hB : W.heap[b]? = some (.cells #[.slice la L.length lc] 22 (0, 0))) (hR : SlIs w0 (.slice la L.length lc) L) (h0 : J 0 W) :
    Calls Tryz.prog 80 #[.func (.yield l) #[] #[], .pointer (some ⟨b, 0, none⟩)] W (KeyE J (keyG L).length) := by
  go_enter Tryz.func80, Tryz.ntmps80
  go_wp2_with fail
  go_loopw [3] (fun _ wr => ∃ (k rn : Nat) (ra : Option Addr) (rc : Nat) (r : List En) (done : List (List En)), rn ≤ L.length ∧ Hid (keyG L = done ++ keyG r) ∧ Hid (done.length = k) ∧ Hid (rn = r.length) ∧ wr.heap[b]? = some (.cells #[.slice ra rn rc] 22 (0, 0)) ∧ Hid (SlIs w0 (.slice ra rn rc) r) ∧ J k wr) (fun _ wr => lenAt wr b)
  case atStart => exact ⟨0, L.length, la, lc, L, [], Nat.le_refl _, Lib.hid rfl, Lib.hid rfl, Lib.hid rfl, hB, Lib.hid hR, h0⟩
  case round =>
    obtain ⟨k, rn, ra, rc, r, done, hrn, hG, hk, hr, hBr, hRr, hJ⟩ := hrel
    have c0 := cell_of_row _ _ 0 _ 22 (0, 0) hBr
    simp only [List.getElem?_toArray, List.getElem?_cons_zero] at c0
    have z0 : wr.frozen? ⟨b, 0, none⟩ = false := by unfold World.frozen?; rw [hBr]; simp
    cases r with
    | nil =>
      have hr0 := hr.out
      simp only [List.length_nil] at hr0
      subst hr0
      have hend : Hid ((keyG L).length = k) := Lib.hid (by rw [hG.out, keyG_nil, List.append_nil, hk.out])
      go_wp2_with fail
      go_end0
      exact ⟨⟨_, rfl⟩, by rw [hend.out]; exact hJ⟩
    | cons x t =>
      have hrp : 0 < rn := by rw [hr.out]; simp
      have hrpi : (0 : Int) < (rn : Int) := by omega
      obtain ⟨W1, hW1⟩ : ∃ W1, W1 = wr := ⟨_, rfl⟩
      subst hW1
      go_upto_region 2 with fail
      go_loopw [3] (fun m wq => ∃ j : Nat, 1 ≤ j ∧ j ≤ rn ∧ m = .int .i64 j ∧ Hid (∀ i y, i < j → (x :: t)[i]? = some y → sk x y = true) ∧ Ext W1 wq) (fun m _ => rn - (intOf m).toNat)
      case atStart => exact ⟨1, by omega, hrp, rfl, Lib.hid (fun i y hi hy => by
        obtain rfl : i = 0 := by omega
        rw [List.getElem?_cons_zero] at hy
        injection hy with hy
        rw [← hy]
        unfold sk
        simp), Ext.refl _⟩
      case round =>
        obtain ⟨j, hj1, hj, rfl, hall, hEq⟩ := hrel
        obtain ⟨W2, hW2⟩ : ∃ W2, W2 = wr := ⟨_, rfl⟩
        subst hW2
        have c2 := hEq.cell c0
        have hS2 := hRr.out.ext ((hJe k W1 hJ).trans hEq)
        obtain ⟨sa, sc, hse, hsr⟩ := hS2
        rw [← hr.out] at hse hsr
        injection hse with e1 e2 e3
        subst e1 e3
        have hmx := hsr.2.1
        obtain ⟨tb, tof, hat⟩ := hsr.at
        obtain ⟨rfl, hcc, hd⟩ := hat hrp
        have hx := ens_range (by rw [← hr.out]; exact hd) (k := 0) (x := x) rfl
        have p0 : W2.cell? ⟨tb, tof, none⟩ = some (.string x.mark.key) := by have := hx 0 (.string x.mark.key) rfl; simpa using this
        by_cases hlt : j < rn
        · have hlti : (j : Int) < (rn : Int) := by omega
          have hltd : decide ((j : Int) < (rn : Int)) = true := decide_eq_true hlti
          obtain ⟨y, hy⟩ : ∃ y, (x :: t)[j]? = some y := ⟨_, List.getElem?_eq_getElem (by rw [← hr.out]; exact hlt)⟩
          have hyr := ens_range (by rw [← hr.out]; exact hd) hy
          have pj : W2.cell? ⟨tb, tof + j * 4, none⟩ = some (.string y.mark.key) := by have := hyr 0 (.string y.mark.key) rfl; simpa using this
          have hy' := Lib.hid hy
          clear hx hyr hat hd hsr hy
          go_upto_region 2 with fail
          refine bqRegion (Ext W2) (by kernel_rfl) (by kernel_rfl) (Ext.refl _).drew ?_
          iterate 1 (refine bqStep (fun K hK => ?_); go_simp; first | (refine hK _ ?_; clear hK K) | (refine ⟨_, fun _ _ => rfl, hK _ ?_⟩; clear hK K))
          refine bqCell (by rfl) 22 _ (by rfl) b (0) (by rfl) _ (fun w' hw => hw.cell c2) _ Tryz.underlying22 rfl ?_
          simp only [Act.put, List.setIfInBounds_toArray, List.set_cons_zero, List.set_cons_succ]
          iterate 3 (refine bqStep (fun K hK => ?_); go_simp; first | (refine hK _ ?_; clear hK K) | (refine ⟨_, fun _ _ => rfl, hK _ ?_⟩; clear hK K))
          refine bqCell (by rfl) 22 _ (by rfl) b (0) (by rfl) _ (fun w' hw => hw.cell c2) _ Tryz.underlying22 rfl ?_
          simp only [Act.put, List.setIfInBounds_toArray, List.set_cons_zero, List.set_cons_succ]
          iterate 4 (refine bqStep (fun K hK => ?_); go_simp; first | (refine hK _ ?_; clear hK K) | (refine ⟨_, fun _ _ => rfl, hK _ ?_⟩; clear hK K))
          refine bqCell (by rfl) 9 _ (by rfl) tb (tof + j * 4) (by rfl) _ (fun w' hw => hw.cell pj) _ Tryz.underlying9 rfl ?_
          simp only [Act.put, List.setIfInBounds_toArray, List.set_cons_zero, List.set_cons_succ]
          refine bqCell (by rfl) 22 _ (by rfl) b (0) (by rfl) _ (fun w' hw => hw.cell c2) _ Tryz.underlying22 rfl ?_
          simp only [Act.put, List.setIfInBounds_toArray, List.set_cons_zero, List.set_cons_succ]
          iterate 3 (refine bqStep (fun K hK => ?_); go_simp; first | (refine hK _ ?_; clear hK K) | (refine ⟨_, fun _ _ => rfl, hK _ ?_⟩; clear hK K))
          refine bqCell (by rfl) 9 _ (by rfl) tb (tof) (by rfl) _ (fun w' hw => hw.cell p0) _ Tryz.underlying9 rfl ?_
          simp only [Act.put, List.setIfInBounds_toArray, List.set_cons_zero, List.set_cons_succ]
          iterate 2 (refine bqStep (fun K hK => ?_); go_simp; first | (refine hK _ ?_; clear hK K) | (refine ⟨_, fun _ _ => rfl, hK _ ?_⟩; clear hK K))
          refine bqNil (fun w5 hE5 => ?_)
          try simp only [Act.put, List.setIfInBounds_toArray, List.set_cons_zero, List.set_cons_succ]
          cases hB : (y.mark.key.toList == x.mark.key.toList) with
          | true =>
            have hB' := Lib.hid hB
            clear hB
            go_wp2_with fail
            go_roundw
            case rel => exact ⟨j + 1, by omega, by omega, by go_num, Lib.hid (fun i z hi hz => by
              by_cases hij : i < j
              · exact hall.out i z hij hz
              · obtain rfl : i = j := by omega
                rw [hy'.out] at hz
                injection hz with hz
                rw [← hz]
                exact hB'.out), hEq.trans hE5⟩
            case measure => simp [intOf]; omega
          | false =>
            have hgrp : Hid (keyG (x :: t) = (x :: t).take j :: keyG ((x :: t).drop j)) := Lib.hid (grp_of hj1 (by rw [← hr.out]; exact hj) hall.out (fun z hz => by rw [hy'.out] at hz; injection hz with hz; rw [← hz]; exact hB))
            have hgi : Hid ((keyG L)[k]? = some ((x :: t).take j)) := Lib.hid (by rw [hG.out, hgrp.out, List.getElem?_append_right (by rw [hk.out]; omega), hk.out]; simp)
            clear hB pj hltd
            have hE6 := hEq.trans hE5
            have hJ5 := hJo k W1 w5 hJ (OffB.of_ext hE6)
            have c5 := hE6.cell c0
            have hB5 := hE6.row hBr
            have z5 : w5.frozen? ⟨b, 0, none⟩ = false := by unfold World.frozen?; rw [hB5]; simp
            have hji : (j : Int) ≤ (rn : Int) := by omega
            have hj0 : (0 : Int) ≤ (j : Int) := by omega
            have hjrc : (j : Int) ≤ (rc : Int) := by omega
            have hst := hRr.out.take hr.out hj
            obtain ⟨fn, tmps, assign, body, hy, hRd⟩ := hY k _ w5 _ hgi.out hJ5 hst
            have hRd' := Lib.hid hRd
            clear hRd hst hJ5 p0 c2
            go_upto_region 4 with fail
            refine (wpIn_wide (n := n)).1 ?_
            gi_wp2
            refine ⟨fun h => (by cases h), hRd'.out.mono ?_⟩
            clear hRd' hy
            rintro e w7 ⟨rfl, hJ7, hB7⟩
            have hB8 := hB7.trans hB5
            have c8 := cell_of_row _ _ 0 _ 22 (0, 0) hB8
            have c8' : w7.cell? ⟨b, 0, none⟩ = some (.slice (some ⟨tb, tof, none⟩) rn rc) := c8
            have z8 : w7.frozen? ⟨b, 0, none⟩ = false := by unfold World.frozen?; rw [hB8]; simp
            have hJ7' := Lib.hid hJ7
            have hB8' := Lib.hid hB8
            clear c8 hB7 hB8 hJ7 c5 z5 hB5
            gi_wp2
            go_wp2_with fail
            have hdp := hRr.out.drop hr.out j
            rw [tail_some] at hdp
            have hn1 : lenAt W1 b = rn := by unfold lenAt; rw [c0]
            have hn2 : ∀ v, (w7.setCell ⟨b, 0, none⟩ v).cell? ⟨b, 0, none⟩ = some v := fun v => World.cell?_setCell_same' _ _ _ (by rw [c8']; rfl)
            constructor
            · exact ⟨k + 1, rn - j, _, rc - j, (x :: t).drop j, done ++ [(x :: t).take j], by omega, Lib.hid (by rw [hG.out, hgrp.out, List.append_assoc]; rfl), Lib.hid (by rw [List.length_append, hk.out]; rfl), Lib.hid (by rw [List.length_drop, hr.out]), (by rw [setCell_eq_setRow _ _ _ _ _ _ _ hB8'.out, setRow_heap _ _ _ _ _ _ hB8'.out]; rfl), Lib.hid (by rw [if_neg (by omega)] at hdp; exact hdp), hJo _ _ _ hJ7'.out (OffB.setCell (B := fun j => j = b) (OffB.refl w7) (p := ⟨b, 0, none⟩) rfl _)⟩
            · rw [hn1]
              unfold lenAt
              rw [hn2]
              show rn - j < rn
              omega
        · have hlti : ¬ (j : Int) < (rn : Int) := by omega
          have hltd : decide ((j : Int) < (rn : Int)) = false := decide_eq_false hlti
          clear hx hat hd hsr
          go_upto_region 2 with fail
          refine bqRegion (Ext W2) (by kernel_rfl) (by kernel_rfl) (Ext.refl _).drew ?_
          iterate 1 (refine bqStep (fun K hK => ?_); go_simp; first | (refine hK _ ?_; clear hK K) | (refine ⟨_, fun _ _ => rfl, hK _ ?_⟩; clear hK K))
          refine bqCell (by rfl) 22 _ (by rfl) b (0) (by rfl) _ (fun w' hw => hw.cell c2) _ Tryz.underlying22 rfl ?_
          simp only [Act.put, List.setIfInBounds_toArray, List.set_cons_zero, List.set_cons_succ]
          iterate 3 (refine bqStep (fun K hK => ?_); go_simp; first | (refine hK _ ?_; clear hK K) | (refine ⟨_, fun _ _ => rfl, hK _ ?_⟩; clear hK K))
          iterate 12 (refine bqSkip (by rfl) ?_; simp only [Act.put, List.setIfInBounds_toArray, List.set_cons_zero, List.set_cons_succ])
          iterate 1 (refine bqStep (fun K hK => ?_); go_simp; first | (refine hK _ ?_; clear hK K) | (refine ⟨_, fun _ _ => rfl, hK _ ?_⟩; clear hK K))
          refine bqNil (fun w5 hE5 => ?_)
          try simp only [Act.put, List.setIfInBounds_toArray, List.set_cons_zero, List.set_cons_succ]
          have hjr : j = rn := by omega
          have hgrp : Hid (keyG (x :: t) = (x :: t).take j :: keyG ((x :: t).drop j)) := Lib.hid (grp_of hj1 (by rw [← hr.out]; exact hj) hall.out (fun z hz => absurd (List.getElem?_eq_some_iff.1 hz).1 (by rw [← hr.out]; exact hlt)))
          have hgi : Hid ((keyG L)[k]? = some ((x :: t).take j)) := Lib.hid (by rw [hG.out, hgrp.out, List.getElem?_append_right (by rw [hk.out]; omega), hk.out]; simp)
          clear hltd hjr
          have hE6 := hEq.trans hE5
          have hJ5 := hJo k W1 w5 hJ (OffB.of_ext hE6)
          have c5 := hE6.cell c0
          have hB5 := hE6.row hBr
          have z5 : w5.frozen? ⟨b, 0, none⟩ = false := by unfold World.frozen?; rw [hB5]; simp
          have hji : (j : Int) ≤ (rn : Int) := by omega
          have hj0 : (0 : Int) ≤ (j : Int) := by omega
          have hjrc : (j : Int) ≤ (rc : Int) := by omega
          have hst := hRr.out.take hr.out hj
          obtain ⟨fn, tmps, assign, body, hy, hRd⟩ := hY k _ w5 _ hgi.out hJ5 hst
          have hRd' := Lib.hid hRd
          clear hRd hst hJ5 p0 c2
          go_upto_region 4 with fail
          refine (wpIn_wide (n := n)).1 ?_
          gi_wp2
          refine ⟨fun h => (by cases h), hRd'.out.mono ?_⟩
          clear hRd' hy
          rintro e w7 ⟨rfl, hJ7, hB7⟩
          have hB8 := hB7.trans hB5
          have c8 := cell_of_row _ _ 0 _ 22 (0, 0) hB8
          have c8' : w7.cell? ⟨b, 0, none⟩ = some (.slice (some ⟨tb, tof, none⟩) rn rc) := c8
          have z8 : w7.frozen? ⟨b, 0, none⟩ = false := by unfold World.frozen?; rw [hB8]; simp
          have hJ7' := Lib.hid hJ7
          have hB8' := Lib.hid hB8
          clear c8 hB7 hB8 hJ7 c5 z5 hB5
          gi_wp2
          go_wp2_with fail
          have hdp := hRr.out.drop hr.out j
          rw [tail_some] at hdp
          have hn1 : lenAt W1 b = rn := by unfold lenAt; rw [c0]
          have hn2 : ∀ v, (w7.setCell ⟨b, 0, none⟩ v).cell? ⟨b, 0, none⟩ = some v := fun v => World.cell?_setCell_same' _ _ _ (by rw [c8']; rfl)
          constructor
          · exact ⟨k + 1, rn - j, _, rc - j, (x :: t).drop j, done ++ [(x :: t).take j], by omega, Lib.hid (by rw [hG.out, hgrp.out, List.append_assoc]; rfl), Lib.hid (by rw [List.length_append, hk.out]; rfl), Lib.hid (by rw [List.length_drop, hr.out]), (by rw [setCell_eq_setRow _ _ _ _ _ _ _ hB8'.out, setRow_heap _ _ _ _ _ _ hB8'.out]; rfl), Lib.hid (hdp), hJo _ _ _ hJ7'.out (OffB.setCell (B := fun j => j = b) (OffB.refl w7) (p := ⟨b, 0, none⟩) rfl _)⟩
          · rw [hn1]
            unfold lenAt
            rw [hn2]
            show rn - j < rn
            omega
end Go.Proofs.YtefllplgbalbkaaGreatDoor
