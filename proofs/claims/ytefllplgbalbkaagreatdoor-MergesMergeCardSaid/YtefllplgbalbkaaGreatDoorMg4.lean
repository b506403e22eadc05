/- Merge told. No condition. -/
import Derived.Test.YtefllplgbalbkaaGreatDoorMg3
namespace Go.Proofs.YtefllplgbalbkaaGreatDoor
open Go.RowKit
set_option maxRecDepth 100000
set_option maxHeartbeats 4000000
theorem OwnC.off {w w' : World} {base : Nat} {e : TypeId} {size : Nat} {v : Value} {n : Nat} {xs : List Value} {B : Nat → Prop} (h : OwnC w base e size v n xs) (ho : OffB B w w') (hb : ∀ q, v.ownBlock = some q → ¬ B q) : OwnC w' base e size v n xs := by
  obtain ⟨hl, h | ⟨g, cap, cur, rfl, h2, h3, h4⟩⟩ := h
  · exact ⟨hl, .inl h⟩
  · refine ⟨hl, .inr ⟨g, cap, cur, rfl, h2, ?_, h4⟩⟩
    rw [ho.block g (Array.getElem?_eq_some_iff.1 h3).1 (hb g rfl)]; exact h3
theorem OffB.of_grown {w w' : World} {row : Option Nat} (h : w.grownBy w' row) : OffB (fun k => some k = row) w w' := ⟨h.os, h.tape, h.output, h.size, fun k hk hn => h.block k hk hn⟩
theorem el_sl : ElemIs Tryz.prog 22 1 24 := by
  refine ElemIs.mk (z := .slice none 0 0) (by kernel_rfl) (by rfl) (by decide)
/-- A list of entries in memory. -/
def LsOk (w : World) (p : Ls) : Prop := ∃ a cap, p.1 = .slice a p.2.length cap ∧ RowIs w 4 p.1 p.2.length (p.2.flatMap enL)
theorem LsOk.el {w : World} {p : Ls} (h : LsOk w p) (hp : 0 < p.2.length) : ElOk w p := ⟨h, hp⟩
def neL (ls : List Ls) : List Ls := ls.filter fun p => decide (0 < p.2.length)
theorem neL_snoc (ls : List Ls) (p : Ls) : neL (ls ++ [p]) = if 0 < p.2.length then neL ls ++ [p] else neL ls := by
  unfold neL
  rw [List.filter_append]
  by_cases h : 0 < p.2.length <;> simp [h]
theorem flat_neL (ls : List Ls) : flatH (neL ls) = (ls.map (·.2)).flatten := by
  unfold flatH neL
  induction ls with
  | nil => rfl
  | cons p ls ih =>
    rw [List.filter_cons]
    by_cases h : 0 < p.2.length
    · rw [if_pos (by simpa using h), List.flatMap_cons, ih]; rfl
    · have h0 : p.2 = [] := List.eq_nil_of_length_eq_zero (by omega)
      rw [if_neg (by simpa using h), ih, List.map_cons, List.flatten_cons, h0]; rfl
def lenOf : Value → Nat
  | .slice _ n _ => n
  | _ => 0
def MergeE (w : World) (ls : List Ls) (e : Ending) (w' : World) : Prop := Ext w w' ∧
  ((ls.all fun p => risesB p.2) = false → e = .returned (.tuple #[.slice none 0 0, .int .i64 1])) ∧
  ((ls.all fun p => risesB p.2) = true → ∃ (out : List En), MergedL (ls.map (·.2)) out ∧
    (risesB out = false → e = .returned (.tuple #[.slice none 0 0, .int .i64 1])) ∧
    (risesB out = true → ∃ a cap, e = .returned (.tuple #[.slice a out.length cap, .int .i64 0]) ∧ OwnC w' w.heap.size 69 4 (.slice a out.length cap) out.length (out.flatMap enL)))
theorem heap_cells {w : World} {g : Nat} {v : Value} (h : w.heap[g]? = some (.cells #[v, .func (.func 75) #[] #[]] 81 (0, 0))) : w.cell? ⟨g, 0, none⟩ = some v ∧ w.frozen? ⟨g, 0, none⟩ = false := by
  refine ⟨?_, by unfold World.frozen?; rw [h]; simp⟩
  rw [cell_of_row _ _ _ _ 81 (0, 0) h]; rfl
theorem HpAt.of_own {W0 w : World} {g m vc : Nat} {va : Option Addr} {hs : List Ls} (h : OwnC w (g + 1) 22 1 (.slice va m vc) m (hs.map (·.1))) (hm : m = hs.length) (h0 : 0 < m) (hg : w.heap[g]? = some (.cells #[.slice va m vc, .func (.func 75) #[] #[]] 81 (0, 0))) (he : ∀ p ∈ hs, ElOk W0 p) : ∃ rb, va = some ⟨rb, 0, none⟩ ∧ g + 1 ≤ rb ∧ HpAt W0 w g rb vc hs := by
  obtain ⟨_, ⟨_, e⟩ | ⟨rb, cap, cur, e, h2, h3, h4, h5, h6, h7⟩⟩ := h
  · omega
  · injection e with e1 e2 e3
    subst e1 e3
    refine ⟨rb, rfl, h2, ⟨by rw [← hm]; exact hg, ⟨cur, h3, by omega, h5, by omega, ?_⟩, by omega, he⟩⟩
    rw [Nat.mul_one] at h7
    rw [← hm]; exact h7
theorem HpW.own {w : World} {g rb cap : Nat} {hs : List Ls} (h : HpW w g rb cap hs) (hb : g + 1 ≤ rb) : OwnC w (g + 1) 22 1 (.slice (some ⟨rb, 0, none⟩) hs.length cap) hs.length (hs.map (·.1)) := by
  obtain ⟨cur, h1, h2, h3, h4, h5⟩ := h.row
  exact ⟨by simp, .inr ⟨rb, cap, cur, rfl, hb, h1, h2, h3, by omega, by rw [Nat.mul_one]; exact h5⟩⟩
theorem MI.bound {all out : List En} {hs : List Ls} (h : MI all out hs) : out.length + (flatH hs).length = all.length := by
  have := h.perm.length_eq
  rwa [List.length_append] at this
theorem merge_any (w : World) (ls : List Ls) (a : Option Addr) (cap : Nat) (hR : RowIs w 1 (.slice a ls.length cap) ls.length (ls.map (·.1))) (hls : ∀ p ∈ ls, LsOk w p) (hn : ls.length ≤ 1000) (hT : (ls.map (·.2)).flatten.length ≤ 1000000) : Calls Tryz.prog 23 #[.slice a ls.length cap] w (MergeE w ls) := by
  obtain ⟨n, hnn⟩ : ∃ n, n = ls.length := ⟨_, rfl⟩
  rw [← hnn] at hR hn ⊢
  have hnn' := Lib.hid hnn
  have hR' := Lib.hid hR
  have hls' := Lib.hid hls
  obtain ⟨A, hA⟩ : ∃ A, A = ls.all fun p => risesB p.2 := ⟨_, rfl⟩
  have hA' := Lib.hid hA
  obtain ⟨g, hg⟩ : ∃ g, g = w.heap.size := ⟨_, rfl⟩
  obtain ⟨W1, hW1⟩ : ∃ W1, W1 = w.alloc (.cells #[.slice none 0 0, .func (.func 75) #[] #[]] 81) := ⟨_, rfl⟩
  have hE1 : Ext w W1 := by rw [hW1]; exact (Ext.refl w).alloc _
  have hg1 : W1.heap[g]? = some (.cells #[.slice none 0 0, .func (.func 75) #[] #[]] 81 (0, 0)) := by rw [hW1, hg]; exact heap_alloc_new w _
  have hg' := Lib.hid hg
  have hW1' := Lib.hid hW1
  clear hnn hR hls hA hW1
  go_enter Tryz.func23, Tryz.ntmps23
  go_upto_region 2 with fail
  rw [← hW1'.out, ← hg]
  clear hW1' hg
  go_wp2_with fail
  go_loopw [2, 6, 14] (fun o _ i wr => ∃ (j m : Nat) (va : Option Addr) (vc : Nat), j ≤ n ∧ i = .int .i64 j ∧ o = .slice none 0 0 ∧ m ≤ j ∧ Hid (m = (neL (ls.take j)).length) ∧ OwnC wr (g + 1) 22 1 (.slice va m vc) m ((neL (ls.take j)).map (·.1)) ∧ wr.heap[g]? = some (.cells #[.slice va m vc, .func (.func 75) #[] #[]] 81 (0, 0)) ∧ Hid (∀ p ∈ ls.take j, risesB p.2 = true) ∧ Ext w wr) (fun _ _ i _ => n - (intOf i).toNat)
  case atStart => exact ⟨0, 0, none, 0, by omega, rfl, rfl, by omega, Lib.hid rfl, OwnC.nil _ _ _ _, hg1, Lib.hid (fun p h => by simp at h), hE1⟩
  case round =>
    obtain ⟨j, m, va, vc, hj, rfl, rfl, hmj, hm, hown, hgr, hri, hEr⟩ := hrel
    clear hg1 hE1
    by_cases hlt : j < n
    · have hli : (j : Int) < (n : Int) := by omega
      obtain ⟨p, hp⟩ : ∃ c, ls[j]? = some c := ⟨_, List.getElem?_eq_getElem (by rw [← hnn'.out]; exact hlt)⟩
      obtain ⟨b, off, hat⟩ := (hR'.out.ext hEr).at
      obtain ⟨rfl, _, hd⟩ := hat (by omega)
      have hc := hd j (by omega)
      rw [List.getElem?_map, hp] at hc
      have hc2 : wr.cell? ⟨b, off + j, none⟩ = some p.1 := hc
      have htk : ls.take (j + 1) = ls.take j ++ [p] := by rw [List.take_add_one, hp]; rfl
      have hpm := List.mem_of_getElem? hp
      obtain ⟨pa, pc, hpe, hpr⟩ := hls'.out p hpm
      have hpo := Lib.hid (hls'.out p hpm)
      rw [hpe] at hc2 hpr
      have hrs := rises_any wr p.2 pa pc (hpr.ext hEr)
      obtain ⟨pl, hpl⟩ : ∃ z, z = p.2.length := ⟨_, rfl⟩
      rw [← hpl] at hc2 hrs
      obtain ⟨rb, hrb⟩ : ∃ z, z = risesB p.2 := ⟨_, rfl⟩
      rw [← hrb] at hrs
      have htk' := Lib.hid htk
      have hpe' := Lib.hid hpe
      have hpl' := Lib.hid hpl
      have hrb' := Lib.hid hrb
      have hpm' := Lib.hid hpm
      clear hat hd hc hp htk hpm hpe hpr hpl hrb
      go_wp2_with fail
      refine hrs.mono ?_
      clear hrs hc2
      rintro e w4 ⟨rfl, hE4⟩
      have hown4 := hown.ext hE4
      have hg4 := hE4.row hgr
      have hEw4 := hEr.trans hE4
      clear hown hgr
      cases rb with
      | false =>
        have hAf : A = false := by
          rw [hA'.out, List.all_eq_false]
          exact ⟨p, hpm'.out, by rw [← hrb'.out]; decide⟩
        have hAf' := Lib.hid hAf
        clear hAf
        go_wp2_with fail
        go_ret2
        exact ⟨hEw4, fun _ => rfl, fun h => by rw [← hA'.out, hAf'.out] at h; cases h⟩
      | true =>
        have hri2 : Hid (∀ q ∈ ls.take (j + 1), risesB q.2 = true) := Lib.hid (fun q hq => by
          rw [htk'.out] at hq
          rcases List.mem_append.1 hq with hq | hq
          · exact hri.out q hq
          · rw [List.mem_singleton.1 hq]; exact hrb'.out.symm)
        by_cases hp0 : 0 < pl
        · have hp0i : (0 : Int) < (pl : Int) := by omega
          have hne : Hid (neL (ls.take (j + 1)) = neL (ls.take j) ++ [p]) := Lib.hid (by rw [htk'.out, neL_snoc, if_pos (by rw [← hpl'.out]; exact hp0)])
          obtain ⟨h0, h0f⟩ := heap_cells hg4
          have hby : (m + 1) * 24 ≤ 140737488355328 := by omega
          have hm63 : m < 9223372036854775807 := by omega
          have hbs : g + 1 ≤ w4.heap.size := (Array.getElem?_eq_some_iff.1 hg4).1
          have hown4' := Lib.hid hown4
          have hg4' := Lib.hid hg4
          clear hown4 hg4
          go_wp2_with (first | (at_builtin; go_loud (refine wpList_append_c (by rfl) (.tmp 28) (.tmp 30) 58 22 (by rfl) Tryz.underlying58 el_sl w4 (g + 1) m _ (.slice va m vc) (by rfl) hown4'.out #[.slice pa pl pc] (by rfl) (by rfl) (by simp [Value.oneCell']) hm63 hby hbs ?_); go_loud (intro v' w6 hA6; obtain ⟨oa4, oc4, rfl, _⟩ := hA6.own.form; have hg6 : w6.heap[g]? = some (.cells #[.slice va m vc, .func (.func 75) #[] #[]] 81 (0, 0)) := (hA6.below.block g (by omega)).trans hg4'.out; obtain ⟨k0, k0f⟩ := heap_cells hg6)) | fail)
          have hown7 : OwnC (w6.setCell ⟨g, 0, none⟩ (.slice oa4 (m + 1) oc4)) (g + 1) 22 1 (.slice oa4 (m + 1) oc4) (m + 1) ((neL (ls.take (j + 1))).map (·.1)) := by
            have h1 := hA6.own.off (OffB.setCell (B := fun k => k = g) (OffB.refl w6) (p := ⟨g, 0, none⟩) rfl (.slice oa4 (m + 1) oc4)) (fun q hq h => by have := (hA6.own.lt q hq).1; omega)
            rw [hne.out, List.map_append]
            rw [show List.map (fun x : Ls => x.1) [p] = (#[Value.slice pa pl pc]).toList by rw [hpl'.out]; simp [hpe'.out]]
            exact h1
          have hg7 : (w6.setCell ⟨g, 0, none⟩ (.slice oa4 (m + 1) oc4)).heap[g]? = some (.cells #[.slice oa4 (m + 1) oc4, .func (.func 75) #[] #[]] 81 (0, 0)) := by
            rw [setCell_eq_setRow _ _ _ _ _ _ _ hg6, setRow_heap _ _ _ _ _ _ hg6]; rfl
          have hE7 : Ext w (w6.setCell ⟨g, 0, none⟩ (.slice oa4 (m + 1) oc4)) := Ext.setCell (Below.trans hEw4 (Below.mono hA6.below (by have := hg'.out; omega))) (p := ⟨g, 0, none⟩) (by have := hg'.out; show w.heap.size ≤ g; omega) _
          constructor
          · exact ⟨j + 1, m + 1, oa4, oc4, by omega, by go_num, rfl, by omega, Lib.hid (by rw [hne.out, List.length_append, ← hm.out]; rfl), hown7, hg7, hri2, hE7⟩
          · simp [intOf]; omega
        · have hp0i : ¬ (0 : Int) < (pl : Int) := by omega
          have hne : Hid (neL (ls.take (j + 1)) = neL (ls.take j)) := Lib.hid (by rw [htk'.out, neL_snoc, if_neg (by rw [← hpl'.out]; exact hp0)])
          go_wp2_with fail
          go_roundw
          case rel => exact ⟨j + 1, m, va, vc, by omega, by go_num, rfl, by omega, Lib.hid (by rw [hne.out, ← hm.out]), by rw [hne.out]; exact hown4, hg4, hri2, hEw4⟩
          case measure => simp [intOf]; omega
    · have hli : ¬ (j : Int) < (n : Int) := by omega
      have htl : ls.take j = ls := List.take_of_length_le (by rw [← hnn'.out]; omega)
      rw [htl] at hm hown hri
      have hAt : A = true := by rw [hA'.out, List.all_eq_true]; exact hri.out
      obtain ⟨hs, hhs⟩ : ∃ hs, hs = neL ls := ⟨_, rfl⟩
      rw [← hhs] at hm hown
      have hel : ∀ p ∈ hs, ElOk w p := fun p hp => by
        rw [hhs] at hp
        have := List.mem_filter.1 hp
        exact (hls'.out p this.1).el (by simpa using this.2)
      have hrs : ∀ p ∈ hs, Rises p.2 ∧ p.2 ≠ [] := fun p hp => by
        rw [hhs] at hp
        have := List.mem_filter.1 hp
        refine ⟨(risesB_iff _).1 (hri.out p this.1), fun h => ?_⟩
        have h2 := this.2
        rw [h] at h2
        simp at h2
      have hfl : flatH hs = (ls.map (·.2)).flatten := by rw [hhs, flat_neL]
      have hAt' := Lib.hid hAt
      have hel' := Lib.hid hel
      have hrs' := Lib.hid hrs
      have hfl' := Lib.hid hfl
      obtain ⟨h0, _⟩ := heap_cells hgr
      clear htl hAt hel hrs hfl hhs hri hlt
      by_cases hm0 : m = 0
      · subst hm0
        have hs0 : hs = [] := List.eq_nil_of_length_eq_zero hm.out.symm
        have hfl0 : Hid ((ls.map (·.2)).flatten = []) := Lib.hid (by rw [← hfl'.out, hs0]; rfl)
        have hw1 : IntKind.i64.wrap (-1 : Int) = -1 := by rw [IntKind.wrap_i64]; decide
        have hw2 : IntKind.i64.wrap ((0 : Nat) : Int) = 0 := by rw [IntKind.wrap_i64]; decide
        obtain ⟨W2, hW2⟩ : ∃ W, W = wr := ⟨_, rfl⟩
        subst hW2
        have hri0 := rises_any W2 [] none 0 (RowIs.nil _ _ _ _ (fun _ => rfl))
        clear hm hown hs0
        go_wp2_with fail
        clear hli
        go_loopw [7] (fun a wr2 => a = .int .i64 (-1) ∧ W2 = wr2) (fun _ _ => 0)
        case atStart => exact ⟨rfl, rfl⟩
        case round =>
          obtain ⟨rfl, rfl⟩ := hrel
          go_wp2_with fail
          go_loopw [2, 9] (fun o _ wr2 => o = .slice none 0 0 ∧ W2 = wr2) (fun _ _ _ => 0)
          case atStart => exact ⟨rfl, rfl⟩
          case round =>
            obtain ⟨rfl, rfl⟩ := hrel
            go_wp2_with fail
            refine hri0.mono ?_
            clear hri0 h0
            rintro e w9 ⟨rfl, hE9⟩
            rw [show risesB [] = true from rfl]
            go_wp2_with fail
            go_ret2
            refine ⟨hEr.trans hE9, fun h => ?_, fun _ => ⟨[], ⟨List.Pairwise.nil, by rw [hfl0.out]⟩, fun h => (by cases h), fun _ => ⟨none, 0, rfl, OwnC.nil _ _ _ _⟩⟩⟩
            rw [← hA'.out, hAt'.out] at h
            cases h
      · obtain ⟨rb, hva, hrb, hH⟩ := HpAt.of_own hown hm.out (by omega) hgr hel'.out
        subst hva
        obtain ⟨T, hTT⟩ : ∃ T, T = (ls.map (·.2)).flatten.length := ⟨_, rfl⟩
        have hTb : T ≤ 1000000 := by omega
        have hTT' := Lib.hid hTT
        have hm1 : m ≤ 1000 := by omega
        have hw1 : IntKind.i64.wrap ((m : Int) - 1) = (m : Int) - 1 := by rw [IntKind.wrap_i64]; omega
        have hgw : w.heap.size ≤ g := by have := hg'.out; omega
        clear hown hgr hT hTT
        go_wp2_with fail
        clear hli h0 hw1
        go_loopw [7] (fun a wr2 => ∃ (z : Int) (hs1 : List Ls), a = .int .i64 z ∧ -1 ≤ z ∧ z < (m : Int) ∧ HpAt w wr2 g rb vc hs1 ∧ Hid (hs1.Perm hs) ∧ Hid (HPx (z + 1).toNat hs1) ∧ Ext w wr2) (fun a _ => (intOf a + 1).toNat)
        case atStart => exact ⟨(m : Int) - 1, hs, rfl, by omega, by omega, hH, Lib.hid (List.Perm.refl _), Lib.hid (HPx.all (by have := hm.out; omega)), hEr⟩
        case round =>
          obtain ⟨z, hs1, rfl, hz1, hz2, hH1, hp1, hx1, hE1⟩ := hrel
          clear hH hEr
          have hl1 : Hid (hs1.length = m) := Lib.hid (by rw [hp1.out.length_eq, ← hm.out])
          by_cases hz : 0 ≤ z
          · obtain ⟨k, rfl⟩ := Int.eq_ofNat_of_zero_le hz
            have hzk : IntKind.i64.wrap ((k : Int) - 1) = (k : Int) - 1 := by rw [IntKind.wrap_i64]; omega
            have hsk := sink_any w _ g rb vc k hs1 hH1 hE1 (by omega) (by rw [hl1.out]; omega) (by rw [hl1.out]; omega)
            clear hH1
            go_wp2_with fail
            refine hsk.mono ?_
            clear hsk
            rintro e W3 ⟨rfl, hs2, k1, k2, k3, k4⟩
            have hE3 : Ext w W3 := Below.trans hE1 (k4.below (base := w.heap.size) (fun q hq => by rw [hq]; omega) hE1.size)
            have hx3 : Hid (HPx ((k : Int) - 1 + 1).toNat hs2) := Lib.hid (by
              have e1 : ((k : Int) - 1 + 1).toNat = k := by omega
              have e2 : ((k : Int) + 1).toNat = k + 1 := by omega
              rw [e1]
              have := hx1.out
              rw [e2] at this
              exact k3 this)
            have hp3 : Hid (hs2.Perm hs) := Lib.hid (k2.trans hp1.out)
            clear k2 k3 k4 hx1
            go_wp2_with fail
            go_roundw
            case rel => exact ⟨(k : Int) - 1, hs2, rfl, by omega, by omega, k1, hp3, hx3, hE3⟩
            case measure => (simp [intOf]) <;> omega
          · have hzz : z = -1 := by omega
            subst hzz
            have hx2 : HPx 0 hs1 := hx1.out
            have hMI : MI (flatH hs1) [] hs1 := MI.start (fun p hp => hrs'.out p (hp1.out.mem_iff.1 hp)) hx2
            have hfT : Hid ((flatH hs1).Perm (ls.map (·.2)).flatten) := Lib.hid (by rw [← hfl'.out]; exact List.Perm.flatMap_right _ hp1.out)
            have hMI' := Lib.hid hMI
            obtain ⟨all, hall⟩ : ∃ a, a = flatH hs1 := ⟨_, rfl⟩
            have hTa : Hid (all.length = T) := Lib.hid (by rw [hall, hfT.out.length_eq, hTT'.out])
            rw [← hall] at hMI' hfT
            have hgs : g + 1 ≤ W1.heap.size ∨ True := .inr trivial
            clear hx1 hx2 hMI hgs hall
            go_wp2_with fail
            clear hz hz1 hz2
            go_loopw [2, 9] (fun o _ wr3 => ∃ (N M : Nat) (oa : Option Addr) (oc : Nat) (ol : List En) (hs2 : List Ls), o = .slice oa N oc ∧ N + M ≤ T + M ∧ Hid (N = ol.length) ∧ OwnC wr3 (g + 1) 69 4 (.slice oa N oc) N (ol.flatMap enL) ∧ Hid (∀ q, (Value.slice oa N oc).ownBlock = some q → q ≠ rb) ∧ HpAt w wr3 g rb vc hs2 ∧ Hid (MI all ol hs2) ∧ M ≤ 1000 ∧ Hid (hs2.length = M) ∧ Ext w wr3) (fun o _ _ => T - lenOf o)
            case atStart => exact ⟨0, m, none, 0, [], hs1, rfl, by omega, Lib.hid rfl, OwnC.nil _ _ _ _, Lib.hid (fun q h => by cases h), hH1, hMI', hm1, hl1, hE1⟩
            case round =>
              obtain ⟨N, M, oa, oc, ol, hs2, rfl, hNT, hN, hown, hsep, hH2, hmi, hM1, hM, hE2⟩ := hrel
              clear hH1 hE1 hMI' hl1
              obtain ⟨W2, hW2⟩ : ∃ W, W = wr := ⟨_, rfl⟩
              subst hW2
              have f0 := hH2.cells.1
              rw [hM.out] at f0
              by_cases hM0 : M = 0
              · subst hM0
                have hs0 : hs2 = [] := List.eq_nil_of_length_eq_zero hM.out
                have hmi2 := hmi.out
                rw [hs0] at hmi2
                obtain ⟨hws, hpe⟩ := hmi2.done
                have hmg : Hid (MergedL (ls.map (·.2)) ol) := Lib.hid ⟨hws, hpe.trans hfT.out⟩
                have hri3 := rises_any W2 ol oa oc (by have := hown.row; rw [hN.out] at this; exact this)
                rw [← hN.out] at hri3
                obtain ⟨rb3, hrb3⟩ : ∃ r, r = risesB ol := ⟨_, rfl⟩
                rw [← hrb3] at hri3
                have hrb3' := Lib.hid hrb3
                have hown' := Lib.hid hown
                clear hs0 hmi2 hws hpe hrb3 hown hH2 hmi hsep
                go_wp2_with fail
                refine hri3.mono ?_
                clear hri3 f0
                rintro e w9 ⟨rfl, hE9⟩
                have hEf := hE2.trans hE9
                cases rb3 with
                | true =>
                  go_wp2_with fail
                  go_ret2
                  refine ⟨hEf, fun h => ?_, fun _ => ⟨ol, hmg.out, fun h => (by rw [← hrb3'.out] at h; cases h), fun _ => ⟨oa, oc, by rw [← hN.out]; rfl, ?_⟩⟩⟩
                  · rw [← hA'.out, hAt'.out] at h
                    cases h
                  · rw [← hN.out]
                    exact (hown'.out.ext hE9).mono (by omega)
                | false =>
                  go_wp2_with fail
                  go_ret2
                  refine ⟨hEf, fun _ => rfl, fun _ => ⟨ol, hmg.out, fun _ => rfl, fun h => (by rw [← hrb3'.out] at h; cases h)⟩⟩
              · have hM0i : (0 : Int) < (M : Int) := by omega
                have hM0n : 0 < M := by omega
                obtain ⟨tv, t, ts, rest, hcs⟩ : ∃ tv t ts rest, hs2 = (tv, t :: ts) :: rest := by
                  have hM' := hM.out
                  have hri2 := hmi.out.ri
                  match hs2, hM', hri2 with
                  | [], hM', _ => exact absurd hM'.symm hM0
                  | (tv, []) :: rest, _, hri2 => exact absurd rfl (hri2 (tv, []) (List.mem_cons_self ..)).2
                  | (tv, t :: ts) :: rest, _, _ => exact ⟨tv, t, ts, rest, rfl⟩
                subst hcs
                obtain ⟨⟨ta, tc, ht1, ht2⟩, _⟩ := hH2.el _ (List.mem_cons_self ..)
                have ht1' : tv = .slice ta (t :: ts).length tc := ht1
                have ht2' : RowIs w 4 tv (t :: ts).length ((t :: ts).flatMap enL) := ht2
                obtain ⟨k, hk⟩ : ∃ k, k = ts.length := ⟨_, rfl⟩
                obtain ⟨K, hK⟩ : ∃ K, K = (t :: ts).length := ⟨_, rfl⟩
                have hKk : K = k + 1 := by rw [hK, hk]; rfl
                rw [← hK] at ht1' ht2'
                subst ht1'
                have hdr := ht2'.drop 1
                have hflt : ((t :: ts).flatMap enL).drop (1 * 4) = ts.flatMap enL := by rw [List.flatMap_cons]; rfl
                rw [hflt, show K - 1 = k by omega] at hdr
                obtain ⟨tb, tof, hat⟩ := (ht2'.ext hE2).at
                obtain ⟨hta, htc, hd⟩ := hat (by omega)
                have hrg : W2.rangeAt tb tof (enRow t).toList := by
                  have := ens_range (by rw [← hK]; exact hd) (k := 0) (x := t) rfl
                  rwa [Nat.zero_mul, Nat.add_zero] at this
                have hKi : (0 : Int) < (K : Int) := by omega
                have hKn : 0 < K := by omega
                have hK1 : (1 : Int) ≤ (K : Int) := by omega
                have p0 := (hH2.at (i := 0) rfl).1
                have p0' : W2.cell? ⟨rb, 0, none⟩ = some (.slice ta K tc) := p0
                subst hta
                have helr : Hid (∀ q ∈ rest, ElOk w q) := Lib.hid (fun q hq => hH2.el q (List.mem_cons_of_mem _ hq))
                have hk' := Lib.hid hk
                have hby : (N + 1) * 48 ≤ 140737488355328 := by omega
                have hn63 : N < 9223372036854775807 := by omega
                have hbs : g + 1 ≤ W2.heap.size := by have := (Array.getElem?_eq_some_iff.1 hH2.hd).1; omega
                have hfin : ∀ v' w6, AppE W2 w6 (g + 1) 69 4 (.slice oa N oc) v' (N + 1) (ol.flatMap enL ++ (enRow t).toList) → HpW w6 g rb vc ((.slice (some ⟨tb, tof, none⟩) K tc, t :: ts) :: rest) ∧ (∀ q, v'.ownBlock = some q → q ≠ rb) ∧ Ext w w6 ∧ OwnC w6 (g + 1) 69 4 v' (N + 1) ((ol ++ [t]).flatMap enL) := fun v' w6 hA6 => by
                  refine ⟨hH2.weak.off (OffB.of_grown hA6.grown) (fun h => ?_) (fun h => hsep.out rb h.symm rfl), fun q hq => ?_, Below.trans hE2 (Below.mono hA6.below (by omega)), ?_⟩
                  · have := (hown.lt g h.symm).1
                    omega
                  · have hown2 := hH2.weak.own hrb
                    have := (hA6.keep _ _ _ _ _ _ hown2 (fun q hq h2 => hsep.out q hq (by injection h2 with h2; exact h2.symm))).2 q hq
                    exact fun e => this (by rw [e]; rfl)
                  · have := hA6.own
                    rw [List.flatMap_append]
                    simpa [enL, enRow] using this
                have hfin' := Lib.hid hfin
                have hown' := Lib.hid hown
                have hdr' := Lib.hid hdr
                clear hat hd ht1 ht2 ht2' hflt hfin hown p0 hdr hH2 hk hK
                go_upto_region 18 with (first | (refine wpList_load_mid (by rfl) 69 (.tmp 64) (by rfl) tb tof (by rfl) (enRow t).toList _ hrg Tryz.underlying69 rfl (by exact info_entry) ?_) | (refine wpList_bs_entry (by rfl) (.tmp 65) (by rfl) t (by rfl) ?_) | (at_builtin; go_loud (refine wpList_append_c (by rfl) (.tmp 62) (.tmp 66) 22 69 (by rfl) Tryz.underlying22 el_entry W2 (g + 1) N _ (.slice oa N oc) (by rfl) hown'.out (enRow t) (by rfl) (by rfl) (en_all t) hn63 hby hbs ?_); go_loud (intro v' w6 hA6; obtain ⟨oa4, oc4, rfl, _⟩ := hA6.own.form; obtain ⟨hH6, hsep6, hE6, hown6⟩ := hfin'.out _ _ hA6; clear hA6)) | fail)
                have hM' := hM.out
                have f6 := hH6.cells.1
                rw [hM'] at f6
                obtain ⟨p6, z6⟩ := hH6.at (i := 0) rfl
                have p6' : w6.cell? ⟨rb, 0, none⟩ = some (.slice (some ⟨tb, tof, none⟩) K tc) := p6
                obtain ⟨ta, hta⟩ : ∃ x, x = tailAddr (some ⟨tb, tof, none⟩) tc 1 4 := ⟨_, rfl⟩
                rw [← hta] at hdr'
                obtain ⟨hH7, hO7⟩ := hH6.set 0 (.slice ta k (tc - 1), ts) ⟨ta, k, tc - 1, rfl⟩
                obtain ⟨W7, hW7⟩ : ∃ W7, W7 = w6.setCell ⟨rb, 0, none⟩ (.slice ta k (tc - 1)) := ⟨_, rfl⟩
                rw [← hW7] at hH7 hO7
                have hH7' := Lib.hid hH7
                have hO7' := Lib.hid hO7
                have hW7' := Lib.hid hW7
                have hta' := Lib.hid hta
                clear hM' p6 hH6 hrg p0' f0 hH7 hO7 hW7 hta
                have hE7 : Ext w W7.drew := (Below.trans hE6 (hO7'.out.below (base := w.heap.size) (fun q hq => by rw [hq]; omega) hE6.size)).drew
                have hH8 : HpW W7.drew g rb vc ((.slice ta k (tc - 1), ts) :: rest) := hH7'.out.off (OffB.drew (OffB.refl (B := fun _ => False) _)) (fun h => h) (fun h => h)
                have hown8 : OwnC W7.drew (g + 1) 69 4 (.slice oa4 (N + 1) oc4) (N + 1) ((ol ++ [t]).flatMap enL) := hown6.off hO7'.out.drew hsep6
                have hMIx := hmi.out
                have hNTb : N + 1 ≤ T := by
                  have h1 := hMIx.bound
                  rw [hTa.out] at h1
                  have h2 : 1 ≤ (flatH ((Value.slice (some ⟨tb, tof, none⟩) K tc, t :: ts) :: rest)).length := by unfold flatH; rw [List.flatMap_cons]; simp
                  have := hN.out
                  omega
                have hHP : HPx 1 ((Value.slice ta k (tc - 1), ts) :: rest) := by
                  have := HPx.set0 (p := (Value.slice ta k (tc - 1), ts)) (hMIx.hp.mono (lo' := 1) (by omega))
                  exact this
                have hl8 : Hid (((Value.slice ta k (tc - 1), ts) :: rest).length = M) := Lib.hid (by have := hM.out; simpa using this)
                have hNo : Hid (N + 1 = (ol ++ [t]).length) := Lib.hid (by rw [List.length_append, ← hN.out]; rfl)
                have htk : Hid (∀ (rest' : List Ls), rest'.Perm (if ts = [] then rest else (.slice ta k (tc - 1), ts) :: rest) → HPx 0 rest' → MI all (ol ++ [t]) rest') := Lib.hid (fun rest' h1 h2 => hMIx.take h1 h2)
                have hE7' := Lib.hid hE7
                have hH8' := Lib.hid hH8
                have hown8' := Lib.hid hown8
                have hHP' := Lib.hid hHP
                have hsep6' := Lib.hid hsep6
                have hfitE : Hid (∀ W9, OffB (fun z => z = rb ∨ z = g) W7.drew W9 → Ext w W9) := Lib.hid (fun W9 hO => Below.trans hE7'.out (hO.below (base := w.heap.size) (fun z hz => by rcases hz with hz | hz <;> rw [hz] <;> omega) hE7'.out.size))
                have hfit : Hid (∀ W9, OffB (fun z => z = rb ∨ z = g) W7.drew W9 → OwnC W9 (g + 1) 69 4 (.slice oa4 (N + 1) oc4) (N + 1) ((ol ++ [t]).flatMap enL)) := Lib.hid (fun W9 hO => hown8'.out.off hO (fun z hz hB => by
                  rcases hB with hB | hB
                  · exact hsep6'.out z hz hB
                  · have := (hown8'.out.lt z hz).1
                    omega))
                clear hE7 hH8 hown8 hMIx hHP hsep6 hown6 hE6 hmi hown' hM hN hE2 hsep
                have hkd : ((K : Int) == 1) = decide (k = 0) := by
                  by_cases h : k = 0
                  · rw [h] at hKk; rw [hKk, h]; rfl
                  · rw [decide_eq_false h]; simp; omega
                by_cases htc1 : tc = 1
                case' pos =>
                  go_region
                  have hW8 : w6.setCell ⟨rb, 0, none⟩ (.slice (some ⟨tb, tof, none⟩) k 0) = W7 := by rw [hW7'.out, hta'.out, htc1]; rfl
                  rw [hW8]
                  clear hW8
                case' neg =>
                  go_region
                  have hW8 : w6.setCell ⟨rb, 0, none⟩ (.slice (some ⟨tb, tof + 4, none⟩) k (tc - 1)) = W7 := by rw [hW7'.out, hta'.out, tailAddr, if_neg htc1]; rfl
                  rw [hW8]
                  clear hW8
                all_goals
                  clear f6 z6 p6' htc1 hW7' hO7' hH7'
                  by_cases hk0 : k = 0
                  · have hts : ts = [] := List.eq_nil_of_length_eq_zero (by rw [← hk'.out]; exact hk0)
                    rw [decide_eq_true hk0] at hkd
                    have hdp := drop_any w W7.drew g rb vc _ hH8'.out hE7'.out (by omega) (by omega) (by rw [hl8.out]; omega) (by rw [hl8.out]; omega) (fun q hq => helr.out q hq)
                    clear hk0 hfin'
                    go_wp2_with fail
                    refine hdp.mono ?_
                    clear hdp
                    rintro e W9 ⟨rfl, hs', k1, k2, k3, k4⟩
                    have hmi9 := Lib.hid (htk.out hs' (by rw [if_pos hts]; exact k2) (k3 hHP'.out))
                    have hE9 := hfitE.out W9 k4
                    have hown9 := hfit.out W9 k4
                    have hl9 : Hid (hs'.length = M - 1) := Lib.hid (by rw [k2.length_eq, List.tail_cons]; have := hl8.out; rw [List.length_cons] at this; omega)
                    clear k2 k3 k4
                    go_wp2_with fail
                    go_roundw
                    case rel => exact ⟨N + 1, M - 1, oa4, oc4, ol ++ [t], hs', rfl, by omega, hNo, hown9, hsep6', k1, hmi9, by omega, hl9, hE9⟩
                    case measure => simp [lenOf]; omega
                  · have hts : ts ≠ [] := fun h => hk0 (by rw [hk'.out, h]; rfl)
                    rw [decide_eq_false hk0] at hkd
                    have hsk := sink_any w W7.drew g rb vc 0 _ (hH8'.out.strong (fun q hq => by
                      rcases List.mem_cons.1 hq with rfl | hq
                      · exact ⟨⟨ta, tc - 1, by rw [hk'.out], (by have h9 := hdr'.out; have e9 := hk'.out; rw [e9] at h9 ⊢; exact h9)⟩, by have := hk'.out; show 0 < ts.length; omega⟩
                      · exact helr.out q hq)) hE7'.out (by omega) (by rw [hl8.out]; omega) (by rw [hl8.out]; omega)
                    clear hfin'
                    go_wp2_with fail
                    refine hsk.mono ?_
                    clear hsk
                    rintro e W9 ⟨rfl, hs', k1, k2, k3, k4⟩
                    have k5 := k4.mono (B' := fun z => z = rb ∨ z = g) (fun z h => .inl h)
                    have hmi9 := Lib.hid (htk.out hs' (by rw [if_neg hts]; exact k2) (k3 hHP'.out))
                    have hE9 := hfitE.out W9 k5
                    have hown9 := hfit.out W9 k5
                    have hl9 : Hid (hs'.length = M) := Lib.hid (by rw [k2.length_eq]; exact hl8.out)
                    clear k2 k3 k4 k5
                    go_wp2_with fail
                    go_roundw
                    case rel => exact ⟨N + 1, M, oa4, oc4, ol ++ [t], hs', rfl, by omega, hNo, hown9, hsep6', k1, hmi9, by omega, hl9, hE9⟩
                    case measure => simp [lenOf]; omega
end Go.Proofs.YtefllplgbalbkaaGreatDoor
