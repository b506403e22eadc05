/- Thin told. No condition. -/
import Derived.Test.YtefllplgbalbkaaGreatDoorMg8
import Derived.Test.YtefllplgbalbkaaGreatDoorMg9
import Derived.Test.YtefllplgbalbkaaGreatDoorRnd
namespace Go.Proofs.YtefllplgbalbkaaGreatDoor
open Go.RowKit
attribute [local go_sem] Oper.semAt_some
set_option maxRecDepth 100000
set_option maxHeartbeats 4000000
def nuL (l : List Nat) : List Value := l.map fun (s : Nat) => .int .u64 (s : Int)
def ThinE (w : World) (L : List En) (looks : List Nat) (last : Bool) (e : Ending) (w' : World) : Prop := Ext w w' ∧
  (risesB L = false → e = .returned (.tuple #[.slice none 0 0, .int .i64 1])) ∧
  (risesB L = true → ∃ a cap, e = .returned (.tuple #[.slice a (thinL L looks last).length cap, .int .i64 0]) ∧ OwnC w' w.heap.size 69 4 (.slice a (thinL L looks last).length cap) (thinL L looks last).length ((thinL L looks last).flatMap enL))
/-- Between two rounds. -/
structure ThinI (w : World) (L : List En) (looks : List Nat) (last : Bool) (ka : Option Addr) (kn kc g b k : Nat) (W : World) : Prop where
  ext : Ext w W
  nb : W.heap[g]? = some (.cells #[.slice ka kn kc] 51 (0, 0))
  lb : W.heap[g + 1]? = some (.cells #[.bool last] 4 (0, 0))
  out : ∃ a N cap, N = (thinK looks last ((keyG L).take k)).length ∧ W.heap[g + 2]? = some (.cells #[.slice a N cap] 22 (0, 0)) ∧ OwnC W (b + 3) 69 4 (.slice a N cap) N ((thinK looks last ((keyG L).take k)).flatMap enL)
section
variable {w : World} {L : List En} {looks : List Nat} {last : Bool} {ka : Option Addr} {kn kc g b k : Nat} {W W' : World}
theorem ThinI.off (h : ThinI w L looks last ka kn kc g b k W) (hO : OffB (LB b (b + 1)) W W') (hg : g = w.heap.size) (hb : g + 2 < b) : ThinI w L looks last ka kn kc g b k W' := by
  obtain ⟨h1, h2, hl, a, N, cap, h3, h4, h5⟩ := h
  refine ⟨Below.trans h1 (hO.below (base := w.heap.size) (fun j hj => by rcases hj with hj | hj | hj <;> omega) h1.size), ?_, ?_, a, N, cap, h3, ?_, h5.off hO (fun q hq hB => by have := (h5.lt q hq).1; rcases hB with hB | hB | hB <;> omega)⟩
  · rw [hO.block g (Array.getElem?_eq_some_iff.1 h2).1 (fun hj => by rcases hj with hj | hj | hj <;> omega)]; exact h2
  · rw [hO.block (g + 1) (Array.getElem?_eq_some_iff.1 hl).1 (fun hj => by rcases hj with hj | hj | hj <;> omega)]; exact hl
  · rw [hO.block (g + 2) (Array.getElem?_eq_some_iff.1 h4).1 (fun hj => by rcases hj with hj | hj | hj <;> omega)]; exact h4
end
theorem le_sum {l : List Nat} {x : Nat} (h : x ∈ l) : x ≤ l.sum := by
  induction l with
  | nil => cases h
  | cons y l ih =>
    rw [List.sum_cons]
    rcases List.mem_cons.1 h with rfl | h
    · omega
    · have := ih h; omega
theorem seenI_zero {x : En} {t : List En} {s : Nat} (h : x.mark.seq ≤ s) : seenI (x :: t) s = 0 := by
  unfold seenI
  rw [List.findIdx?_cons, if_pos (by simpa using h)]
  rfl
theorem thin_any (w : World) (L : List En) (looks : List Nat) (last : Bool) (la ka : Option Addr) (lc kc : Nat) (hR : SlIs w (.slice la L.length lc) L) (hK : RowIs w 1 (.slice ka looks.length kc) looks.length (nuL looks)) (hn : L.length ≤ 1000000) (hk : looks.length ≤ 1000000) (hsq : ∀ e ∈ L, e.mark.seq ≤ 18446744073709551615) : Calls Tryz.prog 16 #[.slice la L.length lc, .slice ka looks.length kc, .bool last] w (ThinE w L looks last) := by
  obtain ⟨n, hnn⟩ : ∃ n, n = L.length := ⟨_, rfl⟩
  obtain ⟨kn, hkn⟩ : ∃ n, n = looks.length := ⟨_, rfl⟩
  have hR' := Lib.hid hR
  have hri := fun W (hE : Ext w W) => rises_any W L la lc (hR.row.ext hE)
  rw [← hnn] at hri hn hR' ⊢
  rw [← hkn] at hk hK ⊢
  have hnn' := Lib.hid hnn
  have hkn' := Lib.hid hkn
  have hK' := Lib.hid hK
  have hsq' := Lib.hid hsq
  obtain ⟨rb, hrb⟩ : ∃ r, r = risesB L := ⟨_, rfl⟩
  rw [← hrb] at hri
  have hrb' := Lib.hid hrb
  clear hR hnn hrb hkn hK hsq
  obtain ⟨g, hg⟩ : ∃ g, g = w.heap.size := ⟨_, rfl⟩
  obtain ⟨W2, hW2⟩ : ∃ W2, W2 = ((w.alloc (.cells #[.slice ka kn kc] 51)).alloc (.cells #[.bool last] 4)).alloc (.cells #[.slice none 0 0] 22) := ⟨_, rfl⟩
  have hE2 : Ext w W2 := by rw [hW2]; exact (((Ext.refl w).alloc _).alloc _).alloc _
  have hs2 : W2.heap[g]? = some (.cells #[.slice ka kn kc] 51 (0, 0)) := by
    rw [hW2, hg]; exact (((Ext.refl _).alloc _).alloc _).row (heap_alloc_new w _)
  have hl2 : W2.heap[g + 1]? = some (.cells #[.bool last] 4 (0, 0)) := by
    rw [hW2, hg]
    have h := heap_alloc_new (w.alloc (.cells #[.slice ka kn kc] 51)) (.cells #[.bool last] 4)
    rw [show (w.alloc (.cells #[.slice ka kn kc] 51)).heap.size = w.heap.size + 1 by simp] at h
    exact ((Ext.refl _).alloc _).row h
  have ho2 : W2.heap[g + 2]? = some (.cells #[.slice none 0 0] 22 (0, 0)) := by
    rw [hW2, hg]
    have h := heap_alloc_new ((w.alloc (.cells #[.slice ka kn kc] 51)).alloc (.cells #[.bool last] 4)) (.cells #[.slice none 0 0] 22)
    rwa [show ((w.alloc (.cells #[.slice ka kn kc] 51)).alloc (.cells #[.bool last] 4)).heap.size = w.heap.size + 2 by simp] at h
  have hW2' := Lib.hid hW2
  have hg' := Lib.hid hg
  clear hW2 hg
  refine (callsIn_wide (n := 4)).1 (callsIn_of_wp_marks Tryz.func16 rfl trivial ?_)
  refine (wpIn_wide (n := 4)).2 ?_
  simp only [Tryz.ntmps16, List.size_toArray, List.length_cons, List.length_nil, Nat.reduceAdd, Nat.reduceSub, Array.replicate_succ, Array.replicate_zero, List.push_toArray, List.append_toArray, List.nil_append, List.cons_append]
  go_wp2_with fail
  rw [← hW2'.out, ← hg'.out]
  refine (hri W2 hE2).mono ?_
  clear hri hW2'
  rintro e w4 ⟨rfl, hE4⟩
  have hs4 := hE4.row hs2
  have hl4 := hE4.row hl2
  have ho4 := hE4.row ho2
  have hEw := hE2.trans hE4
  clear hs2 ho2 hl2
  have c0 : w4.cell? ⟨g + 2, 0, none⟩ = some (.slice none 0 0) := by rw [cell_of_row _ _ _ _ 22 (0, 0) ho4]; rfl
  have z0 : w4.frozen? ⟨g + 2, 0, none⟩ = false := by unfold World.frozen?; rw [ho4]; simp
  cases rb with
  | false =>
    have c1 : (w4.setCell ⟨g + 2, 0, none⟩ (.slice none 0 0)).cell? ⟨g + 2, 0, none⟩ = some (.slice none 0 0) := World.cell?_setCell_same' _ _ _ (by rw [c0]; rfl)
    go_wp2_with fail
    exact ⟨.tuple #[.slice none 0 0, .int .i64 1], by simp [results, Tryz.results16, go_sem, c1], Ext.setCell hEw (p := ⟨g + 2, 0, none⟩) (by rw [hg'.out]; exact Nat.le_add_right _ _) _, fun _ => rfl, fun h => by rw [← hrb'.out] at h; cases h⟩
  | true =>
    go_wp2_with fail
    refine (keys_any w4 la n lc).mono ?_
    rintro e w5 ⟨rfl, hw5⟩
    obtain ⟨b, hb⟩ : ∃ b, b = w4.heap.size := ⟨_, rfl⟩
    have hD : w5.heap.size = b + 1 := by rw [hw5, hb]; simp
    have hB5 : w5.heap[b]? = some (.cells #[.slice la L.length lc] 22 (0, 0)) := by rw [hw5, hb, ← hnn'.out]; exact heap_alloc_new w4 _
    have hE5 : Ext w4 w5 := by rw [hw5]; exact (Ext.refl _).alloc _
    have hs5 := hE5.row hs4
    have hl5 := hE5.row hl4
    have ho5 := hE5.row ho4
    have hgb : g + 2 < b := by rw [hb]; exact (Array.getElem?_eq_some_iff.1 ho4).1
    have hEw5 := hEw.trans hE5
    rw [← hb]
    clear hw5 hs4 ho4 hl4 hb hE5 hEw c0 z0 hE4
    go_wp2_with fail
    have hI0 : ThinI w L looks last ka kn kc g b 0 w5 := ⟨hEw5, hs5, hl5, none, 0, 0, rfl, ho5, OwnC.nil _ _ _ _⟩
    refine keys_range (m := 2) (b := b) (L := L) (la := la) (lc := lc) (w0 := w) 8 rfl hB5 (by rw [← hnn'.out]; exact hR'.out) (ThinI w L looks last ka kn kc g b) (fun k W h => h.ext) (fun k W W' h hO => h.off (by rw [hD] at hO; exact hO) hg'.out hgb) hI0 ?assign ?body ?done
    case assign =>
      intro l v W K hK
      simp only [List.setIfInBounds_toArray, List.set_cons_zero, List.set_cons_succ] at hK ⊢
      gi_wp2
      exact hK
    case body =>
      intro l k gr v W hgr hI hsz hv
      simp only [List.setIfInBounds_toArray, List.set_cons_zero, List.set_cons_succ]
      obtain ⟨va, vc, rfl, hvr⟩ := hv
      obtain ⟨m, hm⟩ : ∃ m, m = gr.length := ⟨_, rfl⟩
      have hgm := List.mem_of_getElem? hgr
      have hgL : ∀ e ∈ gr, e ∈ L := fun e he => by rw [← keyG_flat L]; exact List.mem_flatten.2 ⟨gr, hgm, he⟩
      have hm0 : 0 < m := by rw [hm]; exact List.length_pos_iff.2 (keyG_ne hgm)
      have hmn : m ≤ 1000000 := by
        have h1 : gr.length ≤ L.length := by
          rw [← keyG_flat L, List.length_flatten]
          exact le_sum (List.mem_map_of_mem hgm)
        rw [hm]; have := hnn'.out; omega
      have hex := hI.ext
      have hmk := make_ints m hmn
      rw [← hm] at hvr ⊢
      have hm' := Lib.hid hm
      have hvr' := Lib.hid hvr
      have hgL' := Lib.hid hgL
      have hI' := Lib.hid hI
      clear hm hvr hI0 hs5 ho5 hl5 hB5 hgL hI hgm
      obtain ⟨q, hq⟩ : ∃ q, q = W.heap.size := ⟨_, rfl⟩
      obtain ⟨W5, hW5⟩ : ∃ W5, W5 = W.alloc (.cells (madeCells #[.int .i64 0] m) 3) := ⟨_, rfl⟩
      have hE5 : Ext W W5 := by rw [hW5]; exact (Ext.refl W).alloc _
      have hst5 : StAt W5 q m (fun _ => 0) := by rw [hW5, hq]; exact StAt.made W m
      have hqb : b + 3 ≤ q := by rw [hq]; omega
      have hW5' := Lib.hid hW5
      have hq' := Lib.hid hq
      clear hW5 hq
      gi_wp2_with fail
      rw [← hW5'.out, ← hq'.out]
      have hse := seen_any W5 18446744073709551615 gr va vc (by have := hvr'.out.ext (hex.trans hE5); rwa [hm'.out] at this)
      rw [← hm'.out] at hse
      refine ⟨trivial, CallsIn.mono (CallsIn.inRound l (callsIn_wide.2 hse)) ?_⟩
      clear hse hW5' hmk
      rintro e W6 ⟨rfl, hE6⟩
      have hs0 : seenI gr 18446744073709551615 = 0 := by
        have hmm := hm'.out
        match gr, hmm, hgL'.out with
        | [], hmm, _ => simp at hmm; omega
        | x :: t, _, hgL => exact seenI_zero (hsq'.out x (hgL x (List.mem_cons_self ..)))
      rw [hs0]
      have hst6 := hst5.ext hE6
      obtain ⟨c6, z6⟩ := hst6.cell hm0
      have c6' : W6.cell? ⟨q, 0, none⟩ = some (.int .i64 0) := c6
      obtain ⟨hst7, hO7⟩ := hst6.set 0 1
      obtain ⟨W7, hW7⟩ : ∃ W7, W7 = W6.setCell ⟨q, 0, none⟩ (.int .i64 ((1 : Nat) : Int)) := ⟨_, rfl⟩
      rw [← hW7] at hst7 hO7
      have hE7 : Ext W W7 := Below.trans (hE5.trans hE6) (hO7.below (base := W.heap.size) (fun z hz => by rw [hz, hq'.out]; exact Nat.le_refl _) (Below.size (hE5.trans hE6)))
      have hW7' := Lib.hid hW7
      have hnb7 := (hE5.trans hE6).row hI'.out.nb
      have n7 : W6.cell? ⟨g, 0, none⟩ = some (.slice ka kn kc) := by rw [cell_of_row _ _ _ _ 51 (0, 0) hnb7]; rfl
      have hm0i : (0 : Int) < (m : Int) := by omega
      clear hs0 hst6 hst5 c6 hW7 hO7 hE5 hnb7
      gi_wp2_with fail
      rw [show W6.setCell ⟨q, 0, none⟩ (.int .i64 1) = W7 from hW7'.out.symm]
      clear hW7' n7 c6' z6
      gi_loopw [11, 12, 33] (fun _ _ x wr => ∃ (j : Nat) (c : Nat → Nat), j ≤ kn ∧ x = .int .i64 j ∧ StAt wr q m c ∧ Hid (∀ i, i < m → (0 < c i ↔ stayB (looks.take j) gr i = true) ∧ c i ≤ j + 1) ∧ Ext W wr) (fun _ _ x _ => kn - (intOf x).toNat)
      case atStart => exact ⟨0, fun i => if i = 0 then 1 else 0, by omega, rfl, hst7, Lib.hid (fun i hi => by
        by_cases h : i = 0
        · subst h; simp [stayB]
        · simp [h, stayB]), hE7⟩
      case round =>
        obtain ⟨j, c, hj, rfl, hst, hcs, hE⟩ := hrel
        clear hst7 hE7
        by_cases hlt : j < kn
        · have hlti : (j : Int) < (kn : Int) := by omega
          obtain ⟨s, hs⟩ : ∃ s, looks[j]? = some s := ⟨_, List.getElem?_eq_getElem (by rw [← hkn'.out]; exact hlt)⟩
          obtain ⟨kb, kof, hat⟩ := (hK'.out.ext (hex.trans hE)).at
          obtain ⟨rfl, _, hd⟩ := hat (by omega)
          have hkc := hd j (by omega)
          rw [nuL, List.getElem?_map, hs] at hkc
          have hkc2 : wr.cell? ⟨kb, kof + j, none⟩ = some (.int .u64 (s : Int)) := hkc
          have hse := seen_any wr s gr va vc (by have := hvr'.out.ext (hex.trans hE); rwa [hm'.out] at this)
          rw [← hm'.out] at hse
          have htk : looks.take (j + 1) = looks.take j ++ [s] := by rw [List.take_add_one, hs]; rfl
          have htk' := Lib.hid htk
          clear hat hd hkc hs htk
          gi_wp2_with fail
          refine ⟨trivial, CallsIn.mono (CallsIn.inRound l (callsIn_wide.2 hse)) ?_⟩
          clear hse hkc2
          rintro e W8 ⟨rfl, hE8⟩
          have hst8 := hst.ext hE8
          have hEf := hE.trans hE8
          clear hst
          cases hf : gr.find? (fun e => decide (e.mark.seq ≤ s)) with
          | none =>
            have hr1 : seenI gr s = -1 := seenI_none hf
            have hr1' := Lib.hid hr1
            rw [hr1]
            clear hf hr1
            gi_wp2_with fail
            go_roundw
            case rel => exact ⟨j + 1, c, by omega, by go_num, hst8, Lib.hid (fun i hi => by
              have h1 := hcs.out i hi
              rw [htk'.out, stayB_snoc, hr1'.out]
              have h2 : ((-1 : Int) == (i : Int)) = false := by simp
              rw [h2, Bool.or_false]
              exact ⟨h1.1, by omega⟩), hEf⟩
            case measure => simp [intOf]; omega
          | some en =>
            obtain ⟨i, hi, hgi⟩ := seenI_some hf
            have hi' := Lib.hid hi
            have him : i < m := by rw [hm'.out]; exact (List.getElem?_eq_some_iff.1 hgi).1
            have himi : (i : Int) < (m : Int) := by omega
            have hi0 : 0 ≤ (i : Int) := by omega
            obtain ⟨c8, z8⟩ := hst8.cell him
            obtain ⟨hst9, hO9⟩ := hst8.set i (c i + 1)
            have hcb := (hcs.out i him).2
            have hwr : IntKind.i64.wrap ((c i : Int) + 1) = ((c i + 1 : Nat) : Int) := by rw [IntKind.wrap_i64]; omega
            have hEg := Below.trans hEf (hO9.below (base := W.heap.size) (fun z hz => by rw [hz, hq'.out]; exact Nat.le_refl _) (Below.size hEf))
            have hst9' := Lib.hid hst9
            have hEg' := Lib.hid hEg
            rw [hi]
            clear hf hgi hi hst8 hst9 hEg hO9
            gi_wp2_with fail
            go_roundw
            case rel => exact ⟨j + 1, fun z => if z = i then c i + 1 else c z, by omega, by go_num, hst9'.out, Lib.hid (fun z hz => by
              have h1 := hcs.out z hz
              rw [htk'.out, stayB_snoc, hi'.out]
              by_cases hzi : z = i
              · subst hzi
                simp only [if_true]
                refine ⟨⟨fun _ => by simp, fun _ => by omega⟩, by omega⟩
              · have h2 : ((i : Int) == (z : Int)) = false := by simp; omega
                rw [h2, Bool.or_false]
                simp only [if_neg hzi]
                exact ⟨h1.1, by omega⟩), hEg'.out⟩
            case measure => simp [intOf]; omega
        · have hlti : ¬ (j : Int) < (kn : Int) := by omega
          have htl : looks.take j = looks := List.take_of_length_le (by rw [← hkn'.out]; omega)
          rw [htl] at hcs
          obtain ⟨out0, hout0⟩ : ∃ o, o = thinK looks last ((keyG L).take k) := ⟨_, rfl⟩
          have hout0' := Lib.hid hout0
          obtain ⟨hw1, hnb, hlb, a9, N9, c9, hN9, ho9, hown9⟩ := hI'.out
          rw [← hout0] at hN9 hown9
          have hne9 : ∀ p, (Value.slice a9 N9 c9).ownBlock = some p → p ≠ q := fun p hp => by have := (hown9.lt p hp).2; have := hq'.out; omega
          have ho9' := hE.row ho9
          have hown9' := hown9.ext hE
          have hO9 : OffB (fun z => z = g + 2 ∨ b + 3 ≤ z) W wr := OffB.of_ext hE
          have hN9' : Hid (N9 = (out0 ++ stayP looks gr 0).length) := Lib.hid (by rw [hN9]; simp [stayP])
          have hown9b : OwnC wr (b + 3) 69 4 (.slice a9 N9 c9) N9 ((out0 ++ stayP looks gr 0).flatMap enL) := by
            have e : out0 ++ stayP looks gr 0 = out0 := by simp [stayP]
            rw [e]; exact hown9'
          clear hlt htl hout0 hw1 hnb hlb hN9 ho9 hown9 hown9' hE hj
          gi_wp2_with fail
          clear hlti
          gi_loopw [13, 14, 51] (fun _ _ x wq => ∃ (i N : Nat) (a : Option Addr) (cap : Nat), i ≤ m ∧ x = .int .i64 i ∧ Hid (N = (out0 ++ stayP looks gr i).length) ∧ wq.heap[g + 2]? = some (.cells #[.slice a N cap] 22 (0, 0)) ∧ OwnC wq (b + 3) 69 4 (.slice a N cap) N ((out0 ++ stayP looks gr i).flatMap enL) ∧ Hid (∀ p, (Value.slice a N cap).ownBlock = some p → p ≠ q) ∧ StAt wq q m c ∧ OffB (fun z => z = g + 2 ∨ b + 3 ≤ z) W wq) (fun _ _ x _ => m - (intOf x).toNat)
          case atStart => exact ⟨0, N9, a9, c9, by omega, rfl, hN9', ho9', hown9b, Lib.hid hne9, hst, hO9⟩
          case round =>
            obtain ⟨i, N, oa, oc, him, rfl, hN, ho, hown, hne, hst2, hO⟩ := hrel
            clear hN9' ho9' hown9b hne9 hst hO9
            have hgg := hg'.out
            have hEw : Ext w wr := Below.trans hex (hO.below (base := w.heap.size) (fun z hz => by rcases hz with hz | hz <;> omega) hex.size)
            by_cases hlt : i < m
            · have hlti : (i : Int) < (m : Int) := by omega
              obtain ⟨x, hx⟩ : ∃ x, gr[i]? = some x := ⟨_, List.getElem?_eq_getElem (by rw [← hm'.out]; exact hlt)⟩
              obtain ⟨tb, tof, hat⟩ := (hvr'.out.ext hEw).at
              obtain ⟨rfl, _, hd⟩ := hat (by omega)
              have hrg := ens_range (by rw [← hm'.out]; exact hd) hx
              have hstp := Lib.hid (stayP_succ (looks := looks) hx)
              have hcs2 := Lib.hid (hcs.out i hlt)
              obtain ⟨W10, hW10⟩ : ∃ W, W = wr.alloc (.cells (enRow x) 69) := ⟨_, rfl⟩
              have hE10 : Ext wr W10 := by rw [hW10]; exact (Ext.refl wr).alloc _
              have hx10 : W10.rangeAt wr.heap.size 0 (enRow x).toList := by
                rw [hW10]
                intro r v hv
                rw [Nat.zero_add, cell_of_row _ _ r (enRow x) 69 (0, 0) (heap_alloc_new wr _)]
                simpa using hv
              have hW10' := Lib.hid hW10
              obtain ⟨st, _⟩ := (hst2.ext hE10).cell hlt
              have ho10 := hE10.row ho
              have hO10 := hO.trans (OffB.of_ext hE10)
              have hown10 := hown.ext hE10
              have hst10 := hst2.ext hE10
              have b10 : W10.cell? ⟨g + 1 + 1, 0, none⟩ = some (.slice oa N oc) := by rw [cell_of_row _ _ _ _ 22 (0, 0) ho10]; rfl
              have hbs : b + 3 ≤ W10.heap.size := by have e1 := hO10.size; have e2 := hq'.out; omega
              have hlenN : N ≤ 1000000 := by
                have h1 := thinK_len looks last ((keyG L).take k)
                have h2 := stayP_len looks gr i
                have h3 : ((keyG L).take k).flatten.length + gr.length ≤ L.length := by
                  have e1 : (keyG L).take (k + 1) = (keyG L).take k ++ [gr] := by rw [List.take_add_one, hgr]; rfl
                  have e2 : ((keyG L).take (k + 1)).flatten.length ≤ (keyG L).flatten.length := by
                    have e3 : (keyG L).flatten = ((keyG L).take (k + 1)).flatten ++ ((keyG L).drop (k + 1)).flatten := by rw [← List.flatten_append, List.take_append_drop]
                    rw [e3, List.length_append]; omega
                  rw [keyG_flat, e1, List.flatten_append, List.length_append] at e2
                  simpa using e2
                have h4 := hN.out
                have h5 := hnn'.out
                rw [List.length_append, hout0'.out] at h4
                omega
              have hby : (N + 1) * 48 ≤ 140737488355328 := by omega
              have hn63 : N < 9223372036854775807 := by omega
              have hgq : g + 2 ≠ q := by omega
              have hfin : Hid (stayB looks gr i = true → ∀ v' w6, AppE W10 w6 (b + 3) 69 4 (.slice oa N oc) v' (N + 1) ((out0 ++ stayP looks gr i).flatMap enL ++ (enRow x).toList) → ∃ a8 c8, v' = .slice a8 (N + 1) c8 ∧ w6.cell? ⟨g + 1 + 1, 0, none⟩ = some (.slice oa N oc) ∧ w6.frozen? ⟨g + 1 + 1, 0, none⟩ = false ∧ Hid (Hid (N + 1 = (out0 ++ stayP looks gr (i + 1)).length) ∧ (w6.setCell ⟨g + 1 + 1, 0, none⟩ (.slice a8 (N + 1) c8)).heap[g + 2]? = some (.cells #[.slice a8 (N + 1) c8] 22 (0, 0)) ∧ OwnC (w6.setCell ⟨g + 1 + 1, 0, none⟩ (.slice a8 (N + 1) c8)) (b + 3) 69 4 (.slice a8 (N + 1) c8) (N + 1) ((out0 ++ stayP looks gr (i + 1)).flatMap enL) ∧ Hid (∀ p, (Value.slice a8 (N + 1) c8).ownBlock = some p → p ≠ q) ∧ StAt (w6.setCell ⟨g + 1 + 1, 0, none⟩ (.slice a8 (N + 1) c8)) q m c ∧ OffB (fun z => z = g + 2 ∨ b + 3 ≤ z) W (w6.setCell ⟨g + 1 + 1, 0, none⟩ (.slice a8 (N + 1) c8)))) := Lib.hid (fun hb1 v' w6 hA => by
                obtain ⟨a8, c8, rfl, _⟩ := hA.own.form
                obtain ⟨hs6, hn6⟩ := app_keep hA hst10 hmn hne.out
                have h48 : w6.heap[g + 2]? = some (.cells #[.slice oa N oc] 22 (0, 0)) := (hA.below.block (g + 2) (by omega)).trans ho10
                have hoff : OffB (fun z => z = g + 2) w6 (w6.setCell ⟨g + 1 + 1, 0, none⟩ (.slice a8 (N + 1) c8)) := OffB.setCell (B := fun z => z = g + 2) (OffB.refl w6) (p := ⟨g + 1 + 1, 0, none⟩) rfl _
                have hL : out0 ++ stayP looks gr (i + 1) = (out0 ++ stayP looks gr i) ++ [x] := by rw [hstp.out, if_pos hb1, List.append_assoc]
                refine ⟨a8, c8, rfl, by rw [cell_of_row _ _ _ _ 22 (0, 0) h48]; rfl, by unfold World.frozen?; rw [h48]; simp, Lib.hid ⟨Lib.hid (by rw [hL, List.length_append, ← hN.out]; rfl), ?_, ?_, Lib.hid hn6, hs6.off hoff (fun e => hgq e.symm), ?_⟩⟩
                · rw [setCell_eq_setRow _ _ _ _ _ _ _ h48, setRow_heap _ _ _ _ _ _ h48]; rfl
                · rw [hL, List.flatMap_append]
                  refine OwnC.off ?_ hoff (fun q hq hB => by have := (hA.own.lt q hq).1; omega)
                  have := hA.own
                  simpa [enL, enRow] using this
                · exact (hO10.trans (OffB.of_below hA.below (fun z _ hz => .inr hz))).trans (hoff.mono (fun z hz => .inl hz)))
              have hown10' := Lib.hid hown10
              have hO10' := Lib.hid hO10
              have ho10' := Lib.hid ho10
              have hst10' := Lib.hid hst10
              clear hgg hat hd hx hW10 hown ho hO hst2 hown10 hO10 ho10 hst10
              cases hsb : stayB looks gr i with
              | false =>
                have hc0 : ¬ 0 < c i := fun h => by rw [hcs2.out.1.1 h] at hsb; cases hsb
                have hc0i : ¬ (0 : Int) < (c i : Int) := by omega
                have hst11 : Hid (stayP looks gr (i + 1) = stayP looks gr i) := Lib.hid (by rw [hstp.out, hsb]; rfl)
                clear hsb hfin
                gi_wp2_with (first | ((with_reducible show wpListIn _ _ _ _ _ (⟨_, Op.load 69 (Operand.tmp 54), _, _, _, _⟩ :: _) _ _); refine wpListIn_one (by rfl) (fun _ h => by cases h) (fun _ _ h => h) ?_; refine wpList_load_mid (by rfl) 69 (.tmp 54) (by rfl) tb (tof + i * 4) (by rfl) (enRow x).toList _ hrg Tryz.underlying69 rfl (by exact info_entry) ?_; refine wpList_done ?_) | ((with_reducible show wpListIn _ _ _ _ _ (⟨_, Op.store 69 (Operand.tmp 14) (Operand.tmp 55), _, _, _, _⟩ :: _) _ _); refine wpListIn_one (by rfl) (fun _ h => by cases h) (fun _ _ h => h) ?_; refine wpList_store_whole (by rfl) 69 (.tmp 14) (.tmp 55) (by rfl) wr _ (enRow x) wr.heap.size (by rfl) rfl (by rfl) (by exact info_entry) (by rfl) (en_one x) ?_; refine wpList_done ?_; rw [← hW10'.out]) | fail)
                go_roundw
                case rel => exact ⟨i + 1, N, oa, oc, by omega, by go_num, Lib.hid (by rw [hst11.out]; exact hN.out), ho10'.out, by rw [hst11.out]; exact hown10'.out, hne, hst10'.out, hO10'.out⟩
                case measure => simp [intOf]; omega
              | true =>
                have hc0 : 0 < c i := hcs2.out.1.2 hsb
                have hc0i : (0 : Int) < (c i : Int) := by omega
                have hfin := Lib.hid (hfin.out hsb)
                clear hsb
                gi_wp2_with (first | (gi_at_builtin; refine wpListIn_one (by rfl) (fun _ h => by cases h) (fun _ _ h => h) ?_; refine wpList_append_c (by rfl) (.tmp 61) (.tmp 63) 22 69 (by rfl) Tryz.underlying22 el_entry W10 (b + 3) N _ (.slice oa N oc) (by rfl) hown10'.out (enRow x) (by rfl) (by rfl) (en_all x) hn63 hby hbs ?_; intro v' w6 hA6; refine wpList_done ?_; obtain ⟨a8, c8, rfl, b8, z8, hrel8⟩ := hfin.out v' w6 hA6; clear hA6) | ((with_reducible show wpListIn _ _ _ _ _ (⟨_, Op.buildSlice 22 1 _, _, _, _, _⟩ :: _) _ _); refine wpListIn_one (by rfl) (fun _ h => by cases h) (fun _ _ h => h) ?_; refine wpList_bs_entry (by rfl) (.tmp 62) (by rfl) x (by rfl) ?_; refine wpList_done ?_) | ((with_reducible show wpListIn _ _ _ _ _ (⟨_, Op.load 69 (Operand.tmp 14), _, _, _, _⟩ :: _) _ _); refine wpListIn_one (by rfl) (fun _ h => by cases h) (fun _ _ h => h) ?_; refine wpList_load_mid (by rfl) 69 (.tmp 14) (by rfl) wr.heap.size 0 (by rfl) (enRow x).toList _ hx10 Tryz.underlying69 rfl (by exact info_entry) ?_; refine wpList_done ?_) | ((with_reducible show wpListIn _ _ _ _ _ (⟨_, Op.load 69 (Operand.tmp 54), _, _, _, _⟩ :: _) _ _); refine wpListIn_one (by rfl) (fun _ h => by cases h) (fun _ _ h => h) ?_; refine wpList_load_mid (by rfl) 69 (.tmp 54) (by rfl) tb (tof + i * 4) (by rfl) (enRow x).toList _ hrg Tryz.underlying69 rfl (by exact info_entry) ?_; refine wpList_done ?_) | ((with_reducible show wpListIn _ _ _ _ _ (⟨_, Op.store 69 (Operand.tmp 14) (Operand.tmp 55), _, _, _, _⟩ :: _) _ _); refine wpListIn_one (by rfl) (fun _ h => by cases h) (fun _ _ h => h) ?_; refine wpList_store_whole (by rfl) 69 (.tmp 14) (.tmp 55) (by rfl) wr _ (enRow x) wr.heap.size (by rfl) rfl (by rfl) (by exact info_entry) (by rfl) (en_one x) ?_; refine wpList_done ?_; rw [← hW10'.out]) | fail)
                obtain ⟨r1, r2, r3, r4, r5, r6⟩ := hrel8.out
                go_roundw
                case rel => exact ⟨i + 1, N + 1, a8, c8, by omega, by go_num, r1, r2, r3, r4, r5, r6⟩
                case measure => simp [intOf]; omega
            · have hlti : ¬ (i : Int) < (m : Int) := by omega
              have him2 : i = gr.length := by rw [← hm'.out]; omega
              obtain ⟨o1, ho1⟩ : ∃ o, o = out0 ++ stayP looks gr i := ⟨_, rfl⟩
              have hstep : Hid (thinK looks last ((keyG L).take (k + 1)) = if last then trimL o1 else o1) := Lib.hid (by
                have e1 : (keyG L).take (k + 1) = (keyG L).take k ++ [gr] := by rw [List.take_add_one, hgr]; rfl
                rw [e1, thinK_snoc, ← hout0'.out, thinStep, stayL, ← him2, ← ho1])
              rw [← ho1] at hN hown
              have hN1 : N ≤ 1000000 := by
                have h1 := thinK_len looks last ((keyG L).take k)
                have h2 := stayP_len looks gr i
                have h3 : ((keyG L).take k).flatten.length + gr.length ≤ L.length := by
                  have e1 : (keyG L).take (k + 1) = (keyG L).take k ++ [gr] := by rw [List.take_add_one, hgr]; rfl
                  have e2 : ((keyG L).take (k + 1)).flatten.length ≤ (keyG L).flatten.length := by
                    have e3 : (keyG L).flatten = ((keyG L).take (k + 1)).flatten ++ ((keyG L).drop (k + 1)).flatten := by rw [← List.flatten_append, List.take_append_drop]
                    rw [e3, List.length_append]; omega
                  rw [keyG_flat, e1, List.flatten_append, List.length_append] at e2
                  simpa using e2
                have h4 := hN.out
                have h5 := hnn'.out
                rw [ho1, List.length_append, hout0'.out] at h4
                omega
              have hend : Hid (∀ wq (o : List En) (N : Nat) (a : Option Addr) (cap : Nat), N = o.length → wq.heap[g + 2]? = some (.cells #[.slice a N cap] 22 (0, 0)) → OwnC wq (b + 3) 69 4 (.slice a N cap) N (o.flatMap enL) → OffB (fun z => z = g + 2 ∨ b + 3 ≤ z) W wq → (if last then trimL o1 else o1) = o → kPost b (b + 1) (ThinI w L looks last ka kn kc g b) k W .normal { tmps := #[], defers := [] } wq) := Lib.hid (fun wq o N a cap q1 q2 q3 q4 q5 => by
                obtain ⟨hw1, hnb, hlb, _⟩ := hI'.out
                refine ⟨⟨Below.trans hex (q4.below (base := w.heap.size) (fun z hz => by rcases hz with hz | hz <;> omega) hex.size), ?_, ?_, a, N, cap, by rw [hstep.out, q5]; exact q1, q2, by rw [hstep.out, q5]; exact q3⟩, q4.size, fun j hj => ?_⟩
                · rw [q4.block g (Array.getElem?_eq_some_iff.1 hnb).1 (by omega)]; exact hnb
                · rw [q4.block (g + 1) (Array.getElem?_eq_some_iff.1 hlb).1 (by omega)]; exact hlb
                · have e1 := hsz
                  rw [hD] at e1
                  exact q4.block j (by rcases hj with hj | hj | hj <;> omega) (by rcases hj with hj | hj | hj <;> omega))
              have hlbW := Lib.hid hI'.out.lb
              clear hlt him2 ho1 hgg hst2 hne him
              gi_wp2_with fail
              clear hlti
              gi_loopw [66] (fun _ wq => ∃ (o : List En) (N : Nat) (a : Option Addr) (cap : Nat), Hid (N = o.length) ∧ N ≤ 1000000 ∧ wq.heap[g + 2]? = some (.cells #[.slice a N cap] 22 (0, 0)) ∧ OwnC wq (b + 3) 69 4 (.slice a N cap) N (o.flatMap enL) ∧ Hid ((last = true → trimL o = trimL o1) ∧ (last = false → o = o1)) ∧ OffB (fun z => z = g + 2 ∨ b + 3 ≤ z) W wq) (fun _ wq => lenAt wq (g + 2))
              case atStart => exact ⟨o1, N, oa, oc, hN, hN1, ho, hown, Lib.hid ⟨fun _ => rfl, fun _ => rfl⟩, hO⟩
              case round =>
                obtain ⟨o, N, pa, pc, hNo, hNb, ho3, hown3, htr, hO3⟩ := hrel
                clear hN hN1 ho hown hO hEw
                obtain ⟨W9, hW9⟩ : ∃ W, W = wr := ⟨_, rfl⟩
                subst hW9
                have b3 : W9.cell? ⟨g + 1 + 1, 0, none⟩ = some (.slice pa N pc) := by rw [cell_of_row _ _ _ _ 22 (0, 0) ho3]; rfl
                have z3 : W9.frozen? ⟨g + 1 + 1, 0, none⟩ = false := by unfold World.frozen?; rw [ho3]; simp
                have hl3 : W9.heap[g + 1]? = some (.cells #[.bool last] 4 (0, 0)) := by
                  rw [hO3.block (g + 1) (Array.getElem?_eq_some_iff.1 hlbW.out).1 (by omega)]; exact hlbW.out
                have l3 : W9.cell? ⟨g + 1, 0, none⟩ = some (.bool last) := by rw [cell_of_row _ _ _ _ 4 (0, 0) hl3]; rfl
                have hown3' := Lib.hid hown3
                have ho3' := Lib.hid ho3
                have hO3' := Lib.hid hO3
                clear hl3 hown3 ho3 hO3
                rcases Bool.eq_false_or_eq_true last with hla | hla
                case inr =>
                  have hfin := Lib.hid (hend.out W9 o N pa pc hNo.out ho3'.out hown3'.out hO3'.out (by rw [hla]; exact (htr.out.2 hla).symm))
                  rw [hla] at l3
                  clear hend hla
                  gi_wp2_with fail
                  first | exact hfin.out | (rw [hD]; exact hfin.out)
                case inl =>
                  rw [hla] at l3
                  by_cases hN0 : N = 0
                  · subst hN0
                    have ho0 : o = [] := List.eq_nil_of_length_eq_zero hNo.out.symm
                    have hfin := Lib.hid (hend.out W9 o 0 pa pc hNo.out ho3'.out hown3'.out hO3'.out (by rw [hla, if_pos rfl, ← htr.out.1 hla, ho0]; rfl))
                    clear hend ho0 hla
                    gi_wp2_with fail
                    first | exact hfin.out | (rw [hD]; exact hfin.out)
                  · obtain ⟨N', hN'⟩ : ∃ z, N = z + 1 := ⟨N - 1, by omega⟩
                    obtain ⟨o', x, hox⟩ : ∃ o' x, o = o' ++ [x] := by
                      have hne0 : o ≠ [] := fun h => hN0 (by rw [hNo.out, h]; rfl)
                      exact ⟨o.dropLast, o.getLast hne0, (List.dropLast_concat_getLast hne0).symm⟩
                    have hlo : o'.length = N' := by have := hNo.out; rw [hox, List.length_append] at this; simp at this; omega
                    have hxi : o[N']? = some x := by rw [hox, List.getElem?_append_right (by omega), hlo]; simp
                    obtain ⟨tb, tof, hat⟩ := (hown3'.out.row).at
                    obtain ⟨rfl, hcap, hd⟩ := hat (by omega)
                    have hrg := ens_range (by rw [← hNo.out]; exact hd) hxi
                    have pg : W9.cell? ⟨tb, tof + N' * 4 + 2, none⟩ = some (.bool x.mark.gone) := hrg 2 (.bool x.mark.gone) rfl
                    have hw1 : IntKind.i64.wrap ((N : Int) - 1) = (N' : Int) := by rw [IntKind.wrap_i64]; omega
                    have hNi : (0 : Int) < (N : Int) := by omega
                    have hNn : 0 < N := by omega
                    have hN1 : (N' : Int) < (N : Int) := by omega
                    have hN2 : 0 ≤ (N' : Int) := by omega
                    have hN3 : (N' : Int) ≤ (N : Int) := by omega
                    have hN4 : (N' : Int) ≤ (pc : Int) := by omega
                    have hN'' := Lib.hid hN'
                    have hox' := Lib.hid hox
                    have hlo' := Lib.hid hlo
                    clear hat hd hrg hN' hox hlo hxi
                    cases hgn : x.mark.gone with
                    | false =>
                      rw [hgn] at pg
                      have hfin := Lib.hid (hend.out W9 o N _ pc hNo.out ho3'.out hown3'.out hO3'.out (by rw [hla, if_pos rfl, ← htr.out.1 hla, hox'.out]; exact trimL_snoc_here hgn))
                      clear hend hgn hla
                      gi_wp2_with fail
                      first | exact hfin.out | (rw [hD]; exact hfin.out)
                    | true =>
                      rw [hgn] at pg
                      have htr2 : Hid ((last = true → trimL o' = trimL o1) ∧ (last = false → o' = o1)) := Lib.hid ⟨fun h => by rw [← htr.out.1 h, hox'.out, trimL_snoc_gone hgn], fun h => by rw [hla] at h; cases h⟩
                      have hcut : OwnC W9 (b + 3) 69 4 (.slice (some ⟨tb, tof, none⟩) N' pc) N' (o'.flatMap enL) := by
                        have := hown3'.out.cut (m := N') (by have := hN''.out; omega)
                        rw [flat_take, hox'.out, List.take_left' hlo'.out] at this
                        exact this
                      have hne3 : (g + 2) ≠ tb := by
                        have := hown3'.out
                        obtain ⟨_, ⟨e, _⟩ | ⟨g', _, _, e, hbg, _⟩⟩ := this
                        · cases e
                        · injection e with e
                          injection e with e
                          injection e with e
                          omega
                      have hoff : OffB (fun z => z = g + 2) W9 (W9.setCell ⟨g + 1 + 1, 0, none⟩ (.slice (some ⟨tb, tof, none⟩) N' pc)) := OffB.setCell (B := fun z => z = g + 2) (OffB.refl W9) (p := ⟨g + 1 + 1, 0, none⟩) rfl _
                      have hset : Hid ((W9.setCell ⟨g + 1 + 1, 0, none⟩ (.slice (some ⟨tb, tof, none⟩) N' pc)).heap[g + 2]? = some (.cells #[.slice (some ⟨tb, tof, none⟩) N' pc] 22 (0, 0))) := Lib.hid (by rw [setCell_eq_setRow _ _ _ _ _ _ _ ho3'.out, setRow_heap _ _ _ _ _ _ ho3'.out]; rfl)
                      have hcut2 := Lib.hid (hcut.off hoff (fun z hz hB => by
                        have : z = tb := by injection hz with hz; exact hz.symm
                        omega))
                      have hO4 := Lib.hid (hO3'.out.trans (hoff.mono (fun z hz => .inl hz)))
                      have hm1 : lenAt W9 (g + 2) = N := by unfold lenAt; rw [show W9.cell? ⟨g + 2, 0, none⟩ = _ from b3]
                      have hm2 : lenAt (W9.setCell ⟨g + 1 + 1, 0, none⟩ (.slice (some ⟨tb, tof, none⟩) N' pc)) (g + 2) = N' := by
                        unfold lenAt
                        rw [show (W9.setCell ⟨g + 1 + 1, 0, none⟩ (.slice (some ⟨tb, tof, none⟩) N' pc)).cell? ⟨g + 2, 0, none⟩ = _ from World.cell?_setCell_same' _ _ _ (by rw [b3]; rfl)]
                      have hm3 := Lib.hid (And.intro hm1 hm2)
                      clear hcut hoff hgn hm1 hm2 hend hla
                      gi_wp2_with fail
                      constructor
                      · exact ⟨o', N', some ⟨tb, tof, none⟩, pc, Lib.hid hlo'.out.symm, by omega, hset.out, hcut2.out, htr2, hO4.out⟩
                      · rw [hm3.out.1, hm3.out.2]; omega
    case done =>
      intro W hI hK
      obtain ⟨h1, h2, hl2, a6, N6, c6, h3, h4, h5⟩ := hI
      rw [List.take_of_length_le (Nat.le_refl _)] at h3 h5
      have b6 : W.cell? ⟨g + 1 + 1, 0, none⟩ = some (.slice a6 N6 c6) := by rw [cell_of_row _ _ _ _ 22 (0, 0) h4]; rfl
      have z6 : W.frozen? ⟨g + 1 + 1, 0, none⟩ = false := by unfold World.frozen?; rw [h4]; simp
      have b7 : (W.setCell ⟨g + 1 + 1, 0, none⟩ (.slice a6 N6 c6)).cell? ⟨g + 1 + 1, 0, none⟩ = some (.slice a6 N6 c6) := World.cell?_setCell_same' _ _ _ (by rw [b6]; rfl)
      have hoff : OffB (fun z => z = g + 1 + 1) W (W.setCell ⟨g + 1 + 1, 0, none⟩ (.slice a6 N6 c6)) := OffB.setCell (B := fun z => z = g + 1 + 1) (OffB.refl W) (p := ⟨g + 1 + 1, 0, none⟩) rfl _
      have hK2 : (W.setCell ⟨g + 1 + 1, 0, none⟩ (.slice a6 N6 c6)).heap[w5.heap.size]? = some (.deferred (some [])) := (hoff.block _ (Array.getElem?_eq_some_iff.1 hK).1 (by omega)).trans hK
      obtain ⟨D, hDD⟩ : ∃ D, D = w5.heap.size := ⟨_, rfl⟩
      rw [← hDD] at hK2
      obtain ⟨W8, hW8⟩ : ∃ W8, W8 = (W.setCell ⟨g + 1 + 1, 0, none⟩ (.slice a6 N6 c6)).putObj D (.deferred none) := ⟨_, rfl⟩
      have hoff2 : OffB (fun z => z = g + 1 + 1 ∨ z = D) W W8 := by rw [hW8]; exact OffB.putObj (hoff.mono (fun z hz => .inl hz)) (.inr rfl) _
      have hgg := hg'.out
      have hE8 : Ext w W8 := Below.trans h1 (hoff2.below (base := w.heap.size) (fun z hz => by rcases hz with hz | hz <;> omega) h1.size)
      have hown8 : OwnC W8 w.heap.size 69 4 (.slice a6 N6 c6) N6 ((thinL L looks last).flatMap enL) := OwnC.mono (h5.off hoff2 (fun q hq hB => by have := (h5.lt q hq).1; rcases hB with hB | hB <;> omega)) (by omega)
      have hN6 : N6 = (thinL L looks last).length := h3
      have b8 : W8.cell? ⟨g + 1 + 1, 0, none⟩ = some (.slice a6 N6 c6) := by rw [hW8]; exact (World.cell?_of_block (World.putObj_heap_other (by show g + 1 + 1 ≠ D; omega))).trans b7
      rw [hN6] at hown8
      have hown8' := Lib.hid hown8
      have hN6' := Lib.hid hN6
      have hW8' := Lib.hid hW8
      clear hgg h1 h2 hl2 h3 h4 h5 hown8 hN6 hW8 hI0 hB5 hs5 hl5 ho5
      go_wp2_with fail
      rw [← hDD]
      refine ⟨by simp, .inl ⟨_, _, rfl, run_takeDeferred hK2, ?_⟩⟩
      rw [← hW8'.out]
      refine ⟨.tuple #[.slice a6 N6 c6, .int .i64 0], by simp [results, Tryz.results16, go_sem, b8], hE8, fun h => (by rw [← hrb'.out] at h; cases h), fun _ => ⟨a6, c6, by rw [← hN6'.out], hown8'.out⟩⟩
end Go.Proofs.YtefllplgbalbkaaGreatDoor
