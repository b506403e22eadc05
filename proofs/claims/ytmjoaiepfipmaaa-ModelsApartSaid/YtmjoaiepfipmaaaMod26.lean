/- Have two asks a key in common? No condition. -/
import Derived.Test.YtmjoaiepfipmaaaMod25
namespace Go.Proofs.Ytmjoaiepfipmaaa
open Go.RowKit
set_option maxRecDepth 100000
set_option maxHeartbeats 1000000
def meetB (x y : Ak) : Bool := (keysL x).any fun p => (keysL y).any fun q => p.toList == q.toList
theorem keys_len {x : Ak} (h : x.chs.length ≤ 1000) : (keysL x).length ≤ 1001 := by
  unfold keysL keys0
  rw [List.length_append, List.length_map]
  split
  · rw [List.length_nil]; omega
  · rw [List.length_singleton]; omega
theorem meet_any (w : World) (x y : Ak) (a b : Option Addr) (ca cb : Nat) (hx : ChsAt w x.chs a ca) (hy : ChsAt w y.chs b cb) (hn : x.chs.length ≤ 1000) (hm : y.chs.length ≤ 1000) : Calls Try.prog 30 #[.agg (x.row (.slice a x.chs.length ca)), .agg (y.row (.slice b y.chs.length cb))] w fun e w' => e = .returned (.bool (meetB x y)) ∧ Ext w w' := by
  obtain ⟨W, hW⟩ : ∃ W, W = (w.alloc (.cells (x.row (.slice a x.chs.length ca)) 26)).alloc (.cells (y.row (.slice b y.chs.length cb)) 26) := ⟨_, rfl⟩
  have hE : Ext w W := by rw [hW]; exact ((Ext.refl _).alloc _).alloc _
  have hX : W.heap[w.heap.size]? = some (.cells (x.row (.slice a x.chs.length ca)) 26 (0, 0)) := by rw [hW]; exact ((Ext.refl _).alloc _).row (heap_alloc_new w _)
  have hY : W.heap[w.heap.size + 1]? = some (.cells (y.row (.slice b y.chs.length cb)) 26 (0, 0)) := by
    have h1 := heap_alloc_new (w.alloc (.cells (x.row (.slice a x.chs.length ca)) 26)) (.cells (y.row (.slice b y.chs.length cb)) 26)
    rw [show (w.alloc (.cells (x.row (.slice a x.chs.length ca)) 26)).heap.size = w.heap.size + 1 by simp] at h1
    rw [hW]; exact h1
  have hW' := Lib.hid hW
  have kx := Lib.hid (keys_any W x a ca (hx.ext hE) hn)
  have ky := Lib.hid (fun W' (h : Ext W W') => keys_any W' y b cb (hy.ext (hE.trans h)) hm)
  have rx := Lib.hid (fun W' (h : Ext W W') => ask_rng (h.row hX))
  have ry := Lib.hid (fun W' (h : Ext W W') => ask_rng (h.row hY))
  obtain ⟨B, hB⟩ : ∃ B, B = meetB x y := ⟨_, rfl⟩
  rw [← hB]
  have hB' := Lib.hid hB
  clear hW hX hY hx hy hB
  unfold Ak.row at hW' 
  unfold Ak.row
  go_enter Try.func30, Try.ntmps30
  go_upto_region 1 with fail
  rw [← hW'.out]
  clear hW'
  have r1 := rx.out W (Ext.refl W)
  go_wp2_with (first | (refine wpList_load_mid (by rfl) 26 (.tmp 2) (by rfl) w.heap.size 0 (by rfl) (x.row (.slice a x.chs.length ca)).toList _ r1 Try.underlying26 rfl (by rw [ask_ln]; exact ask_inf) ?_) | fail)
  refine kx.out.mono ?_
  clear kx rx r1
  rintro e w1 ⟨a1, c1, rfl, hr1, hE1⟩
  have r2 := ry.out w1 hE1
  go_wp2_with (first | (refine wpList_load_mid (by rfl) 26 (.tmp 3) (by rfl) (w.heap.size + 1) 0 (by rfl) (y.row (.slice b y.chs.length cb)).toList _ r2 Try.underlying26 rfl (by rw [ask_ln]; exact ask_inf) ?_) | fail)
  refine (ky.out w1 hE1).mono ?_
  clear ky ry r2
  rintro e w2 ⟨a2, c2, rfl, hr2, hE2⟩
  replace hr1 := hr1.ext hE2
  obtain ⟨n1, hn1⟩ : ∃ n, n = (keysL x).length := ⟨_, rfl⟩
  obtain ⟨n2, hn2⟩ : ∃ n, n = (keysL y).length := ⟨_, rfl⟩
  have hb1 : n1 ≤ 1001 := by rw [hn1]; exact keys_len hn
  have hb2 : n2 ≤ 1001 := by rw [hn2]; exact keys_len hm
  rw [← hn1] at hr1 ⊢
  rw [← hn2] at hr2 ⊢
  have h1' := Lib.hid hr1
  have h2' := Lib.hid hr2
  have hn1' := Lib.hid hn1
  have hn2' := Lib.hid hn2
  have hEw := hE.trans (hE1.trans hE2)
  clear hr1 hr2 hn1 hn2 hE hE1 hE2
  go_wp2_with fail
  go_loopw [7, 8] (fun i _ wr => ∃ k : Nat, k ≤ n1 ∧ i = .int .i64 k ∧ Hid (∀ p ∈ (keysL x).take k, ∀ q ∈ keysL y, (p.toList == q.toList) = false) ∧ Ext w2 wr) (fun i _ _ => n1 - (intOf i).toNat)
  case atStart => exact ⟨0, by omega, rfl, Lib.hid (by simp), Ext.refl _⟩
  case round =>
    obtain ⟨k, hk, rfl, hno, hEr⟩ := hrel
    by_cases hlt : k < n1
    · have hli : (k : Int) < (n1 : Int) := by omega
      obtain ⟨p, hp⟩ : ∃ p, (keysL x)[k]? = some p := ⟨_, List.getElem?_eq_getElem (by rw [← hn1'.out]; exact hlt)⟩
      obtain ⟨b1, o1, hat⟩ := h1'.out.at
      obtain ⟨rfl, _, hd⟩ := hat (by omega)
      have y0 := hd k (by omega)
      rw [List.getElem?_map, hp] at y0
      simp only [Option.map_some] at y0
      have y0' := Lib.hid y0
      have hp' := Lib.hid hp
      clear hat hd hp y0
      go_wp2_with fail
      go_loopw [8] (fun j wi => ∃ n : Nat, n ≤ n2 ∧ j = .int .i64 n ∧ Hid (∀ q ∈ (keysL y).take n, (p.toList == q.toList) = false) ∧ Ext w2 wi) (fun j _ => n2 - (intOf j).toNat)
      case atStart => exact ⟨0, by omega, rfl, Lib.hid (by simp), hEr⟩
      case round =>
        obtain ⟨n, hn, rfl, hni, hEi⟩ := hrel
        by_cases hlt2 : n < n2
        · have hlj : (n : Int) < (n2 : Int) := by omega
          obtain ⟨q, hq⟩ : ∃ q, (keysL y)[n]? = some q := ⟨_, List.getElem?_eq_getElem (by rw [← hn2'.out]; exact hlt2)⟩
          obtain ⟨b2, o2, hat⟩ := h2'.out.at
          obtain ⟨rfl, _, hd⟩ := hat (by omega)
          have z0 := hd n (by omega)
          rw [List.getElem?_map, hq] at z0
          simp only [Option.map_some] at z0
          replace z0 := hEi.cell z0
          have y1 := hEi.cell y0'.out
          have hq' := Lib.hid hq
          clear hat hd hq
          cases hpq : (p.toList == q.toList) with
          | true =>
            have hBt : Hid (B = true) := Lib.hid (by
              rw [hB'.out]
              unfold meetB
              rw [List.any_eq_true]
              refine ⟨p, List.mem_of_getElem? hp'.out, ?_⟩
              rw [List.any_eq_true]
              exact ⟨q, List.mem_of_getElem? hq'.out, hpq⟩)
            go_upto_region 9 with fail
            go_region
            clear z0 y1
            have hEd := hEi.trans (Ext.refl wr).drew
            generalize wr.drew = wd at *
            go_wp2_with fail
            go_ret
            exact ⟨by rw [hBt.out]; rfl, hEw.trans hEd⟩
          | false =>
            have htk : (keysL y).take (n + 1) = (keysL y).take n ++ [q] := by rw [List.take_add_one, hq'.out]; rfl
            have htk' := Lib.hid htk
            clear htk
            go_upto_region 9 with fail
            go_region
            clear z0 y1
            have hEd := hEi.trans (Ext.refl wr).drew
            generalize wr.drew = wd at *
            go_wp2_with fail
            go_roundw
            case rel =>
              refine ⟨n + 1, by omega, by go_num, Lib.hid ?_, hEd⟩
              rw [htk'.out]
              intro r hr
              rcases List.mem_append.1 hr with h | h
              · exact hni.out r h
              · rw [List.mem_singleton.1 h]; exact hpq
            case measure => simp [intOf]; omega
        · have hlj : ¬ (n : Int) < (n2 : Int) := by omega
          have hall : ∀ q ∈ keysL y, (p.toList == q.toList) = false := by
            have := hni.out
            rwa [List.take_of_length_le (by rw [← hn2'.out]; omega)] at this
          have hall' := Lib.hid hall
          have htk : (keysL x).take (k + 1) = (keysL x).take k ++ [p] := by rw [List.take_add_one, hp'.out]; rfl
          have htk' := Lib.hid htk
          clear hall htk
          go_wp2_with fail
          go_roundw
          case rel =>
            refine ⟨k + 1, by omega, by go_num, Lib.hid ?_, hEi⟩
            rw [htk'.out]
            intro r hr
            rcases List.mem_append.1 hr with h | h
            · exact hno.out r h
            · rw [List.mem_singleton.1 h]; exact hall'.out
          case measure => simp [intOf]; omega
    · have hli : ¬ (k : Int) < (n1 : Int) := by omega
      have hBf : Hid (B = false) := Lib.hid (by
        rw [hB'.out]
        unfold meetB
        rw [List.any_eq_false]
        intro p hp
        have := hno.out
        rw [List.take_of_length_le (by rw [← hn1'.out]; omega)] at this
        rw [Bool.not_eq_true, List.any_eq_false]
        intro q hq
        rw [this p hp q hq]
        decide)
      go_wp2_with fail
      go_ret
      exact ⟨by rw [hBf.out]; rfl, hEw.trans hEr⟩
end Go.Proofs.Ytmjoaiepfipmaaa
