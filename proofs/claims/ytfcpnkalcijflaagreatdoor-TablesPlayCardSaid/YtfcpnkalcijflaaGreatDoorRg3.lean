/- The document's table: Len, Bytes, Get, From. No condition. -/
import Derived.Test.YtfcpnkalcijflaaGreatDoorRg2
import Derived.Test.YtfcpnkalcijflaaGreatDoorBq
import Derived.Deep.CutRange
namespace Go.Proofs.YtfcpnkalcijflaaGreatDoor
open Go.RowKit
set_option maxRecDepth 100000
set_option maxHeartbeats 4000000
section
variable {base rb : Nat} {w : World} {L : List En} {Z : Nat → Prop}
theorem rlen_any (h : RefZ base w rb L Z) : Calls Tryz.prog 15 #[.pointer (some ⟨rb, 0, none⟩)] w fun e w' => e = .returned (.int .i64 (L.length : Int)) ∧ Ext w w' := by
  obtain ⟨a, cap, hc, _, _, _⟩ := h.sees
  have c := hc w (Ext.refl _)
  clear hc h
  go_enter Tryz.func15, Tryz.ntmps15
  go_wp2_with fail
  go_ret
  exact ⟨rfl, Ext.refl _⟩
theorem rbytes_any (h : RefZ base w rb L Z) (hl : L.length ≤ 5000) (hs : ∀ e ∈ L, e.mark.key.size + e.val.size ≤ 288) : Calls Tryz.prog 17 #[.pointer (some ⟨rb, 0, none⟩)] w fun e w' => e = .returned (.int .i64 (szL L : Int)) ∧ Ext w w' := by
  obtain ⟨a, cap, hc, hR, _, _⟩ := h.sees
  have hb : szL L ≤ 1440000 := Nat.le_trans (szL_le hs) (by omega)
  obtain ⟨S, hS⟩ : ∃ S, S = szL L := ⟨_, rfl⟩
  obtain ⟨n, hn⟩ : ∃ n, n = L.length := ⟨_, rfl⟩
  have hnb : n ≤ 5000 := by rw [hn]; exact hl
  rw [← hn] at hc hR
  rw [← hS]
  have hc' := Lib.hid hc
  have hR' := Lib.hid hR
  have hn' := Lib.hid hn
  have hS' := Lib.hid hS
  have hbb : Hid (∀ k, szL (L.take k) ≤ 1440000) := Lib.hid (fun k => by
    have happ : ∀ a b : List En, szL (a ++ b) = szL a + szL b := fun a b => by
      induction a with
      | nil => simp [szL]
      | cons y r ih => simp only [List.cons_append, szL, ih]; omega
    have := happ (L.take k) (L.drop k)
    rw [List.take_append_drop] at this
    omega)
  clear hc hR h hs hn hS hb hl
  go_enter Tryz.func17, Tryz.ntmps17
  go_wp2_with fail
  go_loopw [3, 4] (fun s i wr => ∃ k N : Nat, k ≤ n ∧ s = .int .i64 (N : Int) ∧ i = .int .i64 k ∧ Hid (N = szL (L.take k)) ∧ Ext w wr) (fun _ i _ => n - (intOf i).toNat)
  case atStart => exact ⟨0, 0, by omega, rfl, rfl, Lib.hid rfl, Ext.refl _⟩
  case round =>
    obtain ⟨k, N, hk, rfl, rfl, hN, hE⟩ := hrel
    have c := hc'.out wr hE
    by_cases hlt : k < n
    · have hli : (k : Int) < (n : Int) := by omega
      obtain ⟨x, hx⟩ : ∃ x, L[k]? = some x := ⟨_, List.getElem?_eq_getElem (by rw [← hn'.out]; exact hlt)⟩
      obtain ⟨b, off, hat⟩ := (hR'.out wr hE).at
      obtain ⟨rfl, _, hd⟩ := hat (by omega)
      have p := ens_range (by rw [← hn'.out]; exact hd) hx
      have p0 := p 0 _ rfl
      have p3 := p 3 _ rfl
      rw [Nat.add_zero] at p0
      have hNx : Hid (N + (x.mark.key.size + x.val.size) = szL (L.take (k + 1))) := Lib.hid (by rw [szL_succ hx, hN.out])
      have hbx : N + (x.mark.key.size + x.val.size) ≤ 1440000 := by rw [hNx.out]; exact hbb.out _
      clear hd hat p hx
      have e1 : IntKind.i64.wrap ((N : Int) + (x.mark.key.size : Int)) = (N : Int) + (x.mark.key.size : Int) := by rw [IntKind.wrap_i64]; omega
      have e2 : IntKind.i64.wrap ((N : Int) + (x.mark.key.size : Int) + (x.val.size : Int)) = (N : Int) + (x.mark.key.size : Int) + (x.val.size : Int) := by rw [IntKind.wrap_i64]; omega
      go_wp2_with fail
      go_still (by kernel_rfl)
      change Exit.inBlock _ _ _ _ wr.drew
      go_wp2_with fail
      go_roundw
      case rel => exact ⟨k + 1, N + (x.mark.key.size + x.val.size), by omega, by go_num, by go_num, hNx, hE.drew⟩
      case measure => simp [intOf]; omega
    · have hli : ¬ (k : Int) < (n : Int) := by omega
      have hfin : Hid (N = S) := Lib.hid (by rw [hN.out, hS'.out, List.take_of_length_le (by rw [← hn'.out]; omega)])
      go_wp2_with fail
      go_ret
      exact ⟨by rw [hfin.out]; rfl, hE⟩
theorem rget_any (h : RefZ base w rb L Z) (hr : Rises L) (key : ByteArray) (seq : Nat) : Calls Tryz.prog 9 #[.pointer (some ⟨rb, 0, none⟩), .string key, .int .u64 (seq : Int)] w (Got (getS L key seq) w) := by
  obtain ⟨a, cap, hc, hR, h1, h2⟩ := h.sees
  rw [getS_find hr]
  obtain ⟨W, hW⟩ : ∃ W, W = w.alloc (.cells #[.string ⟨#[]⟩, .int .u64 0, .bool false, .string ⟨#[]⟩] 49) := ⟨_, rfl⟩
  have hE0 : Ext w W := by rw [hW]; exact (Ext.refl _).alloc _
  have hZr : Hid (∀ w', Ext W w' → w'.heap[w.heap.size]? = some (.cells (enRow zEn) 49 (0, 0))) := Lib.hid (fun w' hE => hE.row (by rw [hW]; exact heap_alloc_new w _))
  obtain ⟨n, hn⟩ : ∃ n, n = L.length := ⟨_, rfl⟩
  rw [← hn] at hc hR h1
  have hnb : n ≤ 9223372036854775807 := by
    unfold maxLen at h2
    omega
  obtain ⟨o, ho⟩ : ∃ o, o = L.find? (isP key seq) := ⟨_, rfl⟩
  rw [← ho]
  have hc' := Lib.hid hc
  have hR' := Lib.hid hR
  have hn' := Lib.hid hn
  have ho' := Lib.hid ho
  have hW' := Lib.hid hW
  clear hc hR h hn ho hW hr
  go_enter Tryz.func9, Tryz.ntmps9
  go_wp2_with fail
  rw [← hW'.out]
  go_loopw [8] (fun i wr => ∃ k : Nat, k ≤ n ∧ i = .int .i64 k ∧ Hid (∀ x ∈ L.take k, isP key seq x = false) ∧ Ext W wr) (fun i _ => n - (intOf i).toNat)
  case atStart => exact ⟨0, by omega, rfl, Lib.hid (fun _ h => nomatch h), Ext.refl _⟩
  case round =>
    obtain ⟨k, hk, rfl, hno, hE⟩ := hrel
    have c := hc'.out wr (hE0.trans hE)
    by_cases hlt : k < n
    · have hli : (k : Int) < (n : Int) := by omega
      obtain ⟨x, hx⟩ : ∃ x, L[k]? = some x := ⟨_, List.getElem?_eq_getElem (by rw [← hn'.out]; exact hlt)⟩
      obtain ⟨b, off, hat⟩ := (hR'.out wr (hE0.trans hE)).at
      obtain ⟨rfl, _, hd⟩ := hat (by omega)
      have p := ens_range (by rw [← hn'.out]; exact hd) hx
      have p0 := p 0 _ rfl
      have p1 := p 1 _ rfl
      rw [Nat.add_zero] at p0
      have hnx : Hid (isP key seq x = false → ∀ y ∈ L.take (k + 1), isP key seq y = false) := Lib.hid (fun hP y hy => by
        rw [List.take_add_one, hx] at hy
        rcases List.mem_append.1 hy with hy | hy
        · exact hno.out y hy
        · rw [List.mem_singleton.1 hy]; exact hP)
      have hyes : Hid (isP key seq x = true → o = some x) := Lib.hid (fun hP => by
        rw [ho'.out]
        have h3 := List.take_append_drop k L
        obtain ⟨hk1, hk2⟩ := List.getElem?_eq_some_iff.1 hx
        rw [List.drop_eq_getElem_cons hk1, hk2] at h3
        rw [← h3, List.find?_append, List.find?_eq_none.2 (fun y hy => by rw [hno.out y hy]; simp), List.find?_cons_of_pos hP]
        rfl)
      clear hd hat hx
      cases hkk : x.mark.key.toList == key.toList
      · have hP : isP key seq x = false := by unfold isP; rw [hkk]; rfl
        have hn2 := Lib.hid (hnx.out hP)
        clear hP p
        go_wp2_with fail
        go_roundw
        case rel => exact ⟨k + 1, by omega, by go_num, hn2, hE⟩
        case measure => simp [intOf]; omega
      · by_cases hsq : x.mark.seq ≤ seq
        · have hsi : (x.mark.seq : Int) ≤ (seq : Int) := by omega
          have hfin := Lib.hid (hyes.out (by unfold isP; rw [hkk, decide_eq_true hsq]; rfl))
          have hR1 := hZr.out wr hE
          go_wp2_with (first | (refine wpList_load_mid (by rfl) 49 (.tmp 47) (by rfl) b (off + k * 4) (by rfl) (enRow x).toList _ p Tryz.underlying49 rfl (by exact info_entry) ?_) | (refine wpList_store_row (by rfl) 49 (.tmp 6) (.tmp 48) (by rfl) w.heap.size (enRow x) (by rfl) (by rfl) 49 (enRow zEn) hR1 (by exact info_entry) (by rfl) (by exact en_one x) ?_) | fail)
          have hset : (wr.setRow w.heap.size (enRow x)).heap[w.heap.size]? = some (.cells (enRow x) 49 (0, 0)) := by rw [setRow_heap _ _ _ _ _ _ hR1]
          have hEf : Ext w (wr.setRow w.heap.size (enRow x)) := (hE0.trans hE).setRow (Nat.le_refl _) _
          generalize wr.setRow w.heap.size (enRow x) = Wf at *
          obtain ⟨b0, b1, b2, b3⟩ := en_cells hset
          exact bodyPost_ret (v := .tuple #[.agg (enRow x), .bool true]) (by simp [results, Tryz.results9, go_sem, b0, b1, b2, b3, enRow]) rfl (by rw [hfin.out]; exact ⟨rfl, hEf⟩)
        · have hsi : ¬ (x.mark.seq : Int) ≤ (seq : Int) := by omega
          have hP : isP key seq x = false := by unfold isP; rw [decide_eq_false hsq, Bool.and_false]
          have hn2 := Lib.hid (hnx.out hP)
          clear hP p
          go_wp2_with fail
          go_roundw
          case rel => exact ⟨k + 1, by omega, by go_num, hn2, hE⟩
          case measure => simp [intOf]; omega
    · have hli : ¬ (k : Int) < (n : Int) := by omega
      have hfin : Hid (o = none) := Lib.hid (by
        rw [ho'.out]
        refine List.find?_eq_none.2 (fun y hy => ?_)
        rw [hno.out y (by rw [List.take_of_length_le (by rw [← hn'.out]; omega)]; exact hy)]
        simp)
      have hR1 := hZr.out wr hE
      go_wp2_with (first | (refine wpList_store_row (by rfl) 49 (.tmp 6) (.tmp 49) (by rfl) w.heap.size (enRow zEn) (by rfl) (by rfl) 49 (enRow zEn) hR1 (by exact info_entry) (by rfl) (by exact en_one zEn) ?_) | fail)
      have hset : (wr.setRow w.heap.size (enRow zEn)).heap[w.heap.size]? = some (.cells (enRow zEn) 49 (0, 0)) := by rw [setRow_heap _ _ _ _ _ _ hR1]
      have hEf : Ext w (wr.setRow w.heap.size (enRow zEn)) := (hE0.trans hE).setRow (Nat.le_refl _) _
      generalize wr.setRow w.heap.size (enRow zEn) = Wf at *
      obtain ⟨b0, b1, b2, b3⟩ := en_cells hset
      exact bodyPost_ret (v := .tuple #[.agg (enRow zEn), .bool false]) (by simp [results, Tryz.results9, go_sem, b0, b1, b2, b3, enRow]) rfl (by rw [hfin.out]; exact ⟨rfl, hEf⟩)
/-- What From tells: a row of the call's own. -/
def RFromE (l : List En) (w : World) (e : Ending) (w' : World) : Prop := ∃ a cap, e = .returned (.slice a l.length cap) ∧ OwnC w' w.heap.size 49 4 (.slice a l.length cap) l.length (l.flatMap enL) ∧ Ext w w'
theorem en_all (x : En) : ∀ u ∈ (enRow x).toList, u.oneCell' = true := fun u hu => Array.all_eq_true_iff_forall_mem.1 (en_one x) u (by simpa using hu)
theorem rfrom_any (h : RefZ base w rb L Z) (hr : Rises L) (hs : ∀ e ∈ L, e.small) (hl : L.length ≤ 5000) (m : Mk) (hm : m.key.size ≤ 140737488351232) (most : Int) : Calls Tryz.prog 12 #[.pointer (some ⟨rb, 0, none⟩), .agg #[.string m.key, .int .u64 (m.seq : Int), .bool m.gone], .int .i64 most] w (RFromE ((restL L m).take most.toNat) w) := by
  obtain ⟨a, cap, hc, hR, h1, h2⟩ := h.sees
  obtain ⟨W, hW⟩ : ∃ W, W = w.alloc (.cells #[.string m.key, .int .u64 (m.seq : Int), .bool m.gone] 47) := ⟨_, rfl⟩
  have hE0 : Ext w W := by rw [hW]; exact (Ext.refl _).alloc _
  have hM : MkAt W w.heap.size m := by rw [hW]; exact heap_alloc_new w _
  have hMr := Lib.hid hM.range
  obtain ⟨n, hn⟩ : ∃ n, n = L.length := ⟨_, rfl⟩
  rw [← hn] at hc hR h1 hl
  obtain ⟨R, hRR⟩ : ∃ R, R = (restL L m).take most.toNat := ⟨_, rfl⟩
  rw [← hRR]
  have hc' := Lib.hid hc
  have hR' := Lib.hid hR
  have hn' := Lib.hid hn
  have hW' := Lib.hid hW
  have hs' := Lib.hid hs
  have hRe : Hid (∀ i, n ≤ i → (geL (L.take i) m).length ≤ most.toNat → R = geL (L.take i) m) := Lib.hid (fun i hi hj => by
    rw [List.take_of_length_le (by rw [← hn]; exact hi)] at hj ⊢
    rw [hRR, geL_end hr hj])
  have hRc : Hid (∀ i, (geL (L.take i) m).length = most.toNat → R = geL (L.take i) m) := Lib.hid (fun i hj => by rw [hRR, geL_cut hr hj])
  clear hc hR h hn hW hs hM hRR hr
  go_enter Tryz.func12, Tryz.ntmps12
  go_wp2_with fail
  rw [← hW'.out]
  go_loopw [7, 8] (fun out i wr => ∃ (k j : Nat) (oa : Option Addr) (oc : Nat) (O : List En), i = .int .i64 k ∧ k ≤ n ∧ j ≤ k ∧ out = .slice oa j oc ∧ Hid (O = geL (L.take k) m) ∧ Hid (j = O.length) ∧ j ≤ most.toNat ∧ Hid (OwnC wr W.heap.size 49 4 (.slice oa j oc) j (O.flatMap enL)) ∧ Ext W wr) (fun _ i _ => n - (intOf i).toNat)
  case atStart => exact ⟨0, 0, none, 0, [], rfl, by omega, by omega, rfl, Lib.hid rfl, Lib.hid rfl, by omega, Lib.hid (OwnC.nil _ _ _ _), Ext.refl _⟩
  case round =>
    obtain ⟨k, j, oa, oc, O, rfl, hk, hjk, rfl, hO, hjO, hjm, hown, hE⟩ := hrel
    have c := hc'.out wr (hE0.trans hE)
    by_cases hlt : k < n
    · have hli : (k : Int) < (n : Int) := by omega
      by_cases hjlt : (j : Int) < most
      · obtain ⟨x, hx⟩ : ∃ x, L[k]? = some x := ⟨_, List.getElem?_eq_getElem (by rw [← hn'.out]; exact hlt)⟩
        obtain ⟨b, off, hat⟩ := (hR'.out wr (hE0.trans hE)).at
        obtain ⟨rfl, _, hd⟩ := hat (by omega)
        have p := ens_range (by rw [← hn'.out]; exact hd) hx
        have pm : wr.rangeAt b (off + k * 4) (mkRow x.mark) := fun r v hv => by
          have hr3 : r < 3 := (List.getElem?_eq_some_iff.1 hv).1
          refine p r v ?_
          obtain rfl | rfl | rfl : r = 0 ∨ r = 1 ∨ r = 2 := by omega
          all_goals exact hv
        have q : wr.rangeAt w.heap.size 0 (mkRow m) := fun r v hv => hE.cell (hMr.out r v hv)
        have hsx := (hs'.out x (List.mem_of_getElem? hx)).1
        have hOn : Hid (geL (L.take (k + 1)) m = O ++ if x.mark.ltB m then [] else [x]) := Lib.hid (by rw [geL_succ hx, hO.out])
        clear hd hat hx
        go_upto_region 5 with fail
        refine bqRegion (Ext wr) (by kernel_rfl) (by kernel_rfl) (Ext.refl _).drew ?_
        iterate 3 (refine bqStep (fun K hK => ?_); go_simp; first | (refine hK _ ?_; clear hK K) | (refine ⟨_, fun _ _ => rfl, hK _ ?_⟩; clear hK K))
        refine bqCell (by rfl) 27 _ (by rfl) rb 0 (by rfl) _ (fun w' h => h.cell c) _ Tryz.underlying27 rfl ?_
        simp only [Act.put, List.setIfInBounds_toArray, List.set_cons_zero, List.set_cons_succ]
        iterate 3 (refine bqStep (fun K hK => ?_); go_simp; first | (refine hK _ ?_; clear hK K) | (refine ⟨_, fun _ _ => rfl, hK _ ?_⟩; clear hK K))
        refine bqMid (by rfl) 47 _ (by rfl) b (off + k * 4) (by rfl) _ _ (fun w' h r u hu => h.cell (pm r u hu)) Tryz.underlying47 rfl (by exact info_mark) ?_
        simp only [Act.put, List.setIfInBounds_toArray, List.set_cons_zero, List.set_cons_succ]
        refine bqMid (by rfl) 47 _ (by rfl) w.heap.size 0 (by rfl) _ _ (fun w' h r u hu => h.cell (q r u hu)) Tryz.underlying47 rfl (by exact info_mark) ?_
        simp only [Act.put, List.setIfInBounds_toArray, List.set_cons_zero, List.set_cons_succ, mkRow]
        refine bqStep (fun K hK => ?_)
        go_simp
        refine ⟨_, fun w' hw => calls_ext hw (cmpR_any w' x.mark m hsx hm), hK _ ?_⟩
        clear hK K
        iterate 1 (refine bqStep (fun K hK => ?_); go_simp; first | (refine hK _ ?_; clear hK K) | (refine ⟨_, fun _ _ => rfl, hK _ ?_⟩; clear hK K))
        refine bqNil (fun w5 hE5 => ?_)
        have hE6 := hE.trans hE5
        clear pm q
        cases hlt2 : x.mark.ltB m with
        | true =>
          have hc0 : ¬ 0 ≤ cmpM x.mark m := by rw [cmpM_ge, hlt2]; simp
          have hO2 : Hid (O = geL (L.take (k + 1)) m) := Lib.hid (by rw [hOn.out, hlt2]; simp)
          have hown5 := Lib.hid (hown.out.ext hE5)
          clear hlt2 p
          go_wp2_with fail
          go_roundw
          case rel => exact ⟨k + 1, j, oa, oc, O, by go_num, by omega, by omega, rfl, hO2, hjO, hjm, hown5, hE6⟩
          case measure => simp [intOf]; omega
        | false =>
          have hc0 : 0 ≤ cmpM x.mark m := by rw [cmpM_ge, hlt2]
          have hO2 : Hid (O ++ [x] = geL (L.take (k + 1)) m) := Lib.hid (by rw [hOn.out, hlt2]; simp)
          have hj2 : Hid (j + 1 = (O ++ [x]).length) := Lib.hid (by rw [List.length_append, ← hjO.out]; rfl)
          have hown5 := hown.out.ext hE5
          have c5 := hE5.cell c
          have p5 : w5.rangeAt b (off + k * 4) (enRow x).toList := fun r v hv => hE5.cell (p r v hv)
          have hs5 : W.heap.size ≤ w5.heap.size := hE6.size
          clear hlt2 p c
          go_wp2_with (first | (refine wpList_load_mid (by rfl) 49 (.tmp 41) (by rfl) b (off + k * 4) (by rfl) (enRow x).toList _ p5 Tryz.underlying49 rfl (by exact info_entry) ?_) | (refine wpList_bs_en (by rfl) (.tmp 42) (by rfl) x (by rfl) ?_) | (at_builtin; go_loud (refine wpList_append_c (by rfl) (.tmp 35) (.tmp 43) 27 49 (by rfl) Tryz.underlying27 el_entry w5 W.heap.size j _ (.slice oa j oc) (by rfl) hown5 (enRow x) (by rfl) (by rfl) (en_all x) (by omega) (by omega) hs5 ?_); go_loud (intro v2 w6 hA; have ho6 := hA.own; have hX6 : Ext W w6 := Below.trans hE6 hA.below; obtain ⟨a2, c2, rfl, hq2⟩ := ho6.form)) | fail)
          go_roundw
          case rel => exact ⟨k + 1, j + 1, a2, c2, O ++ [x], by go_num, by omega, by omega, rfl, hO2, hj2, by omega, Lib.hid (by rw [List.flatMap_append]; exact ho6), hX6⟩
          case measure => simp [intOf]; omega
      · have hfin : Hid (R = O) := Lib.hid (by rw [hO.out]; exact hRc.out k (by rw [← hO.out, ← hjO.out]; omega))
        go_wp2_with fail
        go_ret
        exact ⟨oa, oc, by rw [hfin.out, ← hjO.out]; rfl, by rw [hfin.out, ← hjO.out]; exact own_mono hown.out hE0.size, hE0.trans hE⟩
    · have hli : ¬ (k : Int) < (n : Int) := by omega
      have hfin : Hid (R = O) := Lib.hid (by rw [hO.out]; exact hRe.out k (by omega) (by rw [← hO.out, ← hjO.out]; exact hjm))
      go_wp2_with fail
      go_ret
      exact ⟨oa, oc, by rw [hfin.out, ← hjO.out]; rfl, by rw [hfin.out, ← hjO.out]; exact own_mono hown.out hE0.size, hE0.trans hE⟩
end
end Go.Proofs.YtfcpnkalcijflaaGreatDoor
