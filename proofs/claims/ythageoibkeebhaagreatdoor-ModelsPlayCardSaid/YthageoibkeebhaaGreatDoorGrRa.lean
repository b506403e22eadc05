/- Several texts in one: Rn7b Rn8b. No condition. -/
import Derived.Test.YthageoibkeebhaaGreatDoorGrQ
import Derived.Test.YthageoibkeebhaaGreatDoorGrR
import Derived.Test.YthageoibkeebhaaGreatDoorGrH
import Derived.Deep.RegionLaw
/- The document's state: what an ask would change. No condition. -/
namespace Go.Proofs.YthageoibkeebhaaGreatDoor
open Go.RowKit
set_option maxRecDepth 100000
set_option maxHeartbeats 4000000
def chgX (rows : List Rw) (x : Ak) : List Ch := if x.okB = true then chgW rows x else []
section
variable {base st : Nat} {w : World} {rows : List Rw} {sd : List Sa}
theorem ok_len {x : Ak} (h : x.okB = true) : x.chs.length ≤ 16 ∧ (x.kind ≠ 4 → x.chs.length = 0) := by
  have hk := ok_kind h
  unfold Ak.okB at h
  rcases hk with k | k | k | k | k | k
  all_goals simp only [k] at h ⊢
  all_goals simp at h ⊢
  all_goals first | unfold Ak.putB at h | unfold Ak.plainB at h | unfold Ak.casB at h | unfold Ak.scanB at h | unfold Ak.batchB at h
  all_goals simp only [Bool.and_eq_true, decide_eq_true_eq, beq_iff_eq] at h
  all_goals first | (have := h.2.2.1; omega) | (obtain ⟨_, _, _, _, _, _, h⟩ := h; simp [List.length_eq_zero_iff.1 h]; done) | (obtain ⟨_, _, _, _, _, h⟩ := h; simp [List.length_eq_zero_iff.1 h]; done) | (obtain ⟨_, _, _, _, _, _, _, h⟩ := h; simp [List.length_eq_zero_iff.1 h]; done)
theorem changesR_any (h : RefM base w st rows sd) (x : Ak) (a : Option Addr) (cap : Nat) (hch : ChsAt w x.chs a cap) (hs : x.small) : Calls Tryz.prog 28 #[.pointer (some ⟨st, 0, none⟩), .agg (x.row (.slice a x.chs.length cap))] w (ChgO (chgX rows x) w) := by
  obtain ⟨L, hL⟩ : ∃ L, L = chgX rows x := ⟨_, rfl⟩
  rw [← hL]
  unfold chgX chgW at hL
  have hL' := Lib.hid hL
  clear hL
  obtain ⟨W, hW⟩ : ∃ W, W = w.alloc (.cells (x.row (.slice a x.chs.length cap)) 66) := ⟨_, rfl⟩
  have hE : Ext w W := by rw [hW]; exact (Ext.refl _).alloc _
  have hX : W.heap[w.heap.size]? = some (.cells (x.row (.slice a x.chs.length cap)) 66 (0, 0)) := by rw [hW]; exact heap_alloc_new w _
  have hck := Lib.hid (checkR_any W x a cap (hch.ext hE) hs)
  obtain ⟨m, hm⟩ : ∃ m, m = x.chs.length := ⟨_, rfl⟩
  have hcr : Hid (∀ W, Ext w W → RowIs W 3 (.slice a m cap) m (x.chs.flatMap Ch.cells)) := Lib.hid (fun W hE => by rw [hm]; exact hch.1.ext hE)
  rw [← hm] at hX hW hck ⊢
  have hm' := Lib.hid hm
  have hW' := Lib.hid hW
  have hX' := Lib.hid hX
  have hrg := ask_rng hX
  have hc := askc hX
  clear hW hX hm hch
  unfold Ak.row at hW' hrg
  unfold Ak.row
  go_enter Tryz.func28, Tryz.ntmps28
  go_upto_region 1 with fail
  rw [← hW'.out]
  clear hW'
  go_wp2_with (first | (refine wpList_load_mid (by rfl) 66 (.tmp 3) (by rfl) w.heap.size 0 (by rfl) (x.row (.slice a m cap)).toList _ hrg Tryz.underlying66 rfl (by rw [ask_ln]; exact ask_inf) ?_) | fail)
  refine hck.out.mono ?_
  rintro e w1 ⟨rfl, hE1⟩
  have hE2 := hE.trans hE1
  have hL := hL'.out
  clear hL' hrg hc hck
  cases hok : x.okB
  · rw [hok] at hL
    have hL2 : L = [] := by simpa using hL
    clear hok hL
    go_wp2_with fail
    go_ret
    rw [hL2]
    exact chgO_nil hE2
  · rw [if_pos hok] at hL
    have hln := (ok_len hok).1
    rw [← hm'.out] at hln
    obtain ⟨c0, c1, c2, _, _, _, _, c7⟩ := askc (hE1.row hX'.out)
    have hrg := ask_rng (hE1.row hX'.out)
    have hL3 := Lib.hid hL
    clear hL hok
    by_cases k1 : x.kind = 1
    · have hL := hL3.out
      rw [if_pos k1] at hL
      have hL4 := Lib.hid hL
      clear hL hL3
      go_wp2_with fail
      go_ret
      rw [hL4.out]
      exact chgO_one w w1 hE2 ⟨x.key, x.val, false⟩
    by_cases k2 : x.kind = 2
    · have hL := hL3.out
      rw [if_neg k1, if_pos k2] at hL
      have hL4 := Lib.hid hL
      clear hL hL3
      go_wp2_with fail
      go_ret
      rw [hL4.out]
      exact chgO_one w w1 hE2 ⟨x.key, ⟨#[]⟩, true⟩
    by_cases k4 : x.kind = 4
    · have hL := hL3.out
      rw [if_neg k1, if_neg k2, if_pos k4] at hL
      have hL4 := Lib.hid hL
      have hr1 := Lib.hid (hcr.out w1 hE2)
      have h1' := ch_one x.chs
      clear hL hL3
      go_wp2_with (first | (at_builtin; go_loud (refine wpList_append_cs (by rfl) (.const (.slice none 0 0)) (.tmp 38) 64 102 (by rfl) Tryz.underlying64 el_ch w1 w1.heap.size 0 [] (.slice none 0 0) (by rfl) (OwnC.nil _ _ _ _) (.slice a m cap) m _ (by rfl) hr1.out h1' (by omega) (by omega) (Nat.le_refl _) ?_); go_loud (intro v2 w6 ho5 hb6; rw [Nat.zero_add, List.nil_append] at ho5; have ho6 := Lib.hid ho5; have hZ6 : Ext w1 w6 := hb6; clear ho5 hb6; obtain ⟨a2, c2', rfl, hq2⟩ := ho6.out.form; clear hq2)) | fail)
      go_ret
      rw [hL4.out]
      unfold ChgO
      rw [← hm'.out]
      exact ⟨a2, c2', rfl, ho6.out.weak hE2.size, hE2.trans hZ6⟩
    by_cases k3 : x.kind = 3
    · have hL := hL3.out
      rw [if_neg k1, if_neg k2, if_neg k4, if_pos k3] at hL
      have hL4 := Lib.hid hL
      have hmd := Lib.hid (madeR_any (h.ext hE2) x a m cap)
      clear hL hL3 h
      unfold Ak.row at hrg hmd
      go_wp2_with (first | (refine wpList_load_mid (by rfl) 66 (.tmp 3) (by rfl) w.heap.size 0 (by rfl) (x.row (.slice a m cap)).toList _ hrg Tryz.underlying66 rfl (by rw [ask_ln]; exact ask_inf) ?_) | fail)
      refine hmd.out.mono ?_
      rintro e w2 ⟨rfl, hE3⟩
      replace c1 := hE3.cell c1
      replace c2 := hE3.cell c2
      cases hb : casW (findW rows x.key) x
      · have hL5 := hL4.out
        rw [hb] at hL5
        have hL6 : L = [] := by simpa using hL5
        clear hL4 hL5 hb
        go_wp2_with fail
        go_ret
        rw [hL6]
        exact chgO_nil (hE2.trans hE3)
      · have hL5 := hL4.out
        rw [if_pos hb] at hL5
        have hL6 := Lib.hid hL5
        clear hL4 hL5 hb
        go_wp2_with fail
        go_ret
        rw [hL6.out]
        exact chgO_one w w2 (hE2.trans hE3) ⟨x.key, x.val, false⟩
    · have hL := hL3.out
      rw [if_neg k1, if_neg k2, if_neg k4, if_neg k3] at hL
      have hL4 := Lib.hid hL
      clear hL hL3
      go_wp2_with fail
      go_ret
      rw [hL4.out]
      exact chgO_nil hE2
end
end Go.Proofs.YthageoibkeebhaaGreatDoor

/- The document's reply to a KiScan; the reply whole. (Printed by mkrn8.py.) No condition. -/
namespace Go.Proofs.YthageoibkeebhaaGreatDoor
open Go.RowKit
set_option maxRecDepth 100000
set_option maxHeartbeats 4000000
theorem inR_less (x : Ak) (r : Rw) : inR x r = (!(Op.bytesLess r.key.toList x.key.toList) && !(Op.bytesLess x.to.toList r.key.toList)) := by
  rw [Bool.eq_iff_iff, inR_iff, Bool.and_eq_true, Bool.not_eq_true', Bool.not_eq_true', ltK_not, ltK_not]
theorem scanL_full {x : Ak} {l : List Rw} {k : Nat} (h : ¬ ((scanL x (l.take k)).length : Int) < x.many) (_h0 : 0 ≤ x.many) : scanL x (l.take k) = scanL x l := by
  unfold scanL at h ⊢
  rw [List.length_take] at h
  have h1 := List.take_append_drop k l
  have h2 : l.filter (inR x) = (l.take k).filter (inR x) ++ (l.drop k).filter (inR x) := by rw [← List.filter_append, h1]
  rw [h2, List.take_append_of_le_length (by omega)]
section
variable {base st : Nat} {w : World} {rows : List Rw} {sd : List Sa}
theorem replyR_scan (h : RefM base w st rows sd) (x : Ak) (a : Option Addr) (n cap : Nat) (hk : x.kind = 6) (hmany : 0 ≤ x.many ∧ x.many ≤ 64) (hl : rows.length ≤ 1000000) (hks : ∀ r ∈ rows, r.key.size ≤ 140737488351232) (hto : x.to.size ≤ 140737488351232) : Calls Tryz.prog 105 #[.pointer (some ⟨st, 0, none⟩), .agg (x.row (.slice a n cap))] w (TwinE 0 false (scanL x rows) w) := by
  obtain ⟨V, hV⟩ : ∃ W, W = (w.alloc (.cells (x.row (.slice a n cap)) 66)).alloc (.cells zRe 74) := ⟨_, rfl⟩
  have hE0 : Ext w V := by rw [hV]; exact ((Ext.refl _).alloc _).alloc _
  have hVs : w.heap.size + 2 ≤ V.heap.size := by rw [hV]; simp
  have hVx : V.heap[w.heap.size]? = some (.cells (x.row (.slice a n cap)) 66 (0, 0)) := by rw [hV]; exact ((Ext.refl _).alloc _).row (heap_alloc_new w _)
  have hVr : V.heap[w.heap.size + 1]? = some (.cells zRe 74 (0, 0)) := by
    have h1 := heap_alloc_new (w.alloc (.cells (x.row (.slice a n cap)) 66)) (.cells zRe 74)
    rw [show (w.alloc (.cells (x.row (.slice a n cap)) 66)).heap.size = w.heap.size + 1 by simp] at h1
    rw [hV]; exact h1
  have hget := Lib.hid (getR_any (h.ext hE0) x.key)
  have h' := Lib.hid h
  obtain ⟨o, ho⟩ : ∃ o, o = findW rows x.key := ⟨_, rfl⟩
  rw [← ho] at hget
  try rw [← ho]
  have ho' := Lib.hid ho
  obtain ⟨x0, x1, x2, x3, x4, x5, x6, x7⟩ := askc hVx
  have hst := Lib.hid (fun (w1 : World) (hE1 : Ext V w1) (r : Rw) => RpS.start hE0 hVs hVx hVr hE1 r)
  have hV' := Lib.hid hV
  have hk' := Lib.hid hk
  clear h hV hVx hVr hk ho hVs
  obtain ⟨N, hN⟩ : ∃ N, N = rows.length := ⟨_, rfl⟩
  have hsee := Lib.hid h'.out.sees
  have hN' := Lib.hid hN
  obtain ⟨hms, hmb⟩ := hmany
  have hks' := Lib.hid hks
  rw [← hN] at hl
  clear hN hks
  unfold Ak.row zRe at hV'
  unfold Ak.row
  go_enter Tryz.func105, Tryz.ntmps105
  go_upto_region 1 with fail
  rw [← hV'.out]
  go_wp2_with fail
  refine hget.out.mono ?_
  rintro e w1 ⟨rfl, hE1⟩
  obtain ⟨r, hr⟩ : ∃ r, r = o.getD zRw := ⟨_, rfl⟩
  obtain ⟨b, hb⟩ : ∃ b, b = o.isSome := ⟨_, rfl⟩
  rw [← hr, ← hb]
  have hr' := Lib.hid hr
  have hb' := Lib.hid hb
  have hS := hst.out w1 hE1 r
  obtain ⟨g, hg⟩ : ∃ g, g = w1.heap.size := ⟨_, rfl⟩
  have hg' := Lib.hid hg
  clear hr hb hget x0 x1 x2 x3 x4 x5 x6 x7 hst hV' hg
  unfold rowR
  go_upto_region 3 with fail
  generalize World.alloc _ _ = W2 at hS ⊢
  rw [← hg'.out] at hS ⊢
  clear hE1
  have hS2 := Lib.hid hS
  clear hS
  obtain ⟨L, hL⟩ : ∃ L, L = scanL x rows := ⟨_, rfl⟩
  have hL' := Lib.hid hL
  clear hL
  obtain ⟨ra, rc, sa, sc, hcel, hRr, _, _, _⟩ := hsee.out
  rw [← hN'.out] at hcel hRr
  have hc' : Hid (∀ W, Ext w W → W.cell? ⟨st, 0, none⟩ = some (.slice ra N rc)) := Lib.hid (fun W hE => (hcel W hE).1)
  have hR' := Lib.hid hRr
  clear hcel hRr hsee hb' hr'
  obtain ⟨x0, x1, x2, x3, x4, x5, x6, x7⟩ := askc hS2.out.2.2.1
  obtain ⟨r0, r1⟩ := row_cells hS2.out.2.2.2.2.1
  obtain ⟨y0, y1, y2⟩ := re_cells hS2.out.2.2.2.2.2
  obtain ⟨_, z1, z2⟩ := hS2.out.cells
  rw [hk'.out] at x0
  go_upto_region 16 with fail
  clear x0 x1 x2 x3 x4 x5 x6 x7 r0 r1 y0 y1 y2 z1 z2
  go_wp2_with fail
  go_loopw [8] (fun i wr => ∃ (k m : Nat) (oa : Option Addr) (oc : Nat), k ≤ N ∧ i = .int .i64 k ∧ Hid (m = (scanL x (rows.take k)).length) ∧ Hid (RpS w wr x (.slice a n cap) g r false (.slice oa m oc)) ∧ Hid (OwnC wr (g + 2) 84 2 (.slice oa m oc) m ((scanL x (rows.take k)).flatMap rwL))) (fun i _ => N - (intOf i).toNat)
  case atStart => exact ⟨0, 0, none, 0, by omega, rfl, Lib.hid (by simp [scanL]), hS2, Lib.hid (by simpa [scanL] using OwnC.nil _ _ _ _)⟩
  case round =>
    obtain ⟨k, m, oa, oc, hk, rfl, hm, hS, hown⟩ := hrel
    have hEw := hS.out.1
    have s0 := hc'.out wr hEw
    obtain ⟨x0, x1, x2, x3, x4, x5, x6, x7⟩ := askc hS.out.2.2.1
    obtain ⟨r0, r1⟩ := row_cells hS.out.2.2.2.2.1
    obtain ⟨y0, y1, y2⟩ := re_cells hS.out.2.2.2.2.2
    obtain ⟨_, z1, z2⟩ := hS.out.cells
    rw [hk'.out] at x0
    by_cases hlt : k < N
    · have hli : (k : Int) < (N : Int) := by omega
      by_cases hmm : (m : Int) < x.many
      · obtain ⟨q, hq⟩ : ∃ q, rows[k]? = some q := ⟨_, List.getElem?_eq_getElem (by rw [← hN'.out]; exact hlt)⟩
        have htk : rows.take (k + 1) = rows.take k ++ [q] := by rw [List.take_add_one, hq]; rfl
        have hadd := scanL_add x (rows.take k) q
        rw [← htk, ← hm.out] at hadd
        have hadd' := Lib.hid hadd
        have hm64 : m < 64 := by omega
        obtain ⟨rb, ro, hat⟩ := (hR'.out wr hEw).at
        obtain ⟨rfl, hcap, hd⟩ := hat (by omega)
        have hrg := rws_range (by rw [← hN'.out]; exact hd) hq
        have hqk := hks'.out q (List.mem_of_getElem? hq)
        have g0 : Hid (∀ W, Ext wr W → W.cell? ⟨rb, ro + k * 2, none⟩ = some (.string q.key)) := Lib.hid (fun W hE => by have := hE.cell (hrg 0 _ rfl); rwa [Nat.add_zero] at this)
        have gs : Hid (∀ W, Ext wr W → W.cell? ⟨st, 0, none⟩ = some (.slice (some ⟨rb, ro, none⟩) N rc)) := Lib.hid (fun W hE => hc'.out W (hEw.trans hE))
        have gx : Hid (∀ W, Ext wr W → W.cell? ⟨w.heap.size, 1, none⟩ = some (.string x.key) ∧ W.cell? ⟨w.heap.size, 5, none⟩ = some (.string x.to)) := Lib.hid (fun W hE => ⟨hE.cell x1, hE.cell x5⟩)
        have c1 : Hid (∀ W, Ext wr W → Calls Tryz.prog 114 #[.string q.key, .string x.key] W fun e w' => e = .returned (.bool (Op.bytesLess q.key.toList x.key.toList)) ∧ Ext W w') := Lib.hid (fun W _ => less_any W q.key x.key hqk)
        have c2 : Hid (∀ W, Ext wr W → Calls Tryz.prog 114 #[.string x.to, .string q.key] W fun e w' => e = .returned (.bool (Op.bytesLess x.to.toList q.key.toList)) ∧ Ext W w') := Lib.hid (fun W _ => less_any W x.to q.key hto)
        have hin := Lib.hid (inR_less x q)
        have hq' : Hid (rows[k]? = some q) := Lib.hid hq
        have hd' := Lib.hid hd
        clear hadd htk hrg hat hd hq
        have hki : 0 ≤ (k : Int) := by omega
        have hcapk : k < rc := by omega
        go_upto_region 19 with fail
        cases hb1 : Op.bytesLess q.key.toList x.key.toList
        · rw [hb1] at c1 hin
          cases hb2 : Op.bytesLess x.to.toList q.key.toList
          · rw [hb2] at c2 hin
            clear hb1 hb2
            have hnx : Hid (scanL x (rows.take (k + 1)) = scanL x (rows.take k) ++ [q]) := Lib.hid (by rw [hadd'.out]; exact if_pos ⟨hin.out, hmm⟩)
            refine bqRegion (Ext wr) (by kernel_rfl) (by kernel_rfl) (Ext.refl _).drew ?_
            iterate 3 (refine bqStep (fun K hK => ?_); go_simp; first | (refine hK _ ?_; clear hK K) | (refine ⟨_, fun _ _ => rfl, hK _ ?_⟩; clear hK K))
            refine bqCell (by rfl) 22 _ (by rfl) st 0 (by rfl) _ (fun w' hw => gs.out w' hw) _ Tryz.underlying22 rfl ?_
            iterate 3 (refine bqStep (fun K hK => ?_); go_simp; first | (refine hK _ ?_; clear hK K) | (refine ⟨_, fun _ _ => rfl, hK _ ?_⟩; clear hK K))
            refine bqCell (by rfl) 9 _ (by rfl) rb (ro + k * 2) (by rfl) _ (fun w' hw => g0.out w' hw) _ Tryz.underlying9 rfl ?_
            iterate 1 (refine bqStep (fun K hK => ?_); go_simp; first | (refine hK _ ?_; clear hK K) | (refine ⟨_, fun _ _ => rfl, hK _ ?_⟩; clear hK K))
            refine bqCell (by rfl) 9 _ (by rfl) w.heap.size 1 (by rfl) _ (fun w' hw => (gx.out w' hw).1) _ Tryz.underlying9 rfl ?_
            refine bqStep (fun K hK => ?_); go_simp; refine ⟨_, fun w' hw => (c1.out w' hw).mono (fun e w'' h => ⟨h.1, hw.trans h.2⟩), hK _ ?_⟩; clear hK K
            iterate 2 (refine bqStep (fun K hK => ?_); go_simp; first | (refine hK _ ?_; clear hK K) | (refine ⟨_, fun _ _ => rfl, hK _ ?_⟩; clear hK K))
            iterate 1 (refine bqStep (fun K hK => ?_); go_simp; first | (refine hK _ ?_; clear hK K) | (refine ⟨_, fun _ _ => rfl, hK _ ?_⟩; clear hK K))
            refine bqCell (by rfl) 9 _ (by rfl) w.heap.size 5 (by rfl) _ (fun w' hw => (gx.out w' hw).2) _ Tryz.underlying9 rfl ?_
            iterate 3 (refine bqStep (fun K hK => ?_); go_simp; first | (refine hK _ ?_; clear hK K) | (refine ⟨_, fun _ _ => rfl, hK _ ?_⟩; clear hK K))
            refine bqCell (by rfl) 22 _ (by rfl) st 0 (by rfl) _ (fun w' hw => gs.out w' hw) _ Tryz.underlying22 rfl ?_
            iterate 3 (refine bqStep (fun K hK => ?_); go_simp; first | (refine hK _ ?_; clear hK K) | (refine ⟨_, fun _ _ => rfl, hK _ ?_⟩; clear hK K))
            refine bqCell (by rfl) 9 _ (by rfl) rb (ro + k * 2) (by rfl) _ (fun w' hw => g0.out w' hw) _ Tryz.underlying9 rfl ?_
            refine bqStep (fun K hK => ?_); go_simp; refine ⟨_, fun w' hw => (c2.out w' hw).mono (fun e w'' h => ⟨h.1, hw.trans h.2⟩), hK _ ?_⟩; clear hK K
            iterate 1 (refine bqStep (fun K hK => ?_); go_simp; first | (refine hK _ ?_; clear hK K) | (refine ⟨_, fun _ _ => rfl, hK _ ?_⟩; clear hK K))
            iterate 1 (refine bqStep (fun K hK => ?_); go_simp; first | (refine hK _ ?_; clear hK K) | (refine ⟨_, fun _ _ => rfl, hK _ ?_⟩; clear hK K))
            refine bqNil (fun w9 hE9 => ?_)
            try simp only [Act.put, List.setIfInBounds_toArray, List.set_cons_zero, List.set_cons_succ]
            clear x0 x1 x2 x3 x4 x5 x6 x7 r0 r1 y0 y1 y2 z1 z2 s0
            have hEw9 := hEw.trans hE9
            have hS9 := Lib.hid (hS.out.ext hE9)
            have hgs : g + 2 ≤ w9.drew.heap.size := (Array.getElem?_eq_some_iff.1 hS9.out.2.2.2.2.2).1
            have hownd := Lib.hid ((hown.out.ext hE9).ext (Ext.refl w9).drew)
            obtain ⟨xs, hxs⟩ : ∃ xs, xs = (scanL x (rows.take k)).flatMap rwL := ⟨_, rfl⟩
            rw [← hxs] at hownd
            have hxs' := Lib.hid hxs
            clear hxs
            have hrw : ∀ W, Ext wr W → W.cell? ⟨rb, ro + k * 2, none⟩ = some (.string q.key) ∧ W.cell? ⟨rb, ro + k * 2 + 1, none⟩ = some (.string q.val) := fun W hE => by
              have h1 := rws_range (by rw [← hN'.out]; exact hd'.out) hq'.out
              exact ⟨g0.out W hE, hE.cell (h1 1 _ rfl)⟩
            have hE9d : Ext wr w9.drew := hE9.trans (Ext.refl _).drew
            obtain ⟨qa0, qa1⟩ := hrw w9.drew hE9d
            have sa0 := gs.out w9.drew hE9d
            have ya2 := (re_cells (hS9.out.ext (Ext.refl _).drew).2.2.2.2.2).2.2
            have yb2 := (re_cells (hS9.out.ext ((Ext.refl _).drew.alloc (.cells #[.string q.key, .string q.val] 84))).2.2.2.2.2).2.2
            have yc2 : (w9.alloc (.cells #[.string q.key, .string q.val] 84)).drew.cell? ⟨g + 1, 2, none⟩ = _ := yb2
            have hfin : Hid (∀ v' w6, AppK w9.drew w6 (g + 2) 84 2 (.slice oa m oc) v' m xs [.string q.key, .string q.val] → w6.cell? ⟨g + 1, 2, none⟩ = some (.slice oa m oc) ∧ w6.frozen? ⟨g + 1, 2, none⟩ = false ∧ (∃ a2 c2, v' = .slice a2 (m + 1) c2) ∧ Hid (RpS w (w6.setCell ⟨g + 1, 2, none⟩ v') x (.slice a n cap) g r false v' ∧ OwnC (w6.setCell ⟨g + 1, 2, none⟩ v') (g + 2) 84 2 v' (m + 1) ((scanL x (rows.take (k + 1))).flatMap rwL))) := Lib.hid (fun v' w6 hA => by
              have hE6 : Ext w w6 := by
                refine OffB.ext (OffB.trans (OffB.of_ext (hEw9.trans (Ext.refl w9).drew)) hA.off) ?_
                intro b hbl hb
                have := (OwnC.lt hownd.out b hb).1
                have h2 := hS9.out.2.1
                omega
              have hkp : ∀ {b : Nat} {c : Array Value} {t : TypeId}, b < g + 2 → w9.heap[b]? = some (.cells c t (0, 0)) → w6.heap[b]? = some (.cells c t (0, 0)) := fun hb hc => (hA.off.block _ (Array.getElem?_eq_some_iff.1 hc).1 (fun he => by have := (OwnC.lt hownd.out _ he).1; omega)).trans hc
              obtain ⟨_, s2, s3, s4, s5, s6⟩ := hS9.out
              have hS6 : RpS w w6 x (.slice a n cap) g r false (.slice oa m oc) := ⟨hE6, s2, hkp (by omega) s3, hkp (by omega) s4, hkp (by omega) s5, hkp (by omega) s6⟩
              obtain ⟨_, _, z2⟩ := hS6.cells
              refine ⟨(re_cells hS6.2.2.2.2.2).2.2, z2, ?_, Lib.hid ⟨hS6.put 2 v' rfl, ?_⟩⟩
              · obtain ⟨a2, c2, e, _⟩ := hA.own.form
                exact ⟨a2, c2, e⟩
              · have h1 := own_re hA.own hS6.2.2.2.2.2 (OffB.setCell (B := (· = g + 1)) (OffB.refl _) (p := ⟨g + 1, 2, none⟩) rfl v')
                rw [hnx.out, List.flatMap_append, ← hxs'.out]
                exact h1)
            clear hrw hS9 hE9
            go_upto_region 20 with fail
            go_region_law (first | ((refine step_append_k rfl (.tmp 87) (.tmp 95) 22 84 rfl Tryz.underlying22 el_row w9.drew (g + 2) m xs (.slice oa m oc) (by rfl) hownd.out #[.string q.key, .string q.val] (by rfl) (by rfl) (by simp [Value.oneCell']) (by omega) (by omega) hgs ?_); (intro v' w6 hA; obtain ⟨hc6, hz6, hv6, hfin6⟩ := hfin.out _ w6 hA; obtain ⟨oa4, oc4, rfl⟩ := hv6; clear hA)) | fail)
            all_goals
              obtain ⟨hS8, hown8⟩ := hfin6.out
              have hS8' := Lib.hid hS8
              have hown8' := Lib.hid hown8
              clear hS8 hown8 hfin6 hc6 hz6 qa0 qa1 sa0 ya2 yb2 yc2
              generalize World.setCell _ _ _ = W8 at hS8' hown8' ⊢
              go_wp2_with fail
              go_roundw
              case rel => exact ⟨k + 1, m + 1, oa4, oc4, by omega, by go_num, Lib.hid (by rw [hnx.out, List.length_append, ← hm.out]; rfl), hS8', hown8'⟩
              case measure => simp [intOf]; omega
          · rw [hb2] at c2 hin
            clear hb1 hb2
            have hnx : Hid (scanL x (rows.take (k + 1)) = scanL x (rows.take k)) := Lib.hid (by rw [hadd'.out]; exact if_neg (fun h => by have := hin.out; rw [h.1] at this; cases this))
            refine bqRegion (Ext wr) (by kernel_rfl) (by kernel_rfl) (Ext.refl _).drew ?_
            iterate 3 (refine bqStep (fun K hK => ?_); go_simp; first | (refine hK _ ?_; clear hK K) | (refine ⟨_, fun _ _ => rfl, hK _ ?_⟩; clear hK K))
            refine bqCell (by rfl) 22 _ (by rfl) st 0 (by rfl) _ (fun w' hw => gs.out w' hw) _ Tryz.underlying22 rfl ?_
            iterate 3 (refine bqStep (fun K hK => ?_); go_simp; first | (refine hK _ ?_; clear hK K) | (refine ⟨_, fun _ _ => rfl, hK _ ?_⟩; clear hK K))
            refine bqCell (by rfl) 9 _ (by rfl) rb (ro + k * 2) (by rfl) _ (fun w' hw => g0.out w' hw) _ Tryz.underlying9 rfl ?_
            iterate 1 (refine bqStep (fun K hK => ?_); go_simp; first | (refine hK _ ?_; clear hK K) | (refine ⟨_, fun _ _ => rfl, hK _ ?_⟩; clear hK K))
            refine bqCell (by rfl) 9 _ (by rfl) w.heap.size 1 (by rfl) _ (fun w' hw => (gx.out w' hw).1) _ Tryz.underlying9 rfl ?_
            refine bqStep (fun K hK => ?_); go_simp; refine ⟨_, fun w' hw => (c1.out w' hw).mono (fun e w'' h => ⟨h.1, hw.trans h.2⟩), hK _ ?_⟩; clear hK K
            iterate 2 (refine bqStep (fun K hK => ?_); go_simp; first | (refine hK _ ?_; clear hK K) | (refine ⟨_, fun _ _ => rfl, hK _ ?_⟩; clear hK K))
            iterate 1 (refine bqStep (fun K hK => ?_); go_simp; first | (refine hK _ ?_; clear hK K) | (refine ⟨_, fun _ _ => rfl, hK _ ?_⟩; clear hK K))
            refine bqCell (by rfl) 9 _ (by rfl) w.heap.size 5 (by rfl) _ (fun w' hw => (gx.out w' hw).2) _ Tryz.underlying9 rfl ?_
            iterate 3 (refine bqStep (fun K hK => ?_); go_simp; first | (refine hK _ ?_; clear hK K) | (refine ⟨_, fun _ _ => rfl, hK _ ?_⟩; clear hK K))
            refine bqCell (by rfl) 22 _ (by rfl) st 0 (by rfl) _ (fun w' hw => gs.out w' hw) _ Tryz.underlying22 rfl ?_
            iterate 3 (refine bqStep (fun K hK => ?_); go_simp; first | (refine hK _ ?_; clear hK K) | (refine ⟨_, fun _ _ => rfl, hK _ ?_⟩; clear hK K))
            refine bqCell (by rfl) 9 _ (by rfl) rb (ro + k * 2) (by rfl) _ (fun w' hw => g0.out w' hw) _ Tryz.underlying9 rfl ?_
            refine bqStep (fun K hK => ?_); go_simp; refine ⟨_, fun w' hw => (c2.out w' hw).mono (fun e w'' h => ⟨h.1, hw.trans h.2⟩), hK _ ?_⟩; clear hK K
            iterate 1 (refine bqStep (fun K hK => ?_); go_simp; first | (refine hK _ ?_; clear hK K) | (refine ⟨_, fun _ _ => rfl, hK _ ?_⟩; clear hK K))
            iterate 1 (refine bqStep (fun K hK => ?_); go_simp; first | (refine hK _ ?_; clear hK K) | (refine ⟨_, fun _ _ => rfl, hK _ ?_⟩; clear hK K))
            refine bqNil (fun w9 hE9 => ?_)
            try simp only [Act.put, List.setIfInBounds_toArray, List.set_cons_zero, List.set_cons_succ]
            clear x0 x1 x2 x3 x4 x5 x6 x7 r0 r1 y0 y1 y2 z1 z2 s0
            go_wp2_with fail
            go_roundw
            case rel => exact ⟨k + 1, m, oa, oc, by omega, by go_num, Lib.hid (by rw [hnx.out]; exact hm.out), Lib.hid (hS.out.ext hE9), Lib.hid (by rw [hnx.out]; exact hown.out.ext hE9)⟩
            case measure => simp [intOf]; omega
        · rw [hb1] at c1 hin
          clear hb1
          have hnx : Hid (scanL x (rows.take (k + 1)) = scanL x (rows.take k)) := Lib.hid (by rw [hadd'.out]; exact if_neg (fun h => by have := hin.out; rw [h.1] at this; cases this))
          refine bqRegion (Ext wr) (by kernel_rfl) (by kernel_rfl) (Ext.refl _).drew ?_
          iterate 3 (refine bqStep (fun K hK => ?_); go_simp; first | (refine hK _ ?_; clear hK K) | (refine ⟨_, fun _ _ => rfl, hK _ ?_⟩; clear hK K))
          refine bqCell (by rfl) 22 _ (by rfl) st 0 (by rfl) _ (fun w' hw => gs.out w' hw) _ Tryz.underlying22 rfl ?_
          iterate 3 (refine bqStep (fun K hK => ?_); go_simp; first | (refine hK _ ?_; clear hK K) | (refine ⟨_, fun _ _ => rfl, hK _ ?_⟩; clear hK K))
          refine bqCell (by rfl) 9 _ (by rfl) rb (ro + k * 2) (by rfl) _ (fun w' hw => g0.out w' hw) _ Tryz.underlying9 rfl ?_
          iterate 1 (refine bqStep (fun K hK => ?_); go_simp; first | (refine hK _ ?_; clear hK K) | (refine ⟨_, fun _ _ => rfl, hK _ ?_⟩; clear hK K))
          refine bqCell (by rfl) 9 _ (by rfl) w.heap.size 1 (by rfl) _ (fun w' hw => (gx.out w' hw).1) _ Tryz.underlying9 rfl ?_
          refine bqStep (fun K hK => ?_); go_simp; refine ⟨_, fun w' hw => (c1.out w' hw).mono (fun e w'' h => ⟨h.1, hw.trans h.2⟩), hK _ ?_⟩; clear hK K
          iterate 2 (refine bqStep (fun K hK => ?_); go_simp; first | (refine hK _ ?_; clear hK K) | (refine ⟨_, fun _ _ => rfl, hK _ ?_⟩; clear hK K))
          iterate 12 (refine bqSkip (by rfl) ?_; simp only [Act.put, List.setIfInBounds_toArray, List.set_cons_zero, List.set_cons_succ])
          iterate 1 (refine bqStep (fun K hK => ?_); go_simp; first | (refine hK _ ?_; clear hK K) | (refine ⟨_, fun _ _ => rfl, hK _ ?_⟩; clear hK K))
          refine bqNil (fun w9 hE9 => ?_)
          try simp only [Act.put, List.setIfInBounds_toArray, List.set_cons_zero, List.set_cons_succ]
          clear x0 x1 x2 x3 x4 x5 x6 x7 r0 r1 y0 y1 y2 z1 z2 s0
          go_wp2_with fail
          go_roundw
          case rel => exact ⟨k + 1, m, oa, oc, by omega, by go_num, Lib.hid (by rw [hnx.out]; exact hm.out), Lib.hid (hS.out.ext hE9), Lib.hid (by rw [hnx.out]; exact hown.out.ext hE9)⟩
          case measure => simp [intOf]; omega
      · have hfin := scanL_full (l := rows) (k := k) (x := x) (by rw [← hm.out]; exact hmm) hms
        rw [← hL'.out] at hfin
        have hm2 : Hid (m = L.length) := Lib.hid (by rw [← hfin]; exact hm.out)
        have hown2 : OwnC wr w.heap.size 84 2 (.slice oa m oc) m (L.flatMap rwL) := by rw [← hfin]; exact hown.out.weak (by have := hS.out.2.1; omega)
        have hown2' := Lib.hid hown2
        clear hfin hown2
        go_upto_region 21 with fail
        clear x0 x1 x2 x3 x4 x5 x6 x7 r0 r1 y0 y1 y2 z1 z2
        obtain ⟨y0, y1, y2⟩ := re_cells hS.out.2.2.2.2.2
        have hR3 := hS.out.cells.1
        obtain ⟨hset, hown3, hEf⟩ := hS.out.fin hown2'.out
        have hset' := Lib.hid hset
        have hown3' := Lib.hid hown3
        have hEf' := Lib.hid hEf
        clear hset hown3 hEf
        go_wp2_with (first | (refine wpList_store_row (by rfl) 74 (.tmp 4) (.tmp 98) (by rfl) (w.heap.size + 1) (reH 0 false (.slice oa m oc)) (by rfl) (by rfl) 74 zRe hR3 (by exact info_reply) (by rfl) (reH_one _ _ _ _ _) ?_) | fail)
        generalize World.setRow _ _ _ = Wf at hset' hown3' hEf' ⊢
        obtain ⟨c0, c1, c2'⟩ := re_cells hset'.out
        exact bodyPost_ret (v := .agg (reH 0 false (.slice oa m oc))) (by simp [results, Tryz.results105, go_sem, c0, c1, c2', reH]) rfl (by rw [← hL'.out]; unfold TwinE; rw [← hm2.out]; exact ⟨oa, oc, rfl, hown3'.out, hEf'.out⟩)
    · have hli : ¬ (k : Int) < (N : Int) := by omega
      have hfin : scanL x (rows.take k) = L := by rw [hL'.out, List.take_of_length_le (by rw [← hN'.out]; omega)]
      have hm2 : Hid (m = L.length) := Lib.hid (by rw [← hfin]; exact hm.out)
      have hown2 : OwnC wr w.heap.size 84 2 (.slice oa m oc) m (L.flatMap rwL) := by rw [← hfin]; exact hown.out.weak (by have := hS.out.2.1; omega)
      have hown2' := Lib.hid hown2
      clear hfin hown2
      go_upto_region 21 with fail
      clear x0 x1 x2 x3 x4 x5 x6 x7 r0 r1 y0 y1 y2 z1 z2
      obtain ⟨y0, y1, y2⟩ := re_cells hS.out.2.2.2.2.2
      have hR3 := hS.out.cells.1
      obtain ⟨hset, hown3, hEf⟩ := hS.out.fin hown2'.out
      have hset' := Lib.hid hset
      have hown3' := Lib.hid hown3
      have hEf' := Lib.hid hEf
      clear hset hown3 hEf
      go_wp2_with (first | (refine wpList_store_row (by rfl) 74 (.tmp 4) (.tmp 98) (by rfl) (w.heap.size + 1) (reH 0 false (.slice oa m oc)) (by rfl) (by rfl) 74 zRe hR3 (by exact info_reply) (by rfl) (reH_one _ _ _ _ _) ?_) | fail)
      generalize World.setRow _ _ _ = Wf at hset' hown3' hEf' ⊢
      obtain ⟨c0, c1, c2'⟩ := re_cells hset'.out
      exact bodyPost_ret (v := .agg (reH 0 false (.slice oa m oc))) (by simp [results, Tryz.results105, go_sem, c0, c1, c2', reH]) rfl (by rw [← hL'.out]; unfold TwinE; rw [← hm2.out]; exact ⟨oa, oc, rfl, hown3'.out, hEf'.out⟩)
theorem replyR_kept (h : RefM base w st rows sd) (x : Ak) (a : Option Addr) (n cap : Nat) (hok : x.okB = true) (hk : keptP x) : Calls Tryz.prog 105 #[.pointer (some ⟨st, 0, none⟩), .agg (x.row (.slice a n cap))] w (YesE (yesW rows x) w) := by
  rcases ok_kind hok with k | k | k | k | k | k
  · rw [show yesW rows x = true by unfold yesW; rw [if_pos (.inl k)]]; exact replyR_put h x a n cap k
  · rw [show yesW rows x = (findW rows x.key).isSome by unfold yesW; rw [if_neg (by omega), if_pos (.inl k)]]; exact replyR_del h x a n cap k
  · rw [show yesW rows x = casW (findW rows x.key) x by unfold yesW; rw [if_neg (by omega), if_neg (by omega), if_pos k]]; exact replyR_cas h x a n cap k
  · rw [show yesW rows x = true by unfold yesW; rw [if_pos (.inr k)]]; exact replyR_batch h x a n cap k
  · exact absurd k hk.1
  · exact absurd k hk.2
theorem replyR_look (h : RefM base w st rows sd) (x : Ak) (a : Option Addr) (n cap : Nat) (hok : x.okB = true) (hk : ¬ keptP x) (hl : rows.length ≤ 1000000) (hks : ∀ r ∈ rows, r.key.size ≤ 140737488351232) (hs : x.small) : Calls Tryz.prog 105 #[.pointer (some ⟨st, 0, none⟩), .agg (x.row (.slice a n cap))] w (TwinE 0 (yesW rows x) (rowsW rows x) w) := by
  have hkk : x.kind = 5 ∨ x.kind = 6 := by unfold keptP at hk; omega
  rcases hkk with k | k
  · rw [show yesW rows x = (findW rows x.key).isSome by unfold yesW; rw [if_neg (by omega), if_pos (.inr k)], show rowsW rows x = (findW rows x.key).toList by unfold rowsW; rw [if_pos k]]
    exact replyR_get h x a n cap k
  · rw [show yesW rows x = false by unfold yesW; rw [if_neg (by omega), if_neg (by omega), if_neg (by omega)], show rowsW rows x = scanL x rows by unfold rowsW; rw [if_neg (by omega), if_pos k]]
    refine replyR_scan h x a n cap k ?_ hl hks hs.2.2.2.2.1
    unfold Ak.okB at hok
    rw [if_neg (by omega), if_neg (by omega), if_neg (by omega), if_pos k] at hok
    unfold Ak.scanB at hok
    simp only [Bool.and_eq_true, decide_eq_true_eq] at hok
    exact ⟨hok.2.2.1, hok.2.2.2.1⟩
end
end Go.Proofs.YthageoibkeebhaaGreatDoor
