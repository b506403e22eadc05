/- Several texts in one: LM6 SmG. No condition. -/
import Derived.Test.YthageoibkeebhaaGreatDoorGrL
import Derived.Test.YthageoibkeebhaaGreatDoorMod21
import Derived.Test.YthageoibkeebhaaGreatDoorLfS
/- SameReply, SameSaid, SameSaids. No condition. -/
namespace Go.Proofs.YthageoibkeebhaaGreatDoor
open Go.RowKit
set_option maxRecDepth 100000
set_option maxHeartbeats 1000000
theorem sreply_any (w : World) (e e' : Int) (y y' : Bool) (l l' : List Rw) (a a' : Option Addr) (cap cap' : Nat) (h1 : RowIs w 2 (.slice a l.length cap) l.length (l.flatMap rwL)) (h2 : RowIs w 2 (.slice a' l'.length cap') l'.length (l'.flatMap rwL)) :
    Calls Tryz.prog 32 #[.agg #[.int .i64 e, .bool y, .slice a l.length cap], .agg #[.int .i64 e', .bool y', .slice a' l'.length cap']] w fun r w' => r = .returned (.bool (decide (e = e' ∧ y = y' ∧ l = l'))) ∧ Ext w w' := by
  by_cases he : e = e'
  · subst he
    by_cases hy : y = y'
    · subst hy
      have hd : decide (e = e ∧ y = y ∧ l = l') = decide (l = l') := by simp
      rw [hd]
      obtain ⟨W, hW⟩ : ∃ W, W = (w.alloc (.cells #[.int .i64 e, .bool y, .slice a l.length cap] 74)).alloc (.cells #[.int .i64 e, .bool y, .slice a' l'.length cap'] 74) := ⟨_, rfl⟩
      have hE : Ext w W := by rw [hW]; exact ((Ext.refl _).alloc _).alloc _
      have hc := srows_any W l l' a a' cap cap' (h1.ext hE) (h2.ext hE)
      have hX : W.heap[w.heap.size]? = some (.cells #[.int .i64 e, .bool y, .slice a l.length cap] 74 (0, 0)) := by rw [hW]; exact ((Ext.refl _).alloc _).row (heap_alloc_new w _)
      have hY : W.heap[w.heap.size + 1]? = some (.cells #[.int .i64 e, .bool y, .slice a' l'.length cap'] 74 (0, 0)) := by
        have h1 := heap_alloc_new (w.alloc (.cells #[.int .i64 e, .bool y, .slice a l.length cap] 74)) (.cells #[.int .i64 e, .bool y, .slice a' l'.length cap'] 74)
        rw [show (w.alloc (.cells #[.int .i64 e, .bool y, .slice a l.length cap] 74)).heap.size = w.heap.size + 1 by simp] at h1
        rw [hW]; exact h1
      obtain ⟨x0, x1, x2⟩ := re_cells hX
      obtain ⟨y0, y1, y2⟩ := re_cells hY
      have hW' := Lib.hid hW
      have hc' := Lib.hid hc
      obtain ⟨R, hR⟩ : ∃ R, R = decide (l = l') := ⟨_, rfl⟩
      rw [← hR] at hc' ⊢
      clear hW hX hY hc hR hd
      cases y
      all_goals
        go_enter Tryz.func32, Tryz.ntmps32
        go_upto_region 1 with fail
        rw [← hW'.out]
        clear hW'
        go_wp2_with fail
        refine hc'.out.mono ?_
        rintro r w2 ⟨rfl, hE2⟩
        go_wp2_with fail
        go_ret
        exact ⟨rfl, hE.trans hE2⟩
    · rw [decide_eq_false (fun h => hy h.2.1)]
      cases y <;> cases y'
      · exact absurd rfl hy
      · go_enter Tryz.func32, Tryz.ntmps32
        go_wp2_with fail
        go_ret
        exact ⟨rfl, ((Ext.refl _).alloc _).alloc _⟩
      · go_enter Tryz.func32, Tryz.ntmps32
        go_wp2_with fail
        go_ret
        exact ⟨rfl, ((Ext.refl _).alloc _).alloc _⟩
      · exact absurd rfl hy
  · rw [decide_eq_false (fun h => he h.1)]
    go_enter Tryz.func32, Tryz.ntmps32
    go_wp2_with fail
    go_ret
    exact ⟨rfl, ((Ext.refl _).alloc _).alloc _⟩
/-- A reply without rows. -/
theorem sreply_nil (w : World) (e e' : Int) (y y' : Bool) : Calls Tryz.prog 32 #[.agg #[.int .i64 e, .bool y, .slice none 0 0], .agg #[.int .i64 e', .bool y', .slice none 0 0]] w fun r w' => r = .returned (.bool (decide (e = e' ∧ y = y'))) ∧ Ext w w' := by
  refine (sreply_any w e e' y y' [] [] none none 0 0 (RowIs.nil _ _ _ _ (fun _ => rfl)) (RowIs.nil _ _ _ _ (fun _ => rfl))).mono ?_
  rintro r w' ⟨rfl, hE⟩
  refine ⟨?_, hE⟩
  simp
def sameS (p q : Sv × Nat) : Bool := decide (p.2 = q.2 ∧ p.1.num = q.1.num ∧ p.1.e = q.1.e ∧ p.1.yes = q.1.yes)
theorem sameS_iff {p q : Sv × Nat} : sameS p q = true ↔ p = q := by
  unfold sameS
  rw [decide_eq_true_eq]
  constructor
  · obtain ⟨⟨a, b, c⟩, d⟩ := p
    obtain ⟨⟨a', b', c'⟩, d'⟩ := q
    rintro ⟨h1, h2, h3, h4⟩
    simp only at h1 h2 h3 h4
    rw [h1, h2, h3, h4]
  · rintro rfl; exact ⟨rfl, rfl, rfl, rfl⟩
instance : DecidableEq (Sv × Nat) := fun _ _ => decidable_of_iff _ sameS_iff
theorem ssaid_any (w : World) (p q : Sv × Nat) : Calls Tryz.prog 57 #[.agg (sdc p).toArray, .agg (sdc q).toArray] w fun r w' => r = .returned (.bool (sameS p q)) ∧ Ext w w' := by
  obtain ⟨⟨pn, pe, py⟩, pc⟩ := p
  obtain ⟨⟨qn, qe, qy⟩, qc⟩ := q
  obtain ⟨W, hW⟩ : ∃ W, W = (w.alloc (.cells (sdc (⟨pn, pe, py⟩, pc)).toArray 87)).alloc (.cells (sdc (⟨qn, qe, qy⟩, qc)).toArray 87) := ⟨_, rfl⟩
  have hE : Ext w W := by rw [hW]; exact ((Ext.refl _).alloc _).alloc _
  have hX : W.heap[w.heap.size]? = some (.cells (sdc (⟨pn, pe, py⟩, pc)).toArray 87 (0, 0)) := by rw [hW]; exact ((Ext.refl _).alloc _).row (heap_alloc_new w _)
  have hY : W.heap[w.heap.size + 1]? = some (.cells (sdc (⟨qn, qe, qy⟩, qc)).toArray 87 (0, 0)) := by
    have h1 := heap_alloc_new (w.alloc (.cells (sdc (⟨pn, pe, py⟩, pc)).toArray 87)) (.cells (sdc (⟨qn, qe, qy⟩, qc)).toArray 87)
    rw [show (w.alloc (.cells (sdc (⟨pn, pe, py⟩, pc)).toArray 87)).heap.size = w.heap.size + 1 by simp] at h1
    rw [hW]; exact h1
  obtain ⟨x0, x1, x2, x3, x4⟩ := said_cells hX
  obtain ⟨y0, y1, y2, y3, y4⟩ := said_cells hY
  have hW' := Lib.hid hW
  simp only [sdc] at hW' x0 x1 x2 x3 x4 y0 y1 y2 y3 y4
  simp only [sdc]
  clear hW hX hY
  by_cases h1 : pc = qc
  · by_cases h2 : pn = qn
    · subst h1 h2
      have hs : sameS (⟨pn, pe, py⟩, pc) (⟨pn, qe, qy⟩, pc) = decide (pe = qe ∧ py = qy) := by unfold sameS; simp
      rw [hs]
      clear hs
      go_enter Tryz.func57, Tryz.ntmps57
      go_upto_region 1 with fail
      rw [← hW'.out]
      clear hW'
      go_wp2_with fail
      refine (sreply_nil W _ _ _ _).mono ?_
      rintro r w2 ⟨rfl, hE2⟩
      go_wp2_with fail
      go_ret
      exact ⟨by show Ending.returned (.bool (decide (pe = qe) && decide (py = qy))) = _; rw [← Bool.decide_and], hE.trans hE2⟩
    · have hs : sameS (⟨pn, pe, py⟩, pc) (⟨qn, qe, qy⟩, qc) = false := by unfold sameS; simp [h2]
      rw [hs]
      subst h1
      have i2 : ¬ (pn : Int) = (qn : Int) := by omega
      clear hs h2
      go_enter Tryz.func57, Tryz.ntmps57
      go_upto_region 1 with fail
      rw [← hW'.out]
      clear hW'
      go_wp2_with fail
      go_ret
      exact ⟨rfl, hE⟩
  · have hs : sameS (⟨pn, pe, py⟩, pc) (⟨qn, qe, qy⟩, qc) = false := by unfold sameS; simp [h1]
    rw [hs]
    have i2 : ¬ (pc : Int) = (qc : Int) := by omega
    clear hs h1
    go_enter Tryz.func57, Tryz.ntmps57
    go_upto_region 1 with fail
    rw [← hW'.out]
    clear hW'
    go_wp2_with fail
    go_ret
    exact ⟨rfl, hE⟩
set_option maxRecDepth 100000 in
set_option maxHeartbeats 1000000 in
theorem ssaids_any (w : World) (l l' : List (Sv × Nat)) (a a' : Option Addr) (cap cap' : Nat) (h1 : RowIs w 5 (.slice a l.length cap) l.length (l.flatMap sdc)) (h2 : RowIs w 5 (.slice a' l'.length cap') l'.length (l'.flatMap sdc)) :
    Calls Tryz.prog 19 #[.slice a l.length cap, .slice a' l'.length cap'] w fun e w' => e = .returned (.bool (decide (l = l'))) ∧ Ext w w' := by
  by_cases hn : l.length = l'.length
  · have hn' : (l.length : Int) = (l'.length : Int) := by omega
    have hnn := h1.2.1
    obtain ⟨n, hl1⟩ : ∃ n, n = l.length := ⟨_, rfl⟩
    have hl2 : n = l'.length := by omega
    rw [← hl1] at h1 hnn
    rw [← hl2] at h2
    rw [← hl1, ← hl2]
    have hq1 := Lib.hid hl1
    have hq2 := Lib.hid hl2
    clear hn hn' hl1 hl2
    obtain ⟨r, hr⟩ : ∃ r, r = decide (l = l') := ⟨_, rfl⟩
    have hr' := Lib.hid hr
    rw [← hr]
    clear hr
    go_enter Tryz.func19, Tryz.ntmps19
    go_wp2_with fail
    go_loopw [5] (fun i wr => ∃ k : Nat, k ≤ n ∧ i = .int .i64 k ∧ l.take k = l'.take k ∧ Ext w wr) (fun i _ => n - (intOf i).toNat)
    case atStart => exact ⟨0, by omega, rfl, rfl, Ext.refl _⟩
    case round =>
      obtain ⟨k, hk, rfl, heq, hE⟩ := hrel
      by_cases hlt : k < n
      · have hli : (k : Int) < (n : Int) := by omega
        obtain ⟨c, hc⟩ : ∃ c, l[k]? = some c := ⟨_, List.getElem?_eq_getElem (by rw [← hq1.out]; exact hlt)⟩
        obtain ⟨c', hc'⟩ : ∃ c, l'[k]? = some c := ⟨_, List.getElem?_eq_getElem (by rw [← hq2.out]; exact hlt)⟩
        obtain ⟨b, off, hat⟩ := (h1.ext hE).at
        obtain ⟨b', off', hat'⟩ := (h2.ext hE).at
        obtain ⟨rfl, _, hd⟩ := hat (by omega)
        obtain ⟨rfl, _, hd'⟩ := hat' (by omega)
        have p := said_range (by rw [← hq1.out]; exact hd) hc
        have q := said_range (by rw [← hq2.out]; exact hd') hc'
        clear hd hd' hat hat'
        have htk : l.take (k + 1) = l.take k ++ [c] := by rw [List.take_add_one, hc]; rfl
        have htk' : l'.take (k + 1) = l'.take k ++ [c'] := by rw [List.take_add_one, hc']; rfl
        have heq' := Lib.hid heq
        have htk2 := Lib.hid htk
        have htk3 := Lib.hid htk'
        have hcc := Lib.hid hc
        have hcc' := Lib.hid hc'
        clear heq htk htk' hc hc'
        go_upto_region 6 with fail
        refine wp_region_class (Ext wr) (by kernel_rfl) (by kernel_rfl) (Ext.refl _).drew ?_
        iterate 3 (refine wpQuiet_step (fun K hK => ?_); go_simp; first | (refine hK _ ?_; clear hK K) | (refine ⟨_, fun _ _ => rfl, hK _ ?_⟩; clear hK K))
        refine wpQuiet_load_mid (by rfl) 87 _ (by rfl) b (off + k * 5) (by rfl) _ _ (fun w' h r u hu => h.cell (p r u hu)) Tryz.underlying87 rfl (by exact info_said) ?_
        iterate 3 (refine wpQuiet_step (fun K hK => ?_); go_simp; first | (refine hK _ ?_; clear hK K) | (refine ⟨_, fun _ _ => rfl, hK _ ?_⟩; clear hK K))
        refine wpQuiet_load_mid (by rfl) 87 _ (by rfl) b' (off' + k * 5) (by rfl) _ _ (fun w' h r u hu => h.cell (q r u hu)) Tryz.underlying87 rfl (by exact info_said) ?_
        refine wpQuiet_step (fun K hK => ?_); go_simp
        refine ⟨_, fun w' hw => calls_ext hw (ssaid_any w' c c'), hK _ ?_⟩; clear hK K
        iterate 1 (refine wpQuiet_step (fun K hK => ?_); go_simp; first | (refine hK _ ?_; clear hK K) | (refine ⟨_, fun _ _ => rfl, hK _ ?_⟩; clear hK K))
        refine wpQuiet_nil (fun w5 hE5 => ?_)
        try simp only [Act.put, List.setIfInBounds_toArray, List.set_cons_zero, List.set_cons_succ]
        cases hse : sameS c c'
        all_goals simp only [Bool.not_true, Bool.not_false]
        · have hne : r = false := by
            rw [hr'.out]
            refine decide_eq_false fun h => ?_
            subst h
            have := hcc.out.symm.trans hcc'.out
            injection this with this
            rw [sameS_iff.2 this] at hse
            exact Bool.noConfusion hse
          have hne' := Lib.hid hne
          clear hne
          go_wp2_with fail
          go_ret
          exact ⟨by rw [hne'.out]; rfl, hE.trans hE5⟩
        · have hcc2 := Lib.hid (sameS_iff.1 hse)
          go_wp2_with fail
          go_roundw
          case rel => first | exact ⟨k + 1, by omega, by go_num, by rw [htk2.out, htk3.out, heq'.out, hcc2.out], hE.trans hE5⟩ | exact ⟨_, _, _, _, _, _, _, _, _, _, _, _, _, ⟨k + 1, by omega, by go_num, by rw [htk2.out, htk3.out, heq'.out, hcc2.out], hE.trans hE5⟩, rfl⟩
          case measure => simp [intOf]; omega
      · have hli : ¬ (k : Int) < (n : Int) := by omega
        have hne : r = true := by
          rw [hr'.out]
          refine decide_eq_true ?_
          rw [List.take_of_length_le (by rw [← hq1.out]; omega), List.take_of_length_le (by rw [← hq2.out]; omega)] at heq
          exact heq
        have hne' := Lib.hid hne
        clear hne heq
        go_wp2_with fail
        go_ret
        exact ⟨by rw [hne'.out]; rfl, hE⟩
  · have hn' : ¬ (l.length : Int) = (l'.length : Int) := by omega
    rw [decide_eq_false (fun h => hn (congrArg List.length h))]
    clear h1 h2
    go_enter Tryz.func19, Tryz.ntmps19
    go_wp2_with fail
    go_ret
    exact ⟨rfl, Ext.refl _⟩
end Go.Proofs.YthageoibkeebhaaGreatDoor

/- SameSaids of lists that say the same, whatever rows they have. No condition. -/
namespace Go.Proofs.YthageoibkeebhaaGreatDoor
open Go.RowKit
set_option maxRecDepth 100000
set_option maxHeartbeats 4000000
theorem ssaidG_any (w : World) (x : Sa) (a a' : Option Addr) (cap cap' : Nat) (hr : RowIs w 2 (.slice a x.rows.length cap) x.rows.length (x.rows.flatMap rwL)) (hr' : RowIs w 2 (.slice a' x.rows.length cap') x.rows.length (x.rows.flatMap rwL)) :
    Calls Tryz.prog 57 #[.agg (saRow x a x.rows.length cap), .agg (saRow x a' x.rows.length cap')] w fun e w' => e = .returned (.bool true) ∧ Ext w w' := by
  obtain ⟨X, hX⟩ : ∃ X, X = w.heap.size := ⟨_, rfl⟩
  obtain ⟨V, hV⟩ : ∃ W, W = (w.alloc (.cells (saRow x a x.rows.length cap) 87)).alloc (.cells (saRow x a' x.rows.length cap') 87) := ⟨_, rfl⟩
  have hE0 : Ext w V := by rw [hV]; exact ((Ext.refl _).alloc _).alloc _
  have h1 : V.heap[X]? = some (.cells (saRow x a x.rows.length cap) 87 (0, 0)) := by rw [hV, hX]; exact ((Ext.refl _).alloc _).row (heap_alloc_new w _)
  have h2 : V.heap[X + 1]? = some (.cells (saRow x a' x.rows.length cap') 87 (0, 0)) := by
    have h1 := heap_alloc_new (w.alloc (.cells (saRow x a x.rows.length cap) 87)) (.cells (saRow x a' x.rows.length cap') 87)
    rw [show (w.alloc (.cells (saRow x a x.rows.length cap) 87)).heap.size = X + 1 by rw [hX]; simp] at h1
    rw [hV]; exact h1
  obtain ⟨x0, x1, x2, x3, x4⟩ := sa_cs h1
  obtain ⟨y0, y1, y2, y3, y4⟩ := sa_cs h2
  have hcall : Calls Tryz.prog 32 #[.agg #[.int .i64 x.e, .bool x.yes, .slice a x.rows.length cap], .agg #[.int .i64 x.e, .bool x.yes, .slice a' x.rows.length cap']] V fun r w' => r = .returned (.bool true) ∧ Ext V w' := by
    have := sreply_any V x.e x.e x.yes x.yes x.rows x.rows a a' cap cap' (hr.ext hE0) (hr'.ext hE0)
    rw [decide_eq_true ⟨rfl, rfl, rfl⟩] at this
    exact this
  have hcall' := Lib.hid hcall
  have hV' := Lib.hid hV
  have hX' := Lib.hid hX
  clear hr hr' hV hX h1 h2 hcall
  unfold saRow at hV' ⊢
  go_enter Tryz.func57, Tryz.ntmps57
  go_upto_region 1 with fail
  rw [← hV'.out, ← hX'.out]
  go_wp2_with fail
  refine hcall'.out.mono ?_
  rintro e w2 ⟨rfl, hE2⟩
  go_wp2_with fail
  go_ret
  exact ⟨rfl, hE0.trans hE2⟩
theorem ssaidsG_any (w : World) (q q' : List Sa) (n : Nat) (a a' : Option Addr) (cap cap' : Nat) (hn : n = q.length) (hbr : q.map Sa.bare = q'.map Sa.bare) (hr : RowIs w 5 (.slice a n cap) n (q.flatMap Sa.cells)) (hr2 : RowIs w 5 (.slice a' n cap') n (q'.flatMap Sa.cells)) (hv : SaAt w q) (hv2 : SaAt w q') (hl : n ≤ 1000000) :
    Calls Tryz.prog 19 #[.slice a n cap, .slice a' n cap'] w fun e w' => e = .returned (.bool true) ∧ Ext w w' := by
  have hm := Lib.hid hn
  have hm' : Hid (n = q'.length) := Lib.hid (by rw [hn]; have := congrArg List.length hbr; rw [List.length_map, List.length_map] at this; exact this)
  have hr' := Lib.hid hr
  have hr2' := Lib.hid hr2
  have hv' := Lib.hid hv
  have hv2' := Lib.hid hv2
  have hbr' := Lib.hid hbr
  clear hn hr hr2 hv hv2 hbr
  go_enter Tryz.func19, Tryz.ntmps19
  go_wp2_with fail
  go_loopw [5] (fun i wr => ∃ k : Nat, k ≤ n ∧ i = .int .i64 k ∧ Ext w wr) (fun i _ => n - (intOf i).toNat)
  case atStart => exact ⟨0, by omega, rfl, Ext.refl _⟩
  case round =>
    obtain ⟨k, hk, rfl, hE⟩ := hrel
    by_cases hlt : k < n
    · have hli : (k : Int) < (n : Int) := by omega
      obtain ⟨y, hy⟩ : ∃ y, q[k]? = some y := ⟨_, List.getElem?_eq_getElem (by rw [← hm.out]; exact hlt)⟩
      obtain ⟨z, hz, hzb⟩ := map_at hbr'.out hy
      obtain ⟨ob, oo, hat⟩ := (hr'.out.ext hE).at
      obtain ⟨rfl, _, hdy⟩ := hat (by omega)
      obtain ⟨tb, to', hat2⟩ := (hr2'.out.ext hE).at
      obtain ⟨rfl, _, hdz⟩ := hat2 (by omega)
      have p := sas_range (by rw [← hm.out]; exact hdy) hy
      have q1 := sas_range (by rw [← hm'.out]; exact hdz) hz
      obtain ⟨va, vc, hv, hyr0⟩ := hv'.out y (List.mem_of_getElem? hy)
      obtain ⟨ua, uc, hu, hzr0⟩ := hv2'.out z (List.mem_of_getElem? hz)
      have hzr : z.rows = y.rows := (bare_eq hzb none 0 0).2
      rw [sa_cells hv] at p
      rw [sa_cells hu, hzr, (bare_eq hzb _ _ _).1] at q1
      rw [hzr] at hzr0
      have hcall := Lib.hid (fun W (hW : Ext wr W) => ssaidG_any W y va ua vc uc (hyr0.ext (hE.trans hW)) (hzr0.ext (hE.trans hW)))
      clear hat hdy hat2 hdz hy hz hzb hv hyr0 hu hzr0 hzr
      go_upto_region 6 with fail
      refine bqRegion (Ext wr) (by kernel_rfl) (by kernel_rfl) (Ext.refl _).drew ?_
      iterate 3 (refine bqStep (fun K hK => ?_); go_simp; first | (refine hK _ ?_; clear hK K) | (refine ⟨_, fun _ _ => rfl, hK _ ?_⟩; clear hK K))
      refine bqMid (by rfl) 87 _ (by rfl) ob (oo + k * 5) (by rfl) _ _ (fun w' h r u hu => h.cell (p r u hu)) Tryz.underlying87 rfl (by exact info_said) ?_
      simp only [Act.put, List.setIfInBounds_toArray, List.set_cons_zero, List.set_cons_succ]
      iterate 3 (refine bqStep (fun K hK => ?_); go_simp; first | (refine hK _ ?_; clear hK K) | (refine ⟨_, fun _ _ => rfl, hK _ ?_⟩; clear hK K))
      refine bqMid (by rfl) 87 _ (by rfl) tb (to' + k * 5) (by rfl) _ _ (fun w' h r u hu => h.cell (q1 r u hu)) Tryz.underlying87 rfl (by exact info_said) ?_
      simp only [Act.put, List.setIfInBounds_toArray, List.set_cons_zero, List.set_cons_succ]
      refine bqStep (fun K hK => ?_); go_simp
      refine ⟨_, fun w' hw => calls_ext hw (hcall.out w' hw), hK _ ?_⟩; clear hK K
      iterate 1 (refine bqStep (fun K hK => ?_); go_simp; first | (refine hK _ ?_; clear hK K) | (refine ⟨_, fun _ _ => rfl, hK _ ?_⟩; clear hK K))
      refine bqNil (fun w5 hE5 => ?_)
      clear p q1 hcall
      go_wp2_with fail
      go_roundw
      case rel => exact ⟨k + 1, by omega, by go_num, hE.trans hE5⟩
      case measure => simp [intOf]; omega
    · have hli : ¬ (k : Int) < (n : Int) := by omega
      go_wp2_with fail
      go_ret
      exact ⟨rfl, hE⟩
end Go.Proofs.YthageoibkeebhaaGreatDoor
