/- Several texts in one: TwS LfS. No condition. -/
import Derived.Test.YthageoibkeebhaaGreatDoorGrP
import Derived.Test.YthageoibkeebhaaGreatDoorGrM
/- A twin of a list of what was said, with a mark behind. No condition. -/
namespace Go.Proofs.YthageoibkeebhaaGreatDoor
open Go.RowKit
set_option maxRecDepth 100000
set_option maxHeartbeats 4000000
def spareS : Sa := ⟨0, 77, 0, false, [], .slice none 0 0⟩
/-- Each one's rows are a twin. -/
def TwRs (w : World) (base : Nat) (q : List Sa) : Prop := ∀ p ∈ q, ∃ b c, p.v = .slice (some ⟨b, 0, none⟩) p.rows.length c ∧ TwR w base b p.rows.length c p.rows
theorem TwRs.ext {w w' : World} {base : Nat} {q : List Sa} (h : TwRs w base q) (hE : Ext w w') : TwRs w' base q := fun p hp => by
  obtain ⟨b, c, h1, h2⟩ := h p hp
  exact ⟨b, c, h1, h2.ext hE⟩
theorem TwRs.own {w : World} {base : Nat} {q : List Sa} (h : TwRs w base q) : SaOwn w base q := fun p hp => by
  obtain ⟨b, c, h1, h2⟩ := h p hp
  rw [h1]
  exact h2.own rfl
theorem TwRs.at {w : World} {base : Nat} {q : List Sa} (h : TwRs w base q) : SaAt w q := fun p hp => by
  obtain ⟨b, c, h1, h2⟩ := h p hp
  exact ⟨_, c, h1, (h2.own rfl).row⟩
/-- A twin of a list of what was said. -/
def TwS (w : World) (base b n cap : Nat) (q : List Sa) : Prop := OwnC w base 87 5 (.slice (some ⟨b, 0, none⟩) (n + 1) cap) (n + 1) ((q ++ [spareS]).flatMap Sa.cells) ∧ TwRs w base q ∧ SaSep q
theorem flat_lenS (l : List Sa) : (l.flatMap Sa.cells).length = l.length * 5 := by
  induction l with
  | nil => rfl
  | cons x l ih => rw [List.flatMap_cons, List.length_append, ih, List.length_cons, Nat.add_mul]; show 5 + _ = _; omega
theorem TwS.own {w : World} {base b n cap : Nat} {q : List Sa} (h : TwS w base b n cap q) (hn : n = q.length) : OwnC w base 87 5 (.slice (some ⟨b, 0, none⟩) n cap) n (q.flatMap Sa.cells) := by
  have := OwnC.cut (m := n) h.1 (by omega)
  rw [List.flatMap_append, ← show (q.flatMap Sa.cells).length = n * 5 by rw [hn]; exact flat_lenS q, List.take_left] at this
  exact this
theorem TwS.cap {w : World} {base b n cap : Nat} {q : List Sa} (h : TwS w base b n cap q) : n + 1 ≤ cap := by
  obtain ⟨a, c, e, h1, _⟩ := OwnC.form h.1
  injection e with _ _ e
  omega
theorem TwS.ext {w w' : World} {base b n cap : Nat} {q : List Sa} (h : TwS w base b n cap q) (hE : Ext w w') : TwS w' base b n cap q := ⟨h.1.ext hE, h.2.1.ext hE, h.2.2⟩
def TwSE (q : List Sa) (n : Nat) (w : World) (e : Ending) (w' : World) : Prop := ∃ b cap q', e = .returned (.slice (some ⟨b, 0, none⟩) n cap) ∧ q'.map Sa.bare = q.map Sa.bare ∧ TwS w' w.heap.size b n cap q' ∧ Ext w w'
theorem twinSds_any (w : World) (q : List Sa) (qa : Option Addr) (qc n : Nat) (hnq : n = q.length) (hqr : RowIs w 5 (.slice qa n qc) n (q.flatMap Sa.cells)) (hn : n ≤ 50000) (hqv : SaAt w q) (hqn : ∀ p ∈ q, p.rows.length ≤ 50000) :
    Calls Tryz.prog 8 #[.slice qa n qc] w (TwSE q n w) := by
  have hm := Lib.hid hnq
  have hqr' := Lib.hid hqr
  have hqv' := Lib.hid hqv
  have hqn' := Lib.hid hqn
  clear hnq hqr hqv hqn
  obtain ⟨ir, hir, hiz, his, hib⟩ : ∃ i, Tryz.prog.info? 87 = some i ∧ i.zero = some (.agg #[.int .u8 0, .int .u32 0, .int .i64 0, .bool false, .slice none 0 0]) ∧ i.size = 5 ∧ i.bytes = 48 := by
    have h : (Tryz.prog.info? 87).map (fun i => (i.zero, i.size, i.bytes)) = some (some (.agg #[.int .u8 0, .int .u32 0, .int .i64 0, .bool false, .slice none 0 0]), 5, 48) := by kernel_rfl
    obtain ⟨i, hi, he⟩ := Option.map_eq_some_iff.1 h
    simp only [Prod.mk.injEq] at he
    exact ⟨i, hi, he.1, he.2.1, he.2.2⟩
  go_enter Tryz.func8, Tryz.ntmps8
  go_wp2_with (first | (refine wpList_make_own w (by rfl) (.const (.int .i64 0)) (.tmp 7) 23 (by rfl) w.heap.size 87 ir _ 5 Tryz.underlying23 hir hiz his .i64 .i64 ((n : Int) + 1) (n + 1) (by rfl) (by rfl) (by omega) (by rw [hib]; omega) (by unfold maxLen; omega) (Nat.le_refl _) ?_; go_loud (intro w1 hown1 hgr1; have hE1 : Ext w w1 := Below.grown (Below.refl _ _) hgr1 (Nat.le_refl _) (fun _ h => by cases h))) | fail)
  go_wp2_with fail
  go_loopw [3, 4] (fun out i wr => ∃ (k : Nat) (oa : Option Addr) (oc : Nat) (sd' : List Sa), k ≤ n ∧ i = .int .i64 k ∧ out = .slice oa k oc ∧ Hid (sd'.map Sa.bare = (q.take k).map Sa.bare) ∧ OwnC wr w.heap.size 87 5 (.slice oa k oc) k (sd'.flatMap Sa.cells) ∧ Hid (TwRs wr w.heap.size sd' ∧ SaSep sd') ∧ Ext w wr) (fun _ i _ => n - (intOf i).toNat)
  case atStart => exact ⟨0, _, _, [], by omega, rfl, rfl, Lib.hid rfl, OwnC.of_own hown1, Lib.hid ⟨fun _ h => (nomatch h), List.Pairwise.nil⟩, hE1⟩
  case round =>
    clear hown1 hgr1 hE1
    obtain ⟨k, oa, oc, sd', hk, rfl, rfl, hbr, hown, hvs, hE⟩ := hrel
    by_cases hlt : k < n
    · have hli : (k : Int) < (n : Int) := by omega
      obtain ⟨y, hy⟩ : ∃ y, q[k]? = some y := ⟨_, List.getElem?_eq_getElem (by rw [← hm.out]; exact hlt)⟩
      obtain ⟨ob, oo, hat⟩ := (hqr'.out.ext hE).at
      obtain ⟨rfl, _, hdy⟩ := hat (by omega)
      have hrg := sas_range (by rw [← hm.out]; exact hdy) hy
      obtain ⟨va, vc, hv, hyr0⟩ := hqv'.out y (List.mem_of_getElem? hy)
      have hyr := Lib.hid hyr0
      rw [sa_cells hv] at hrg
      have hyn := hqn'.out y (List.mem_of_getElem? hy)
      have htk : Hid ((q.take (k + 1)).map Sa.bare = (q.take k).map Sa.bare ++ [y.bare]) := Lib.hid (by rw [List.take_add_one, hy, List.map_append]; rfl)
      have hsz := hE.size
      clear hat hdy hy hv hyr0
      go_wp2_with (first | (refine wpList_load_mid (by rfl) 87 (.tmp 18) (by rfl) ob (oo + k * 5) (by rfl) (saRow y va y.rows.length vc).toList _ hrg Tryz.underlying87 rfl (by exact info_said) ?_) | fail)
      refine (twinSd_any wr y va vc y.rows.length rfl (hyr.out.ext hE) hyn).mono ?_
      rintro e w6 ⟨b2, c2, rfl, ho2, hE6⟩
      have hown6 := hown.ext hE6
      have hvs6 := Lib.hid (And.intro (hvs.out.1.ext hE6) hvs.out.2)
      have hX6 := hE.trans hE6
      have hs6 := hX6.size
      have hvs0 := Lib.hid hvs.out.1.own
      have ho2' := Lib.hid ho2
      clear hrg hown hvs ho2
      go_wp2_with (first | (refine wpList_bs_sa (by rfl) (.tmp 20) (by rfl) y (some ⟨b2, 0, none⟩) y.rows.length c2 (by rfl) ?_) | (at_builtin; go_loud (refine wpList_append_c (by rfl) (.tmp 15) (.tmp 21) 23 87 (by rfl) Tryz.underlying23 el_said w6 w.heap.size k _ (.slice oa k oc) (by rfl) hown6 (saRow y (some ⟨b2, 0, none⟩) y.rows.length c2) (by rfl) (by rfl) (sar_all _ _ _ _) (by omega) (by omega) hs6 ?_); go_loud (intro v' w8 hA; obtain ⟨oa', oc', rfl, _⟩ := hA.own.form; have ho8 := Lib.hid hA.own; have hX8 : Ext w w8 := Below.trans hX6 hA.below; have hgr := Lib.hid hA.grown; clear hA)) | fail)
      go_roundw
      case rel =>
        refine ⟨k + 1, oa', oc', sd' ++ [(⟨y.cl, y.num, y.e, y.yes, y.rows, .slice (some ⟨b2, 0, none⟩) y.rows.length c2⟩ : Sa)], by omega, by go_num, rfl, Lib.hid ?_, ?_, Lib.hid ⟨?_, ?_⟩, hX8⟩
        · rw [htk.out, List.map_append, hbr.out]; rfl
        · rw [List.flatMap_append]; exact ho8.out
        · intro p hp
          rcases List.mem_append.1 hp with hp | hp
          · obtain ⟨b, c, h1, h2⟩ := hvs6.out.1 p hp
            exact ⟨b, c, h1, own_kept_ty (by decide) h2 hown6 hgr.out⟩
          · rw [List.mem_singleton.1 hp]
            exact ⟨b2, c2, rfl, own_kept_ty (by decide) (ho2'.out.weak hsz) hown6 hgr.out⟩
        · refine SaSep.snoc hvs6.out.2 hvs0.out (fun b hb => ?_)
          have h1 := ((ho2'.out.own rfl).lt b hb).1
          exact h1
      case measure => simp [intOf]; omega
    · have hli : ¬ (k : Int) < (n : Int) := by omega
      obtain rfl : k = n := by omega
      rw [List.take_of_length_le (by rw [← hm.out]; exact Nat.le_refl _)] at hbr
      clear hqr'
      have hsz := hE.size
      go_wp2_with (first | (at_builtin; go_loud (refine wpList_append_c (by rfl) (.tmp 23) (.tmp 25) 23 87 (by rfl) Tryz.underlying23 el_said wr w.heap.size k _ (.slice oa k oc) (by rfl) hown (saRow spareS none 0 0) (by rfl) (by rfl) (sar_all _ _ _ _) (by omega) (by omega) hsz ?_); go_loud (intro v' w3 hA3; obtain ⟨oa', oc', rfl, hoc, hoa⟩ := hA3.own.form); go_loud (have hX3 : Ext w w3 := Below.trans hE hA3.below); go_loud (have hkc : (k : Int) ≤ (oc' : Int) := by omega)) | fail)
      go_ret
      obtain ⟨b, rfl⟩ : ∃ b, oa' = some ⟨b, 0, none⟩ := by
        rcases hoa with e | e
        · injection e with _ e
          omega
        · exact e
      refine ⟨b, oc', sd', rfl, hbr.out, ⟨?_, fun p hp => ?_, hvs.out.2⟩, hX3⟩
      · rw [List.flatMap_append]
        exact hA3.own
      · obtain ⟨b, c, h1, h2⟩ := hvs.out.1 p hp
        exact ⟨b, c, h1, own_kept_ty (by decide) h2 hown hA3.grown⟩
end Go.Proofs.YthageoibkeebhaaGreatDoor

/- Is a twin of what was said still what it was made of? No condition. -/
namespace Go.Proofs.YthageoibkeebhaaGreatDoor
open Go.RowKit
set_option maxRecDepth 100000
set_option maxHeartbeats 4000000
theorem leftRp_any (w : World) (i : Int) (y : Bool) (l : List Rw) (base b cap' : Nat) (a : Option Addr) (cap n : Nat) (hn : n = l.length) (hr : RowIs w 2 (.slice a n cap) n (l.flatMap rwL)) (hl : n ≤ 50000) (hT : TwR w base b n cap' l) :
    Calls Tryz.prog 115 #[.agg #[.int .i64 i, .bool y, .slice (some ⟨b, 0, none⟩) n cap'], .agg #[.int .i64 i, .bool y, .slice a n cap]] w fun e w' => e = .returned (.bool true) ∧ Ext w w' := by
  obtain ⟨X, hX⟩ : ∃ X, X = w.heap.size := ⟨_, rfl⟩
  obtain ⟨V, hV⟩ : ∃ W, W = (w.alloc (.cells (reH i y (.slice (some ⟨b, 0, none⟩) n cap')) 74)).alloc (.cells (reH i y (.slice a n cap)) 74) := ⟨_, rfl⟩
  have hE0 : Ext w V := by rw [hV]; exact ((Ext.refl _).alloc _).alloc _
  have h1 : V.heap[X]? = some (.cells (reH i y (.slice (some ⟨b, 0, none⟩) n cap')) 74 (0, 0)) := by rw [hV, hX]; exact ((Ext.refl _).alloc _).row (heap_alloc_new w _)
  have h2 : V.heap[X + 1]? = some (.cells (reH i y (.slice a n cap)) 74 (0, 0)) := by
    have h1 := heap_alloc_new (w.alloc (.cells (reH i y (.slice (some ⟨b, 0, none⟩) n cap')) 74)) (.cells (reH i y (.slice a n cap)) 74)
    rw [show (w.alloc (.cells (reH i y (.slice (some ⟨b, 0, none⟩) n cap')) 74)).heap.size = X + 1 by rw [hX]; simp] at h1
    rw [hV]; exact h1
  obtain ⟨x0, x1, x2⟩ := re_cells h1
  obtain ⟨y0, y1, y2⟩ := re_cells h2
  have hcall := Lib.hid (lRows_any V l base b cap' a cap n hn (hr.ext hE0) hl (hT.ext hE0))
  have hV' := Lib.hid hV
  have hX' := Lib.hid hX
  clear hr hn hV hX h1 h2 hT
  unfold reH at hV'
  cases y
  all_goals
    go_enter Tryz.func115, Tryz.ntmps115
    go_upto_region 1 with fail
    rw [← hV'.out, ← hX'.out]
    go_wp2_with fail
    refine hcall.out.mono ?_
    rintro e w2 ⟨rfl, hE2⟩
    go_wp2_with fail
    go_ret
    exact ⟨rfl, hE0.trans hE2⟩
theorem leftSd_any (w : World) (x : Sa) (base b cap' : Nat) (a : Option Addr) (cap n : Nat) (hn : n = x.rows.length) (hr : RowIs w 2 (.slice a n cap) n (x.rows.flatMap rwL)) (hl : n ≤ 50000) (hT : TwR w base b n cap' x.rows) :
    Calls Tryz.prog 50 #[.agg (saRow x (some ⟨b, 0, none⟩) n cap'), .agg (saRow x a n cap)] w fun e w' => e = .returned (.bool true) ∧ Ext w w' := by
  obtain ⟨X, hX⟩ : ∃ X, X = w.heap.size := ⟨_, rfl⟩
  obtain ⟨V, hV⟩ : ∃ W, W = (w.alloc (.cells (saRow x (some ⟨b, 0, none⟩) n cap') 87)).alloc (.cells (saRow x a n cap) 87) := ⟨_, rfl⟩
  have hE0 : Ext w V := by rw [hV]; exact ((Ext.refl _).alloc _).alloc _
  have h1 : V.heap[X]? = some (.cells (saRow x (some ⟨b, 0, none⟩) n cap') 87 (0, 0)) := by rw [hV, hX]; exact ((Ext.refl _).alloc _).row (heap_alloc_new w _)
  have h2 : V.heap[X + 1]? = some (.cells (saRow x a n cap) 87 (0, 0)) := by
    have h1 := heap_alloc_new (w.alloc (.cells (saRow x (some ⟨b, 0, none⟩) n cap') 87)) (.cells (saRow x a n cap) 87)
    rw [show (w.alloc (.cells (saRow x (some ⟨b, 0, none⟩) n cap') 87)).heap.size = X + 1 by rw [hX]; simp] at h1
    rw [hV]; exact h1
  obtain ⟨x0, x1, x2, x3, x4⟩ := sa_cs h1
  obtain ⟨y0, y1, y2, y3, y4⟩ := sa_cs h2
  have hcall := Lib.hid (leftRp_any V x.e x.yes x.rows base b cap' a cap n hn (hr.ext hE0) hl (hT.ext hE0))
  have hV' := Lib.hid hV
  have hX' := Lib.hid hX
  clear hr hn hV hX h1 h2 hT
  unfold saRow at hV' ⊢
  go_enter Tryz.func50, Tryz.ntmps50
  go_upto_region 1 with fail
  rw [← hV'.out, ← hX'.out]
  go_wp2_with fail
  refine hcall.out.mono ?_
  rintro e w2 ⟨rfl, hE2⟩
  go_wp2_with fail
  go_ret
  exact ⟨rfl, hE0.trans hE2⟩
theorem bare_eq {x y : Sa} (h : x.bare = y.bare) (a : Option Addr) (n c : Nat) : saRow x a n c = saRow y a n c ∧ x.rows = y.rows := by
  obtain ⟨a1, a2, a3, a4, a5, a6⟩ := x
  obtain ⟨b1, b2, b3, b4, b5, b6⟩ := y
  unfold Sa.bare at h
  simp only [Sa.mk.injEq] at h
  obtain ⟨rfl, rfl, rfl, rfl, rfl, _⟩ := h
  exact ⟨rfl, rfl⟩
theorem map_at {l l' : List Sa} (h : l.map Sa.bare = l'.map Sa.bare) {k : Nat} {y : Sa} (hy : l[k]? = some y) : ∃ z, l'[k]? = some z ∧ z.bare = y.bare := by
  have h1 : (l'.map Sa.bare)[k]? = some y.bare := by rw [← h, List.getElem?_map, hy]; rfl
  rw [List.getElem?_map] at h1
  obtain ⟨z, hz, he⟩ := Option.map_eq_some_iff.1 h1
  exact ⟨z, hz, he⟩
theorem leftSds_any (w : World) (q q' : List Sa) (base b cap' : Nat) (qa : Option Addr) (qc n : Nat) (hnq : n = q.length) (hqr : RowIs w 5 (.slice qa n qc) n (q.flatMap Sa.cells)) (hn : n ≤ 50000) (hqv : SaAt w q) (hqn : ∀ p ∈ q, p.rows.length ≤ 50000) (hbr : q'.map Sa.bare = q.map Sa.bare) (hT : TwS w base b n cap' q') :
    Calls Tryz.prog 12 #[.slice (some ⟨b, 0, none⟩) n cap', .slice qa n qc] w fun e w' => e = .returned (.bool true) ∧ Ext w w' := by
  have hm := Lib.hid hnq
  have hqr' := Lib.hid hqr
  have hqv' := Lib.hid hqv
  have hqn' := Lib.hid hqn
  have hbr' := Lib.hid hbr
  have hT' := Lib.hid hT
  have hcap := hT.cap
  have hm' : Hid (n = q'.length) := Lib.hid (by rw [hnq]; have := congrArg List.length hbr; rw [List.length_map, List.length_map] at this; exact this.symm)
  clear hnq hqr hqv hqn hbr hT
  have hci : ¬ (cap' : Int) ≤ (n : Int) := by omega
  go_enter Tryz.func12, Tryz.ntmps12
  go_wp2_with fail
  go_loopw [5] (fun i wr => ∃ k : Nat, k ≤ n ∧ i = .int .i64 k ∧ Ext w wr) (fun i _ => n - (intOf i).toNat)
  case atStart => exact ⟨0, by omega, rfl, Ext.refl _⟩
  case round =>
    obtain ⟨k, hk, rfl, hE⟩ := hrel
    have htw := (OwnC.row (hT'.out.1.ext hE))
    obtain ⟨tb, tof, hat2⟩ := htw.at
    obtain ⟨e1, _, hd2⟩ := hat2 (by omega)
    injection e1 with e1
    injection e1 with e1 e2
    subst e1 e2
    by_cases hlt : k < n
    · have hli : (k : Int) < (n : Int) := by omega
      obtain ⟨y, hy⟩ : ∃ y, q[k]? = some y := ⟨_, List.getElem?_eq_getElem (by rw [← hm.out]; exact hlt)⟩
      obtain ⟨z, hz, hzb⟩ := map_at hbr'.out.symm hy
      obtain ⟨ob, oo, hat⟩ := (hqr'.out.ext hE).at
      obtain ⟨rfl, _, hdy⟩ := hat (by omega)
      have p := sas_range (by rw [← hm.out]; exact hdy) hy
      obtain ⟨va, vc, hv, hyr0⟩ := hqv'.out y (List.mem_of_getElem? hy)
      rw [sa_cells hv] at p
      have q1 := sas_range (l := q' ++ [spareS]) (by rw [List.length_append, ← hm'.out]; exact hd2) (k := k) (x := z) (by rw [List.getElem?_append_left (by rw [← hm'.out]; exact hlt)]; exact hz)
      obtain ⟨tb, tc, hzv, hzt⟩ := hT'.out.2.1 z (List.mem_of_getElem? hz)
      have hzr : z.rows = y.rows := (bare_eq hzb none 0 0).2
      rw [sa_cells hzv, hzr, (bare_eq hzb _ _ _).1, Nat.zero_add] at q1
      rw [hzr] at hzt
      have hcall := Lib.hid (fun W (hW : Ext wr W) => leftSd_any W y base tb tc va vc y.rows.length rfl (hyr0.ext (hE.trans hW)) (hqn'.out y (List.mem_of_getElem? hy)) (hzt.ext (hE.trans hW)))
      clear hat hdy hat2 hd2 htw hy hz hzb hv hyr0 hzv hzt hzr
      go_upto_region 6 with fail
      refine bqRegion (Ext wr) (by kernel_rfl) (by kernel_rfl) (Ext.refl _).drew ?_
      iterate 3 (refine bqStep (fun K hK => ?_); go_simp; first | (refine hK _ ?_; clear hK K) | (refine ⟨_, fun _ _ => rfl, hK _ ?_⟩; clear hK K))
      refine bqMid (by rfl) 87 _ (by rfl) b (k * 5) (by rfl) _ _ (fun w' h r u hu => h.cell (q1 r u hu)) Tryz.underlying87 rfl (by exact info_said) ?_
      simp only [Act.put, List.setIfInBounds_toArray, List.set_cons_zero, List.set_cons_succ]
      iterate 3 (refine bqStep (fun K hK => ?_); go_simp; first | (refine hK _ ?_; clear hK K) | (refine ⟨_, fun _ _ => rfl, hK _ ?_⟩; clear hK K))
      refine bqMid (by rfl) 87 _ (by rfl) ob (oo + k * 5) (by rfl) _ _ (fun w' h r u hu => h.cell (p r u hu)) Tryz.underlying87 rfl (by exact info_said) ?_
      simp only [Act.put, List.setIfInBounds_toArray, List.set_cons_zero, List.set_cons_succ]
      refine bqStep (fun K hK => ?_); go_simp
      refine ⟨_, fun w' hw => calls_ext hw (hcall.out w' hw), hK _ ?_⟩; clear hK K
      iterate 1 (refine bqStep (fun K hK => ?_); go_simp; first | (refine hK _ ?_; clear hK K) | (refine ⟨_, fun _ _ => rfl, hK _ ?_⟩; clear hK K))
      refine bqNil (fun w5 hE5 => ?_)
      clear p q1 hcall
      go_wp2_with fail
      go_roundw
      case rel => exact ⟨k + 1, by omega, by go_num, hE.trans hE5⟩
      case measure => simp [intOf]; omega
    · have hli : ¬ (k : Int) < (n : Int) := by omega
      have q1 := sas_range (l := q' ++ [spareS]) (by rw [List.length_append, ← hm'.out]; exact hd2) (k := n) (x := spareS) (by rw [List.getElem?_append_right (by rw [← hm'.out]; exact Nat.le_refl _), ← hm'.out, Nat.sub_self]; rfl)
      rw [Nat.zero_add, show Sa.cells spareS = (saRow spareS none 0 0).toList from rfl] at q1
      have hi1 : (n : Int) + 1 ≤ (cap' : Int) := by omega
      have hi2 : 0 ≤ (n : Int) + 1 := by omega
      have hi3 : ((n : Int) + 1).toNat = n + 1 := by omega
      have hi4 : (n : Int) < ((n : Int) + 1) := by omega
      clear hat2 hd2 htw
      obtain ⟨W2, hW2⟩ : ∃ W, W = wr.alloc (.cells (saRow spareS none 0 0) 87) := ⟨_, rfl⟩
      have hE2 : Ext w W2 := by rw [hW2]; exact hE.alloc _
      have hc0 : W2.cell? ⟨wr.heap.size, 1, none⟩ = some (.int .u32 77) := by rw [hW2, cell_of_row _ _ _ _ _ _ (heap_alloc_new wr _)]; rfl
      have hW2' := Lib.hid hW2
      clear hW2
      go_upto_region 9 with (first | (refine wpList_load_mid (by rfl) 87 (.tmp 42) (by rfl) b (n * 5) (by rfl) (saRow spareS none 0 0).toList _ q1 Tryz.underlying87 rfl (by exact info_said) ?_) | (refine wpList_store_whole (by rfl) 87 (.tmp 6) (.tmp 43) (by rfl) wr _ (saRow spareS none 0 0) wr.heap.size (by rfl) rfl (by rfl) (by exact info_said) (by rfl) (saRow_one _ _ _ _) ?_; rw [← hW2'.out]) | fail)
      clear hi1 hi2 hi3 hi4 q1
      go_wp2_with fail
      go_ret
      exact ⟨rfl, hE2⟩
end Go.Proofs.YthageoibkeebhaaGreatDoor
