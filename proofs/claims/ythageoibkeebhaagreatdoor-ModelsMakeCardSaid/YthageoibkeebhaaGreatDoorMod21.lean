/- Make: a state of rows that rise, and of who said what. No condition. -/
import Derived.Test.YthageoibkeebhaaGreatDoorMod20
import Derived.Test.YthageoibkeebhaaGreatDoorGrH
import Derived.Test.YthageoibkeebhaaGreatDoorGrL
import Derived.StillTailTactics
namespace Go.Proofs.YthageoibkeebhaaGreatDoor
open Go.RowKit Go.Maps Go.WideMaps
set_option maxRecDepth 100000
set_option maxHeartbeats 2000000
def MkE (w0 : World) (m : Md) (err : Int) (e : Ending) (w' : World) : Prop := ∃ st mb, e = .returned (.tuple #[.pointer (some ⟨st, 0, none⟩), .int .i64 err]) ∧ StM w0 w' st mb m
def sdQ (q : List (Sv × Nat)) : List Sv := q.foldl (fun sd p => sd.set p.2 p.1) zSd
theorem sdQ_add {q : List (Sv × Nat)} {k : Nat} {p : Sv × Nat} (h : q[k]? = some p) : sdQ (q.take (k + 1)) = (sdQ (q.take k)).set p.2 p.1 := by
  unfold sdQ; rw [List.take_add_one, h, List.foldl_append]; rfl
theorem sdQ_out (c : Nat) : ∀ (q : List (Sv × Nat)) (sd : List Sv), (∀ p ∈ q, p.2 ≠ c) → (q.foldl (fun sd p => sd.set p.2 p.1) sd)[c]? = sd[c]?
  | [], _, _ => rfl
  | p :: q, sd, h => by
    rw [List.foldl_cons, sdQ_out c q _ (fun r hr => h r (List.mem_cons_of_mem _ hr)), List.getElem?_set_ne (h p (List.mem_cons_self ..))]
theorem zSd_at {c : Nat} (h : c < 9) : zSd[c]? = some ⟨0, 0, false⟩ := by unfold zSd; rw [List.getElem?_replicate, if_pos h]
theorem said_range {w : World} {l : List (Sv × Nat)} {b off : Nat} (hd : ∀ i, i < l.length * 5 → w.cell? ⟨b, off + i, none⟩ = (l.flatMap sdc)[i]?) {k : Nat} {x : Sv × Nat} (h : l[k]? = some x) : w.rangeAt b (off + k * 5) (sdc x) := fun r v hv => by
  have hr : r < 5 := (List.getElem?_eq_some_iff.1 hv).1
  have hk : k < l.length := (List.getElem?_eq_some_iff.1 h).1
  rw [Nat.add_assoc, hd (k * 5 + r) (by omega), flatMap_at sdc 5 (by decide) (fun _ => rfl) l k x h r hr _ rfl]; exact hv
theorem said_cells {w : World} {g : Nat} {p : Sv × Nat} (h : w.heap[g]? = some (.cells (sdc p).toArray 87 (0, 0))) : w.cell? ⟨g, 0, none⟩ = some (.int .u8 (p.2 : Int)) ∧ w.cell? ⟨g, 1, none⟩ = some (.int .u32 (p.1.num : Int)) ∧ w.cell? ⟨g, 2, none⟩ = some (.int .i64 p.1.e) ∧ w.cell? ⟨g, 3, none⟩ = some (.bool p.1.yes) ∧ w.cell? ⟨g, 4, none⟩ = some (.slice none 0 0) := by
  refine ⟨?_, ?_, ?_, ?_, ?_⟩ <;> (rw [cell_of_row _ _ _ _ 87 (0, 0) h]; rfl)
theorem info_said : (Tryz.prog.info? 87).map (·.size) = some 5 := by kernel_rfl
theorem sdc_one (p : Sv × Nat) : (sdc p).toArray.all (·.oneCell') = true := by kernel_rfl
theorem sort_lt {l : List Rw} (h : sortR l) {k : Nat} {r : Rw} (hk : l[k]? = some r) : ∀ p ∈ l.take k, ltK p.key r.key := by
  intro p hp
  obtain ⟨hlt, rfl⟩ := List.getElem?_eq_some_iff.1 hk
  obtain ⟨j, hj, rfl⟩ := List.getElem_of_mem hp
  rw [List.length_take] at hj
  rw [List.getElem_take]
  exact List.pairwise_iff_getElem.1 h j k (by omega) hlt (by omega)
theorem st_mk (w : World) (l : List Rw) (a : Option Addr) (cap : Nat) (hr : RowIs w 2 (.slice a l.length cap) l.length (l.flatMap rwL)) (hn : l.length ≤ 50000) (hso : sortR l) (hsm : smallR l)
    (q : List (Sv × Nat)) (b : Option Addr) (cap' : Nat) (hq : RowIs w 5 (.slice b q.length cap') q.length (q.flatMap sdc)) (hqg : ∀ p ∈ q, 1 ≤ p.2 ∧ p.2 ≤ 8 ∧ p.1.num ≠ 0) (hqd : (q.map Prod.snd).Nodup) (hqn : q.length ≤ 1000) :
    Calls Tryz.prog 9 #[.slice a l.length cap, .slice b q.length cap'] w (MkE w ⟨l, sdQ q⟩ 0) := by
  have hr' := Lib.hid hr
  have hq' := Lib.hid hq
  have hso' := Lib.hid hso
  have hsm' := Lib.hid hsm
  have hqg' := Lib.hid hqg
  have hqd' := Lib.hid hqd
  clear hr hq hso hsm hqg hqd
  obtain ⟨ln, hln⟩ : ∃ ln, ln = l.length := ⟨_, rfl⟩
  obtain ⟨qn, hqn1⟩ : ∃ qn, qn = q.length := ⟨_, rfl⟩
  rw [← hln] at hn hr' ⊢
  rw [← hqn1] at hqn hq' ⊢
  have hln' := Lib.hid hln
  have hqn' := Lib.hid hqn1
  clear hln hqn1
  go_enter Tryz.func9, Tryz.ntmps9
  go_wp2_with fail
  refine (st_newM w).mono ?_
  rintro e w1 ⟨st, mb, rfl, hS1⟩
  go_wp2_with fail
  go_loopw [14] (fun i wr => ∃ k : Nat, k ≤ ln ∧ i = .int .i64 k ∧ StM w wr st mb ⟨l.take k, zSd⟩) (fun i _ => ln - (intOf i).toNat)
  case atStart => exact ⟨0, by omega, rfl, hS1⟩
  case round =>
    clear hS1
    obtain ⟨k, hk, rfl, hS⟩ := hrel
    by_cases hlt : k < ln
    · have hli : (k : Int) < (ln : Int) := by omega
      obtain ⟨r, hrk⟩ : ∃ r, l[k]? = some r := ⟨_, List.getElem?_eq_getElem (by rw [← hln'.out]; exact hlt)⟩
      obtain ⟨b1, off, hat⟩ := (hr'.out.ext hS.ground).at
      obtain ⟨rfl, _, hd⟩ := hat (by omega)
      have hrg := rws_range (by rw [← hln'.out]; exact hd) hrk
      have hlts := sort_lt hso'.out hrk
      obtain ⟨hkb, hvb⟩ := hsm'.out r (List.mem_of_getElem? hrk)
      have hkz := keyB_size hkb
      have hvz := valB_size hvb
      have htk : l.take (k + 1) = l.take k ++ [r] := by rw [List.take_add_one, hrk]; rfl
      have hfind := find_last hlts
      have hput : putW (l.take k) r.key r.val = l.take (k + 1) := by rw [putW_last hlts, htk]
      have hput' := Lib.hid hput
      have hfind' := Lib.hid hfind
      have hlk : (l.take k).length ≤ 50000 := by rw [List.length_take]; omega
      clear hat hd htk hlts hput hfind
      go_upto_region 5 with (first | (refine wpList_load_mid (by rfl) 84 (.tmp 16) (by rfl) b1 (off + k * 2) (by rfl) (rowR r).toList _ hrg Tryz.underlying84 rfl (by exact info_row) ?_) | (refine wpList_store_whole (by rfl) 84 (.tmp 8) (.tmp 17) (by rfl) wr _ (rowR r) wr.heap.size (by rfl) rfl (by rfl) info_row rfl (rowR_one r) ?_) | fail)
      have hr5 := heap_alloc_new wr (.cells (rowR r) 84)
      have hE5 := (Ext.refl wr).alloc (.cells (rowR r) 84)
      have hS5 := hS.ext hE5
      have hgs : st < wr.heap.size := hS.at.2.2.1
      have hg0 : w.heap.size ≤ wr.heap.size := hS.ground.size
      clear hS hE5 hrg
      generalize wr.alloc _ = W5 at *
      generalize wr.heap.size = g at *
      obtain ⟨y0, y1⟩ := row_cells hr5
      obtain ⟨rs5, hX5, hrs5, hc5⟩ := hS5
      simp only at hX5 hrs5
      have hfr : rs5.find? (keyIs r.key) = none := by
        have := find_fst rs5 r.key
        rw [hrs5, hfind'.out] at this
        cases h : rs5.find? (keyIs r.key) with
        | none => rfl
        | some p => rw [h] at this; cases this
      have hlook : ∀ w', Ext W5 w' → (Instr.lookup 91 (.map (some mb)) (.string r.key) false).run Tryz.prog w' = .ok (.pointer none) w' := fun w' he => by
        obtain ⟨mb', hM, hc'⟩ := (hX5.ext he).map
        rw [he.cell hc5] at hc'
        injection hc' with hc'
        injection hc' with hc'
        injection hc' with hc'
        subst hc'
        have := hM.look r.key (by omega)
        rw [hfr] at this
        exact this
      have hkc : ∀ w', Calls Tryz.prog 41 #[.string r.key] w' fun e w'' => e = .returned (.bool true) ∧ w' = w'' := fun w' => by
        have := key_any w' r.key (by omega)
        rw [hkb] at this; exact this
      have hvc : ∀ w', Calls Tryz.prog 42 #[.string r.val] w' fun e w'' => e = .returned (.bool true) ∧ w' = w'' := fun w' => by
        have := value_any w' r.val (by omega)
        rw [hvb] at this; exact this
      have hlook' := Lib.hid hlook
      have hkc' := Lib.hid hkc
      have hvc' := Lib.hid hvc
      have hX5' := Lib.hid hX5
      have hrs5' := Lib.hid hrs5
      have hr5' := Lib.hid hr5
      clear hlook hkc hvc hX5 hrs5 hfr hkb hvb hrk hr5
      refine wp_region_class (Ext W5) (by kernel_rfl) (by kernel_rfl) (Ext.refl _).drew ?_
      iterate 1 (refine wpQuiet_step (fun K hK => ?_); go_simp; first | (refine hK _ ?_; clear hK K) | (refine ⟨_, fun _ _ => rfl, hK _ ?_⟩; clear hK K))
      refine wpQuiet_load_cell (by rfl) 9 _ (by rfl) g 0 (by rfl) _ (fun w' h => h.cell y0) _ Tryz.underlying9 rfl ?_
      refine wpQuiet_step (fun K hK => ?_); go_simp
      refine ⟨_, fun w' hw => calls_same hw (hkc'.out _), hK _ ?_⟩; clear hK K
      iterate 3 (refine wpQuiet_step (fun K hK => ?_); go_simp; first | (refine hK _ ?_; clear hK K) | (refine ⟨_, fun _ _ => rfl, hK _ ?_⟩; clear hK K))
      refine wpQuiet_load_cell (by rfl) 9 _ (by rfl) g 1 (by rfl) _ (fun w' h => h.cell y1) _ Tryz.underlying9 rfl ?_
      refine wpQuiet_step (fun K hK => ?_); go_simp
      refine ⟨_, fun w' hw => calls_same hw (hvc'.out _), hK _ ?_⟩; clear hK K
      iterate 6 (refine wpQuiet_step (fun K hK => ?_); go_simp; first | (refine hK _ ?_; clear hK K) | (refine ⟨_, fun _ _ => rfl, hK _ ?_⟩; clear hK K))
      refine wpQuiet_load_cell (by rfl) 91 _ (by rfl) st 0 (by rfl) _ (fun w' h => h.cell hc5) _ Tryz.underlying91 rfl ?_
      iterate 1 (refine wpQuiet_step (fun K hK => ?_); go_simp; first | (refine hK _ ?_; clear hK K) | (refine ⟨_, fun _ _ => rfl, hK _ ?_⟩; clear hK K))
      refine wpQuiet_load_cell (by rfl) 9 _ (by rfl) g 0 (by rfl) _ (fun w' h => h.cell y0) _ Tryz.underlying9 rfl ?_
      refine wpQuiet_step (fun K hK => ?_); go_simp
      refine ⟨.pointer none, fun w' hw => by rw [hlook'.out w' hw]; exact ⟨rfl, rfl⟩, hK _ ?_⟩; clear hK K
      iterate 2 (refine wpQuiet_step (fun K hK => ?_); go_simp; first | (refine hK _ ?_; clear hK K) | (refine ⟨_, fun _ _ => rfl, hK _ ?_⟩; clear hK K))
      refine wpQuiet_nil (fun w5 hE5 => ?_)
      have z0 := hE5.cell y0
      have z1 := hE5.cell hc5
      have hlr : rs5.length ≤ 50000 := by have := congrArg List.length hrs5'.out; rw [List.length_map] at this; omega
      obtain ⟨w7, hrun, hS7, hgr⟩ := (hX5'.out.ext (hE5.trans (Ext.refl w5).drew)).store (g := g) (k := r.key) (v := r.val) (by omega) (by omega) hg0 (by omega) ((hE5.trans (Ext.refl w5).drew).row hr5'.out) (show w5.drew.cell? ⟨st, 0, none⟩ = _ from z1)
      have hc7 := (off_grown hgr).cell (show w5.drew.cell? ⟨st, 0, none⟩ = _ from z1) (show ¬ st = mb by
        obtain ⟨mb2, q1, _, _, q2⟩ := hX5'.out.maps
        rw [hc5] at q1
        injection q1 with q1; injection q1 with q1; injection q1 with q1
        rw [q1]; exact q2)
      have hfin : StM w w7 st mb ⟨l.take (k + 1), zSd⟩ := ⟨_, hS7, by rw [putR_map, hrs5'.out]; exact hput'.out, hc7⟩
      have hfin' := Lib.hid hfin
      clear hfin hS7 hgr hc7 hlook' hkc' hvc' hX5' hrs5' hr5' y0 y1 hc5 hE5
      go_upto_region 7 with fail
      go_still_tail 6, (by kernel_rfl)
      change wpList _ _ _ _ _ w5.drew
      go_wp2_with fail
      go_roundw
      case rel => exact ⟨k + 1, by omega, by go_num, hfin'.out⟩
      case measure => simp [intOf]; omega
    · have hli : ¬ (k : Int) < (ln : Int) := by omega
      have hkl : l.take k = l := List.take_of_length_le (by rw [← hln'.out]; omega)
      rw [hkl] at hS
      clear hkl hr'
      go_wp2_with fail
      go_loopw [47] (fun i wy => ∃ k : Nat, k ≤ qn ∧ i = .int .i64 k ∧ StM w wy st mb ⟨l, sdQ (q.take k)⟩) (fun i _ => qn - (intOf i).toNat)
      case atStart => exact ⟨0, by omega, rfl, hS⟩
      case round =>
        clear hS
        obtain ⟨k, hk, rfl, hS⟩ := hrel
        by_cases hlt : k < qn
        · have hli : (k : Int) < (qn : Int) := by omega
          obtain ⟨p, hpk⟩ : ∃ p, q[k]? = some p := ⟨_, List.getElem?_eq_getElem (by rw [← hqn'.out]; exact hlt)⟩
          obtain ⟨b1, off, hat⟩ := (hq'.out.ext hS.ground).at
          obtain ⟨rfl, _, hd⟩ := hat (by omega)
          have hrg := said_range (by rw [← hqn'.out]; exact hd) hpk
          obtain ⟨p1, p8, pn⟩ := hqg'.out p (List.mem_of_getElem? hpk)
          have hnot : ∀ x ∈ q.take k, x.2 ≠ p.2 := by
            intro x hx he
            obtain ⟨hkl, hpe⟩ := List.getElem?_eq_some_iff.1 hpk
            obtain ⟨j, hj, rfl⟩ := List.getElem_of_mem hx
            rw [List.length_take] at hj
            have := List.pairwise_iff_getElem.1 (show (q.map Prod.snd).Pairwise (· ≠ ·) from hqd'.out) j k (by rw [List.length_map]; omega) (by rw [List.length_map]; exact hkl) (by omega)
            rw [List.getElem_map, List.getElem_map, hpe] at this
            rw [List.getElem_take] at he
            exact this he
          have hsc : (sdQ (q.take k))[p.2]? = some ⟨0, 0, false⟩ := by
            have := sdQ_out p.2 (q.take k) zSd hnot
            unfold sdQ
            rw [this, zSd_at (by omega)]
          have hq1 := Lib.hid (sdQ_add hpk)
          obtain ⟨_, _, _, _, _, hst, _⟩ := hS.at
          have d0 := (sd_cells hst hsc).1
          have hsc' := Lib.hid hsc
          have hS' := Lib.hid hS
          have hgs : st < wr.heap.size := hS.at.2.2.1
          have hE5 := (Ext.refl wr).alloc (.cells (sdc p).toArray 87)
          have hr5 := heap_alloc_new wr (.cells (sdc p).toArray 87)
          have hS5 := hS.ext hE5
          have d5 := hE5.cell d0
          clear hat hd hnot hpk hst hsc d0 hS
          go_upto_region 12 with (first | (refine wpList_load_mid (by rfl) 87 (.tmp 49) (by rfl) b1 (off + k * 5) (by rfl) (sdc p) _ hrg Tryz.underlying87 rfl (by exact info_said) ?_) | (refine wpList_store_whole (by rfl) 87 (.tmp 10) (.tmp 50) (by rfl) wr _ (sdc p).toArray wr.heap.size (by rfl) rfl (by rfl) info_said rfl (sdc_one p) ?_) | fail)
          clear hrg
          generalize wr.alloc _ = W5 at *
          generalize wr.heap.size = g at *
          obtain ⟨y0, y1, y2, y3, y4⟩ := said_cells hr5
          have i1 : ¬ (p.2 : Int) < 1 := by omega
          have i2 : ¬ (8 : Int) < (p.2 : Int) := by omega
          have i3 : ¬ (p.1.num : Int) = 0 := by omega
          have j0 : 0 ≤ (p.2 : Int) := by omega
          have j1 : (p.2 : Int) < 9 := by omega
          have j2 : p.2 < 9 := by omega
          have j3 : ((p.2 : Int)).toNat = p.2 := by omega
          have i4 : ¬ (0 : Int) < 0 := by omega
          replace d5 : W5.cell? ⟨st, 1 + p.2 * 4, none⟩ = some (.int .u32 0) := d5
          have hS5' := Lib.hid hS5
          have hr5' := Lib.hid hr5
          clear hS5 hr5 hE5
          go_still (by kernel_rfl)
          change Exit.then _ _ _ _ W5.drew
          have hW6 := (Ext.refl W5).drew
          have hS6' := Lib.hid (hS5'.out.ext hW6)
          have hr6' := Lib.hid (hW6.row hr5'.out)
          clear hS5' hr5' y0 y1 y2 y3 y4 d5 hW6
          generalize W5.drew = W6 at *
          obtain ⟨y0, y1, y2, y3, y4⟩ := said_cells hr6'.out
          have hSS : ∀ w', Ext W6 w' → w'.cell? ⟨g, 0, none⟩ = some (.int .u8 (p.2 : Int)) ∧ w'.cell? ⟨g, 1, none⟩ = some (.int .u32 (p.1.num : Int)) ∧ w'.cell? ⟨g, 2, none⟩ = some (.int .i64 p.1.e) ∧ w'.cell? ⟨g, 3, none⟩ = some (.bool p.1.yes) ∧ w'.cell? ⟨g, 4, none⟩ = some (.slice none 0 0) := fun w' h => ⟨h.cell y0, h.cell y1, h.cell y2, h.cell y3, h.cell y4⟩
          have hSS' := Lib.hid hSS
          have hq2 := Lib.hid (show (⟨l, sdQ (q.take (k + 1))⟩ : Md) = ⟨l, (sdQ (q.take k)).set p.2 p.1⟩ by rw [hq1.out])
          have hgs' : ¬ g = st := by omega
          clear hSS y0 y1 y2 y3 y4 i1 i2 i3 i4
          go_upto_region 14 with fail
          go_region_held3 (fun w' => w'.cell? ⟨g, 0, none⟩ = some (.int .u8 (p.2 : Int)) ∧ w'.cell? ⟨g, 1, none⟩ = some (.int .u32 (p.1.num : Int)) ∧ w'.cell? ⟨g, 2, none⟩ = some (.int .i64 p.1.e) ∧ w'.cell? ⟨g, 3, none⟩ = some (.bool p.1.yes) ∧ w'.cell? ⟨g, 4, none⟩ = some (.slice none 0 0)) (first | exact hSS'.out _ (Ext.refl W6).drew | exact hSS'.out _ hX2 | exact hS3) (first | (go_at_call 43; refine (twin_lit _ p.1.e p.1.yes).mono ?_; rintro e w2 ⟨rfl, hE2⟩; have hX2 := (Ext.refl W6).drew.trans hE2; have hth2 := sd_there (hS6'.out.ext hX2) j2; have hfin := Lib.hid ((hS6'.out.ext hX2).say j2 p.1); have hst2 := (hS6'.out.ext hX2).at.2.2.2.2.2.1; have f0 := fz (o := 1 + p.2 * 4) hst2; have f1 := fz (o := 1 + p.2 * 4 + 1) hst2; have f2 := fz (o := 1 + p.2 * 4 + 2) hst2; have f3 := fz (o := 1 + p.2 * 4 + 3) hst2; obtain ⟨s0, s1, s2, s3⟩ := sd_cells hst2 hsc'.out; clear hst2; have hc3 := hSS'.out _ hX2; have hS3 := And.intro ((setCells_off (b := st) (svc p.1) (1 + p.2 * 4) w2).cell hc3.1 hgs') (And.intro ((setCells_off (b := st) (svc p.1) (1 + p.2 * 4) w2).cell hc3.2.1 hgs') (And.intro ((setCells_off (b := st) (svc p.1) (1 + p.2 * 4) w2).cell hc3.2.2.1 hgs') (And.intro ((setCells_off (b := st) (svc p.1) (1 + p.2 * 4) w2).cell hc3.2.2.2.1 hgs') ((setCells_off (b := st) (svc p.1) (1 + p.2 * 4) w2).cell hc3.2.2.2.2 hgs')))); clear hc3) | fail)
          all_goals
            clear hS3 s0 s1 s2 s3 f0 f1 f2 f3 hth2
            go_wp2_with fail
            go_roundw
            case rel => exact ⟨k + 1, by omega, by go_num, by rw [hq2.out]; exact hfin.out⟩
            case measure => simp [intOf]; omega
        · have hli : ¬ (k : Int) < (qn : Int) := by omega
          have hkl : q.take k = q := List.take_of_length_le (by rw [← hqn'.out]; omega)
          rw [hkl] at hS
          clear hkl hq'
          go_wp2_with fail
          go_ret2
          exact ⟨st, mb, rfl, hS⟩
end Go.Proofs.YthageoibkeebhaaGreatDoor
