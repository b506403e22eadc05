/- models.Make of any rows, and any that were said. No condition. -/
import Derived.Test.YthageoibkeebhaaGreatDoorGm0
import Derived.Test.YthageoibkeebhaaGreatDoorGrL
import Derived.StillTailTactics
namespace Go.Proofs.YthageoibkeebhaaGreatDoor
open Go.RowKit Go.Maps Go.WideMaps
set_option maxRecDepth 100000
set_option maxHeartbeats 4000000
def MkGE (l : List Rw) (q : List Sa) (w : World) (e : Ending) (w' : World) : Prop := Ext w w' ∧ match mkR [] l with
  | none => e = .returned (.tuple #[.pointer none, .int .i64 1])
  | some rows => match mkS [] [] q with
    | none => e = .returned (.tuple #[.pointer none, .int .i64 1])
    | some sq => ∃ st mb S, e = .returned (.tuple #[.pointer (some ⟨st, 0, none⟩), .int .i64 0]) ∧ StG w w' st mb rows S ∧ ClsS S ∧ (saG S).map Sa.bare = sq
theorem gmk_no {l : List Rw} {q : List Sa} {w w' : World} (h : Ext w w') (hn : mkR [] l = none) : MkGE l q w (.returned (.tuple #[.pointer none, .int .i64 1])) w' := by
  refine ⟨h, ?_⟩
  rw [hn]
theorem gmk_no2 {l : List Rw} {q : List Sa} {w w' : World} {rows : List Rw} (h : Ext w w') (hn : mkR [] l = some rows) (hs : mkS [] [] q = none) : MkGE l q w (.returned (.tuple #[.pointer none, .int .i64 1])) w' := by
  refine ⟨h, ?_⟩
  rw [hn]
  show match mkS [] [] q with | none => _ | some sq => _
  rw [hs]
theorem gmk_yes {l : List Rw} {q : List Sa} {w w' : World} {rows : List Rw} {sq : List Sa} {st mb : Nat} {S : List Sa} (h : Ext w w') (hn : mkR [] l = some rows) (hs : mkS [] [] q = some sq) (hM : StG w w' st mb rows S) (hc : ClsS S) (hb : (saG S).map Sa.bare = sq) : MkGE l q w (.returned (.tuple #[.pointer (some ⟨st, 0, none⟩), .int .i64 0])) w' := by
  refine ⟨h, ?_⟩
  rw [hn]
  show match mkS [] [] q with | none => _ | some sq => _
  rw [hs]
  exact ⟨st, mb, S, rfl, hM, hc, hb⟩
theorem putW_len (l : List Rw) (k v : ByteArray) : (putW l k v).length ≤ l.length + 1 := by
  have := chW_length l ⟨k, v, false⟩
  exact this
theorem twin_litG (w : World) (i : Int) (b : Bool) (l : List Rw) (a : Option Addr) (cap : Nat) (hr : RowIs w 2 (.slice a l.length cap) l.length (l.flatMap rwL)) (hn : l.length ≤ 1000000) : Calls Tryz.prog 43 #[.agg #[.int .i64 i, .bool b, .slice a l.length cap]] w fun e w' => ∃ a' cap', e = .returned (.agg #[.int .i64 i, .bool b, .slice a' l.length cap']) ∧ OwnC w' w.heap.size 84 2 (.slice a' l.length cap') l.length (l.flatMap rwL) ∧ Ext w w' := by
  refine (st_twin_rows w i b l a cap hr hn).mono ?_
  rintro e w' ⟨a', cap', he, ⟨_, ho⟩, _, hE⟩
  exact ⟨a', cap', he, ho, hE⟩
theorem gmk_any (w : World) (l : List Rw) (la : Option Addr) (lc : Nat) (hlr : RowIs w 2 (.slice la l.length lc) l.length (l.flatMap rwL)) (hl : l.length ≤ 50000) (hsm : ∀ r ∈ l, r.key.size ≤ 140737488351232 ∧ r.val.size ≤ 140737488351232)
    (q : List Sa) (qa : Option Addr) (qc : Nat) (hqr : RowIs w 5 (.slice qa q.length qc) q.length (q.flatMap Sa.cells)) (hq : q.length ≤ 50000) (hqv : SaAt w q) (hqn : ∀ p ∈ q, p.rows.length ≤ 1000000) :
    Calls Tryz.prog 9 #[.slice la l.length lc, .slice qa q.length qc] w (MkGE l q w) := by
  obtain ⟨n, hn0⟩ : ∃ n, n = l.length := ⟨_, rfl⟩
  obtain ⟨m, hm0⟩ : ∃ m, m = q.length := ⟨_, rfl⟩
  rw [← hn0] at hlr hl ⊢
  rw [← hm0] at hqr hq ⊢
  have hn := Lib.hid hn0
  have hm := Lib.hid hm0
  have hlr' := Lib.hid hlr
  have hqr' := Lib.hid hqr
  have hsm' := Lib.hid hsm
  have hqv' := Lib.hid hqv
  have hqn' := Lib.hid hqn
  clear hn0 hm0 hlr hqr hsm hqv hqn
  go_enter Tryz.func9, Tryz.ntmps9
  go_wp2_with fail
  refine (st_newM w).mono ?_
  rintro e w1 ⟨st, mb, rfl, hS1⟩
  go_wp2_with fail
  go_loopw [14] (fun i wr => ∃ (k : Nat) (acc : List Rw), k ≤ n ∧ i = .int .i64 k ∧ Hid (mkR [] l = mkR acc (l.drop k)) ∧ StM w wr st mb ⟨acc, zSd⟩ ∧ Hid (acc.length ≤ k)) (fun i _ => n - (intOf i).toNat)
  case atStart => exact ⟨0, [], by omega, rfl, Lib.hid rfl, hS1, Lib.hid (Nat.le_refl _)⟩
  case round =>
    clear hS1
    obtain ⟨k, acc, hk, rfl, hmk, hS, hacc⟩ := hrel
    by_cases hlt : k < n
    · have hli : (k : Int) < (n : Int) := by omega
      obtain ⟨r, hrk⟩ : ∃ r, l[k]? = some r := ⟨_, List.getElem?_eq_getElem (by rw [← hn.out]; exact hlt)⟩
      obtain ⟨b1, off, hat⟩ := (hlr'.out.ext hS.ground).at
      obtain ⟨rfl, _, hd⟩ := hat (by omega)
      have hrg := rws_range (by rw [← hn.out]; exact hd) hrk
      obtain ⟨hkz, hvz⟩ := hsm'.out r (List.mem_of_getElem? hrk)
      have hsort := hS.sort
      have hdr : Hid (mkR [] l = if keyB r.key = true ∧ valB r.val = true ∧ findW acc r.key = none then mkR (putW acc r.key r.val) (l.drop (k + 1)) else none) := Lib.hid (by
        obtain ⟨hlt2, he⟩ := List.getElem?_eq_some_iff.1 hrk
        rw [hmk.out, List.drop_eq_getElem_cons hlt2, he]
        show (if _ then mkR (chR acc ⟨r.key, r.val, false⟩) _ else none) = _
        rw [chR_eq _ hsort]
        rfl)
      clear hat hd hsort
      go_upto_region 5 with (first | (refine wpList_load_mid (by rfl) 84 (.tmp 16) (by rfl) b1 (off + k * 2) (by rfl) (rowR r).toList _ hrg Tryz.underlying84 rfl (by exact info_row) ?_) | (refine wpList_store_whole (by rfl) 84 (.tmp 8) (.tmp 17) (by rfl) wr _ (rowR r) wr.heap.size (by rfl) rfl (by rfl) info_row rfl (rowR_one r) ?_) | fail)
      have hr5 := heap_alloc_new wr (.cells (rowR r) 84)
      have hE5 := (Ext.refl wr).alloc (.cells (rowR r) 84)
      have hS5 := hS.ext hE5
      have hgs : st < wr.heap.size := hS.at.2.2.1
      have hg0 : w.heap.size ≤ wr.heap.size := hS.ground.size
      clear hS hE5 hrg hmk
      generalize wr.alloc _ = W5 at *
      generalize wr.heap.size = g at *
      obtain ⟨y0, y1⟩ := row_cells hr5
      have hXw := hS5.ground
      obtain ⟨rs5, hX5, hrs5, hc5⟩ := hS5
      simp only at hX5 hrs5
      have hlook : ∀ w', Ext W5 w' → (Instr.lookup 91 (.map (some mb)) (.string r.key) false).run Tryz.prog w' = .ok (.pointer ((rs5.find? (keyIs r.key)).map fun p => ⟨p.2, 0, none⟩)) w' := fun w' he => by
        obtain ⟨mb', hM, hc'⟩ := (hX5.ext he).map
        rw [he.cell hc5] at hc'
        injection hc' with hc'
        injection hc' with hc'
        injection hc' with hc'
        subst hc'
        exact hM.look r.key (by omega)
      have hfnd := find_fst rs5 r.key
      rw [hrs5] at hfnd
      have hkc : ∀ w', Calls Tryz.prog 41 #[.string r.key] w' fun e w'' => e = .returned (.bool (keyB r.key)) ∧ w' = w'' := fun w' => key_any w' r.key hkz
      have hvc : ∀ w', Calls Tryz.prog 42 #[.string r.val] w' fun e w'' => e = .returned (.bool (valB r.val)) ∧ w' = w'' := fun w' => value_any w' r.val hvz
      have hlook' := Lib.hid hlook
      have hfnd' := Lib.hid hfnd
      have hX5' := Lib.hid hX5
      have hrs5' := Lib.hid hrs5
      have hr5' := Lib.hid hr5
      have hXw' := Lib.hid hXw
      clear hlook hX5 hrs5 hrk hr5 hfnd hXw
      cases hkb : keyB r.key
      · rw [hkb] at hkc
        have hno : Hid (mkR [] l = none) := Lib.hid (by rw [hdr.out, if_neg (by rw [hkb]; simp)])
        have hkc' := Lib.hid hkc
        clear hkc hvc hkb
        refine bqRegion (Ext W5) (by kernel_rfl) (by kernel_rfl) (Ext.refl _).drew ?_
        iterate 1 (refine bqStep (fun K hK => ?_); go_simp; first | (refine hK _ ?_; clear hK K) | (refine ⟨_, fun _ _ => rfl, hK _ ?_⟩; clear hK K))
        refine bqCell (by rfl) 9 _ (by rfl) g 0 (by rfl) _ (fun w' h => h.cell y0) _ Tryz.underlying9 rfl ?_
        refine bqStep (fun K hK => ?_); go_simp
        refine ⟨_, fun w' hw => calls_same hw (hkc'.out _), hK _ ?_⟩; clear hK K
        iterate 2 (refine bqStep (fun K hK => ?_); go_simp; first | (refine hK _ ?_; clear hK K) | (refine ⟨_, fun _ _ => rfl, hK _ ?_⟩; clear hK K))
        iterate 4 (refine bqSkip (by rfl) ?_; simp only [Act.put, List.setIfInBounds_toArray, List.set_cons_zero, List.set_cons_succ])
        iterate 2 (refine bqStep (fun K hK => ?_); go_simp; first | (refine hK _ ?_; clear hK K) | (refine ⟨_, fun _ _ => rfl, hK _ ?_⟩; clear hK K))
        iterate 8 (refine bqSkip (by rfl) ?_; simp only [Act.put, List.setIfInBounds_toArray, List.set_cons_zero, List.set_cons_succ])
        iterate 1 (refine bqStep (fun K hK => ?_); go_simp; first | (refine hK _ ?_; clear hK K) | (refine ⟨_, fun _ _ => rfl, hK _ ?_⟩; clear hK K))
        refine bqNil (fun w5 hE5 => ?_)
        go_wp2_with fail
        go_ret2
        exact gmk_no (hXw'.out.trans hE5) hno.out
      · rw [hkb] at hkc
        have hkc' := Lib.hid hkc
        have hkb' := Lib.hid hkb
        clear hkc hkb
        cases hvb : valB r.val
        · rw [hvb] at hvc
          have hno : Hid (mkR [] l = none) := Lib.hid (by rw [hdr.out, if_neg (by rw [hvb]; simp)])
          have hvc' := Lib.hid hvc
          clear hvc hvb
          refine bqRegion (Ext W5) (by kernel_rfl) (by kernel_rfl) (Ext.refl _).drew ?_
          iterate 1 (refine bqStep (fun K hK => ?_); go_simp; first | (refine hK _ ?_; clear hK K) | (refine ⟨_, fun _ _ => rfl, hK _ ?_⟩; clear hK K))
          refine bqCell (by rfl) 9 _ (by rfl) g 0 (by rfl) _ (fun w' h => h.cell y0) _ Tryz.underlying9 rfl ?_
          refine bqStep (fun K hK => ?_); go_simp
          refine ⟨_, fun w' hw => calls_same hw (hkc'.out _), hK _ ?_⟩; clear hK K
          iterate 3 (refine bqStep (fun K hK => ?_); go_simp; first | (refine hK _ ?_; clear hK K) | (refine ⟨_, fun _ _ => rfl, hK _ ?_⟩; clear hK K))
          refine bqCell (by rfl) 9 _ (by rfl) g 1 (by rfl) _ (fun w' h => h.cell y1) _ Tryz.underlying9 rfl ?_
          refine bqStep (fun K hK => ?_); go_simp
          refine ⟨_, fun w' hw => calls_same hw (hvc'.out _), hK _ ?_⟩; clear hK K
          iterate 3 (refine bqStep (fun K hK => ?_); go_simp; first | (refine hK _ ?_; clear hK K) | (refine ⟨_, fun _ _ => rfl, hK _ ?_⟩; clear hK K))
          iterate 8 (refine bqSkip (by rfl) ?_; simp only [Act.put, List.setIfInBounds_toArray, List.set_cons_zero, List.set_cons_succ])
          iterate 1 (refine bqStep (fun K hK => ?_); go_simp; first | (refine hK _ ?_; clear hK K) | (refine ⟨_, fun _ _ => rfl, hK _ ?_⟩; clear hK K))
          refine bqNil (fun w5 hE5 => ?_)
          go_wp2_with fail
          go_ret2
          exact gmk_no (hXw'.out.trans hE5) hno.out
        · rw [hvb] at hvc
          have hvc' := Lib.hid hvc
          have hvb' := Lib.hid hvb
          clear hvc hvb
          cases hfr : rs5.find? (keyIs r.key) with
          | some p =>
            have hno : Hid (mkR [] l = none) := Lib.hid (by
              have h5 := hfnd'.out
              rw [hfr] at h5
              rw [hdr.out, if_neg (fun h => by rw [h.2.2] at h5; cases h5)])
            have hlk : Hid (∀ w', Ext W5 w' → (Instr.lookup 91 (.map (some mb)) (.string r.key) false).run Tryz.prog w' = .ok (.pointer (some ⟨p.2, 0, none⟩)) w') := Lib.hid (fun w' he => by rw [hlook'.out w' he, hfr]; rfl)
            clear hfr
            refine bqRegion (Ext W5) (by kernel_rfl) (by kernel_rfl) (Ext.refl _).drew ?_
            iterate 1 (refine bqStep (fun K hK => ?_); go_simp; first | (refine hK _ ?_; clear hK K) | (refine ⟨_, fun _ _ => rfl, hK _ ?_⟩; clear hK K))
            refine bqCell (by rfl) 9 _ (by rfl) g 0 (by rfl) _ (fun w' h => h.cell y0) _ Tryz.underlying9 rfl ?_
            refine bqStep (fun K hK => ?_); go_simp
            refine ⟨_, fun w' hw => calls_same hw (hkc'.out _), hK _ ?_⟩; clear hK K
            iterate 3 (refine bqStep (fun K hK => ?_); go_simp; first | (refine hK _ ?_; clear hK K) | (refine ⟨_, fun _ _ => rfl, hK _ ?_⟩; clear hK K))
            refine bqCell (by rfl) 9 _ (by rfl) g 1 (by rfl) _ (fun w' h => h.cell y1) _ Tryz.underlying9 rfl ?_
            refine bqStep (fun K hK => ?_); go_simp
            refine ⟨_, fun w' hw => calls_same hw (hvc'.out _), hK _ ?_⟩; clear hK K
            iterate 6 (refine bqStep (fun K hK => ?_); go_simp; first | (refine hK _ ?_; clear hK K) | (refine ⟨_, fun _ _ => rfl, hK _ ?_⟩; clear hK K))
            refine bqCell (by rfl) 91 _ (by rfl) st 0 (by rfl) _ (fun w' h => h.cell hc5) _ Tryz.underlying91 rfl ?_
            iterate 1 (refine bqStep (fun K hK => ?_); go_simp; first | (refine hK _ ?_; clear hK K) | (refine ⟨_, fun _ _ => rfl, hK _ ?_⟩; clear hK K))
            refine bqCell (by rfl) 9 _ (by rfl) g 0 (by rfl) _ (fun w' h => h.cell y0) _ Tryz.underlying9 rfl ?_
            refine bqStep (fun K hK => ?_); go_simp
            refine ⟨.pointer (some ⟨p.2, 0, none⟩), fun w' hw => by rw [hlk.out w' hw]; exact ⟨rfl, rfl⟩, hK _ ?_⟩; clear hK K
            iterate 2 (refine bqStep (fun K hK => ?_); go_simp; first | (refine hK _ ?_; clear hK K) | (refine ⟨_, fun _ _ => rfl, hK _ ?_⟩; clear hK K))
            refine bqNil (fun w5 hE5 => ?_)
            go_wp2_with fail
            go_ret2
            exact gmk_no (hXw'.out.trans hE5) hno.out
          | none =>
            have hnx : Hid (mkR [] l = mkR (putW acc r.key r.val) (l.drop (k + 1))) := Lib.hid (by
              have h5 := hfnd'.out
              rw [hfr] at h5
              rw [hdr.out, if_pos ⟨hkb'.out, hvb'.out, h5.symm⟩])
            have hlk : Hid (∀ w', Ext W5 w' → (Instr.lookup 91 (.map (some mb)) (.string r.key) false).run Tryz.prog w' = .ok (.pointer none) w') := Lib.hid (fun w' he => by rw [hlook'.out w' he, hfr]; rfl)
            clear hfr
            refine bqRegion (Ext W5) (by kernel_rfl) (by kernel_rfl) (Ext.refl _).drew ?_
            iterate 1 (refine bqStep (fun K hK => ?_); go_simp; first | (refine hK _ ?_; clear hK K) | (refine ⟨_, fun _ _ => rfl, hK _ ?_⟩; clear hK K))
            refine bqCell (by rfl) 9 _ (by rfl) g 0 (by rfl) _ (fun w' h => h.cell y0) _ Tryz.underlying9 rfl ?_
            refine bqStep (fun K hK => ?_); go_simp
            refine ⟨_, fun w' hw => calls_same hw (hkc'.out _), hK _ ?_⟩; clear hK K
            iterate 3 (refine bqStep (fun K hK => ?_); go_simp; first | (refine hK _ ?_; clear hK K) | (refine ⟨_, fun _ _ => rfl, hK _ ?_⟩; clear hK K))
            refine bqCell (by rfl) 9 _ (by rfl) g 1 (by rfl) _ (fun w' h => h.cell y1) _ Tryz.underlying9 rfl ?_
            refine bqStep (fun K hK => ?_); go_simp
            refine ⟨_, fun w' hw => calls_same hw (hvc'.out _), hK _ ?_⟩; clear hK K
            iterate 6 (refine bqStep (fun K hK => ?_); go_simp; first | (refine hK _ ?_; clear hK K) | (refine ⟨_, fun _ _ => rfl, hK _ ?_⟩; clear hK K))
            refine bqCell (by rfl) 91 _ (by rfl) st 0 (by rfl) _ (fun w' h => h.cell hc5) _ Tryz.underlying91 rfl ?_
            iterate 1 (refine bqStep (fun K hK => ?_); go_simp; first | (refine hK _ ?_; clear hK K) | (refine ⟨_, fun _ _ => rfl, hK _ ?_⟩; clear hK K))
            refine bqCell (by rfl) 9 _ (by rfl) g 0 (by rfl) _ (fun w' h => h.cell y0) _ Tryz.underlying9 rfl ?_
            refine bqStep (fun K hK => ?_); go_simp
            refine ⟨.pointer none, fun w' hw => by rw [hlk.out w' hw]; exact ⟨rfl, rfl⟩, hK _ ?_⟩; clear hK K
            iterate 2 (refine bqStep (fun K hK => ?_); go_simp; first | (refine hK _ ?_; clear hK K) | (refine ⟨_, fun _ _ => rfl, hK _ ?_⟩; clear hK K))
            refine bqNil (fun w5 hE5 => ?_)
            have z0 := hE5.cell y0
            have z1 := hE5.cell hc5
            have hlr : rs5.length ≤ 50000 := by have := congrArg List.length hrs5'.out; rw [List.length_map] at this; have := hacc.out; omega
            obtain ⟨w7, hrun, hS7, hgr⟩ := (hX5'.out.ext (hE5.trans (Ext.refl w5).drew)).store (g := g) (k := r.key) (v := r.val) (by omega) hkz hg0 (by omega) ((hE5.trans (Ext.refl w5).drew).row hr5'.out) (show w5.drew.cell? ⟨st, 0, none⟩ = _ from z1)
            have hc7 := (off_grown hgr).cell (show w5.drew.cell? ⟨st, 0, none⟩ = _ from z1) (show ¬ st = mb by
              obtain ⟨mb2, q1, _, _, q2⟩ := hX5'.out.maps
              rw [hc5] at q1
              injection q1 with q1; injection q1 with q1; injection q1 with q1
              rw [q1]; exact q2)
            have hfin : StM w w7 st mb ⟨putW acc r.key r.val, zSd⟩ := ⟨_, hS7, by rw [putR_map, hrs5'.out], hc7⟩
            have hfin' := Lib.hid hfin
            have hlen : Hid ((putW acc r.key r.val).length ≤ k + 1) := Lib.hid (by have h1 := putW_len acc r.key r.val; have h2 := hacc.out; omega)
            clear hfin hS7 hgr hc7 hlook' hkc' hvc' hX5' hrs5' hr5' y0 y1 hc5 hE5 hlk hfnd' hkb' hvb'
            go_upto_region 7 with fail
            go_still_tail 6, (by kernel_rfl)
            change wpList _ _ _ _ _ w5.drew
            go_wp2_with fail
            go_roundw
            case rel => exact ⟨k + 1, putW acc r.key r.val, by omega, by go_num, hnx, hfin'.out, hlen⟩
            case measure => simp [intOf]; omega
    · have hli : ¬ (k : Int) < (n : Int) := by omega
      have hall : Hid (mkR [] l = some acc) := Lib.hid (by rw [hmk.out, List.drop_of_length_le (by rw [← hn.out]; omega)]; rfl)
      have hG := hS.toG
      clear hlr' hsm' hmk hacc hn hS
      go_wp2_with fail
      go_loopw [47] (fun i wy => ∃ (j : Nat) (S : List Sa), j ≤ m ∧ i = .int .i64 j ∧ Hid (mkS [] [] q = mkS (q.take j) ((saG S).map Sa.bare) (q.drop j)) ∧ StG w wy st mb acc S ∧ Hid (ClsS S ∧ ∀ c s, S[c]? = some s → (0 < s.num ↔ ∃ p ∈ q.take j, p.cl = c))) (fun i _ => m - (intOf i).toNat)
      case atStart => exact ⟨0, zSa, by omega, rfl, Lib.hid rfl, hG, Lib.hid ⟨zSa_cls, fun c s h => ⟨fun h0 => by have := zSa_num h; omega, fun ⟨p, hp, _⟩ => nomatch hp⟩⟩⟩
      case round =>
        clear hG
        obtain ⟨j, S, hj, rfl, hmk, hG, hcs⟩ := hrel
        by_cases hlt : j < m
        · have hli : (j : Int) < (m : Int) := by omega
          obtain ⟨y, hy⟩ : ∃ y, q[j]? = some y := ⟨_, List.getElem?_eq_getElem (by rw [← hm.out]; exact hlt)⟩
          obtain ⟨ob, oo, hat⟩ := hqr'.out.at
          obtain ⟨rfl, _, hdy⟩ := hat (by omega)
          have hrg := sas_range (by rw [← hm.out]; exact hdy) hy
          obtain ⟨va, vc, hv, hyr0⟩ := hqv'.out y (List.mem_of_getElem? hy)
          have hyr := Lib.hid hyr0
          rw [sa_cells hv] at hrg
          have hE := hG.ground
          have hrg : wr.rangeAt ob (oo + j * 5) (saRow y va y.rows.length vc).toList := fun r v hv => hE.cell (hrg r v hv)
          have hyn := hqn'.out y (List.mem_of_getElem? hy)
          have htk : Hid (q.take (j + 1) = q.take j ++ [y]) := Lib.hid (by rw [List.take_add_one, hy]; rfl)
          have hmk2 : Hid (mkS [] [] q = if goodS (q.take j) y then mkS (q.take (j + 1)) (keepS ((saG S).map Sa.bare) y.bare) (q.drop (j + 1)) else none) := Lib.hid (by
            obtain ⟨hlt2, he⟩ := List.getElem?_eq_some_iff.1 hy
            rw [hmk.out, List.drop_eq_getElem_cons hlt2, he, htk.out]
            rfl)
          obtain ⟨hst0, h9, hst, _⟩ := hG.row
          have hgs : st < wr.heap.size := (Array.getElem?_eq_some_iff.1 hst).1
          have hE5 := (Ext.refl wr).alloc (.cells (saRow y va y.rows.length vc) 87)
          have hr5 := heap_alloc_new wr (.cells (saRow y va y.rows.length vc) 87)
          have hG5 := Lib.hid (hG.ext hE5)
          have h9' := Lib.hid h9
          clear hat hdy hy hv hmk hyr0 hst hG h9 hst0
          go_upto_region 12 with (first | (refine wpList_load_mid (by rfl) 87 (.tmp 49) (by rfl) ob (oo + j * 5) (by rfl) (saRow y va y.rows.length vc).toList _ hrg Tryz.underlying87 rfl (by exact info_said) ?_) | (refine wpList_store_whole (by rfl) 87 (.tmp 10) (.tmp 50) (by rfl) wr _ (saRow y va y.rows.length vc) wr.heap.size (by rfl) rfl (by rfl) info_said rfl (saRow_one _ _ _ _) ?_) | fail)
          clear hrg
          generalize wr.alloc _ = W5 at *
          generalize wr.heap.size = g at *
          obtain ⟨y0, y1, y2, y3, y4⟩ := sa_cs hr5
          have hXw := Lib.hid hG5.out.ground
          have hr5' := Lib.hid hr5
          clear hr5 hE5 hE
          by_cases i1 : y.cl < 1
          · have hi1 : (y.cl : Int) < 1 := by omega
            have hng : Hid (mkS [] [] q = none) := Lib.hid (by rw [hmk2.out, if_neg (fun h => by have := h.1; omega)])
            clear hmk2
            refine bqRegion (Ext W5) (by kernel_rfl) (by kernel_rfl) (Ext.refl _).drew ?_
            iterate 1 (refine bqStep (fun K hK => ?_); go_simp; first | (refine hK _ ?_; clear hK K) | (refine ⟨_, fun _ _ => rfl, hK _ ?_⟩; clear hK K))
            refine bqCell (by rfl) 5 _ (by rfl) g 0 (by rfl) _ (fun w' h => h.cell y0) _ Tryz.underlying5 rfl ?_
            simp only [Act.put, List.setIfInBounds_toArray, List.set_cons_zero, List.set_cons_succ]
            iterate 2 (refine bqStep (fun K hK => ?_); go_simp; first | (refine hK _ ?_; clear hK K) | (refine ⟨_, fun _ _ => rfl, hK _ ?_⟩; clear hK K))
            iterate 3 (refine bqSkip (by rfl) ?_; simp only [Act.put, List.setIfInBounds_toArray, List.set_cons_zero, List.set_cons_succ])
            iterate 2 (refine bqStep (fun K hK => ?_); go_simp; first | (refine hK _ ?_; clear hK K) | (refine ⟨_, fun _ _ => rfl, hK _ ?_⟩; clear hK K))
            iterate 3 (refine bqSkip (by rfl) ?_; simp only [Act.put, List.setIfInBounds_toArray, List.set_cons_zero, List.set_cons_succ])
            iterate 2 (refine bqStep (fun K hK => ?_); go_simp; first | (refine hK _ ?_; clear hK K) | (refine ⟨_, fun _ _ => rfl, hK _ ?_⟩; clear hK K))
            iterate 9 (refine bqSkip (by rfl) ?_; simp only [Act.put, List.setIfInBounds_toArray, List.set_cons_zero, List.set_cons_succ])
            iterate 1 (refine bqStep (fun K hK => ?_); go_simp; first | (refine hK _ ?_; clear hK K) | (refine ⟨_, fun _ _ => rfl, hK _ ?_⟩; clear hK K))
            refine bqNil (fun w5 hE5 => ?_)
            go_wp2_with fail
            go_ret2
            exact gmk_no2 (hXw.out.trans hE5) hall.out hng.out
          · have hi1 : ¬ (y.cl : Int) < 1 := by omega
            by_cases i2 : 8 < y.cl
            · have hi2 : (8 : Int) < (y.cl : Int) := by omega
              have hng : Hid (mkS [] [] q = none) := Lib.hid (by rw [hmk2.out, if_neg (fun h => by have := h.2.1; omega)])
              clear hmk2
              refine bqRegion (Ext W5) (by kernel_rfl) (by kernel_rfl) (Ext.refl _).drew ?_
              iterate 1 (refine bqStep (fun K hK => ?_); go_simp; first | (refine hK _ ?_; clear hK K) | (refine ⟨_, fun _ _ => rfl, hK _ ?_⟩; clear hK K))
              refine bqCell (by rfl) 5 _ (by rfl) g 0 (by rfl) _ (fun w' h => h.cell y0) _ Tryz.underlying5 rfl ?_
              simp only [Act.put, List.setIfInBounds_toArray, List.set_cons_zero, List.set_cons_succ]
              iterate 3 (refine bqStep (fun K hK => ?_); go_simp; first | (refine hK _ ?_; clear hK K) | (refine ⟨_, fun _ _ => rfl, hK _ ?_⟩; clear hK K))
              refine bqCell (by rfl) 5 _ (by rfl) g 0 (by rfl) _ (fun w' h => h.cell y0) _ Tryz.underlying5 rfl ?_
              simp only [Act.put, List.setIfInBounds_toArray, List.set_cons_zero, List.set_cons_succ]
              iterate 3 (refine bqStep (fun K hK => ?_); go_simp; first | (refine hK _ ?_; clear hK K) | (refine ⟨_, fun _ _ => rfl, hK _ ?_⟩; clear hK K))
              iterate 3 (refine bqSkip (by rfl) ?_; simp only [Act.put, List.setIfInBounds_toArray, List.set_cons_zero, List.set_cons_succ])
              iterate 2 (refine bqStep (fun K hK => ?_); go_simp; first | (refine hK _ ?_; clear hK K) | (refine ⟨_, fun _ _ => rfl, hK _ ?_⟩; clear hK K))
              iterate 9 (refine bqSkip (by rfl) ?_; simp only [Act.put, List.setIfInBounds_toArray, List.set_cons_zero, List.set_cons_succ])
              iterate 1 (refine bqStep (fun K hK => ?_); go_simp; first | (refine hK _ ?_; clear hK K) | (refine ⟨_, fun _ _ => rfl, hK _ ?_⟩; clear hK K))
              refine bqNil (fun w5 hE5 => ?_)
              go_wp2_with fail
              go_ret2
              exact gmk_no2 (hXw.out.trans hE5) hall.out hng.out
            · have hi2 : ¬ (8 : Int) < (y.cl : Int) := by omega
              by_cases i3 : y.num = 0
              · have hi3 : (y.num : Int) = 0 := by omega
                have hng : Hid (mkS [] [] q = none) := Lib.hid (by rw [hmk2.out, if_neg (fun h => h.2.2.1 i3)])
                clear hmk2
                refine bqRegion (Ext W5) (by kernel_rfl) (by kernel_rfl) (Ext.refl _).drew ?_
                iterate 1 (refine bqStep (fun K hK => ?_); go_simp; first | (refine hK _ ?_; clear hK K) | (refine ⟨_, fun _ _ => rfl, hK _ ?_⟩; clear hK K))
                refine bqCell (by rfl) 5 _ (by rfl) g 0 (by rfl) _ (fun w' h => h.cell y0) _ Tryz.underlying5 rfl ?_
                simp only [Act.put, List.setIfInBounds_toArray, List.set_cons_zero, List.set_cons_succ]
                iterate 3 (refine bqStep (fun K hK => ?_); go_simp; first | (refine hK _ ?_; clear hK K) | (refine ⟨_, fun _ _ => rfl, hK _ ?_⟩; clear hK K))
                refine bqCell (by rfl) 5 _ (by rfl) g 0 (by rfl) _ (fun w' h => h.cell y0) _ Tryz.underlying5 rfl ?_
                simp only [Act.put, List.setIfInBounds_toArray, List.set_cons_zero, List.set_cons_succ]
                iterate 4 (refine bqStep (fun K hK => ?_); go_simp; first | (refine hK _ ?_; clear hK K) | (refine ⟨_, fun _ _ => rfl, hK _ ?_⟩; clear hK K))
                refine bqCell (by rfl) 62 _ (by rfl) g 1 (by rfl) _ (fun w' h => h.cell y1) _ Tryz.underlying62 rfl ?_
                simp only [Act.put, List.setIfInBounds_toArray, List.set_cons_zero, List.set_cons_succ]
                iterate 3 (refine bqStep (fun K hK => ?_); go_simp; first | (refine hK _ ?_; clear hK K) | (refine ⟨_, fun _ _ => rfl, hK _ ?_⟩; clear hK K))
                iterate 9 (refine bqSkip (by rfl) ?_; simp only [Act.put, List.setIfInBounds_toArray, List.set_cons_zero, List.set_cons_succ])
                iterate 1 (refine bqStep (fun K hK => ?_); go_simp; first | (refine hK _ ?_; clear hK K) | (refine ⟨_, fun _ _ => rfl, hK _ ?_⟩; clear hK K))
                refine bqNil (fun w5 hE5 => ?_)
                go_wp2_with fail
                go_ret2
                exact gmk_no2 (hXw.out.trans hE5) hall.out hng.out
              · have hi3 : ¬ (y.num : Int) = 0 := by omega
                have hb3 : ((y.num : Int) == 0) = false := beq_eq_false_iff_ne.2 hi3
                have j0 : 0 ≤ (y.cl : Int) := by omega
                have j1 : (y.cl : Int) < 9 := by omega
                have j2 : y.cl < 9 := by omega
                have j3 : ((y.cl : Int)).toNat = y.cl := by omega
                obtain ⟨s, hs⟩ : ∃ s, S[y.cl]? = some s := ⟨_, List.getElem?_eq_getElem (by rw [h9'.out]; omega)⟩
                have d5 := (sg_cells hG5.out.row.2.2.1 hs).1
                have hs' := Lib.hid hs
                clear hs
                by_cases i4 : 0 < s.num
                · have hi4 : (0 : Int) < (s.num : Int) := by omega
                  have hng : Hid (mkS [] [] q = none) := Lib.hid (by
                    rw [hmk2.out, if_neg (fun h => ?_)]
                    obtain ⟨p, hp, he⟩ := (hcs.out.2 _ _ hs'.out).1 i4
                    exact h.2.2.2 p hp he)
                  clear hmk2
                  refine bqRegion (Ext W5) (by kernel_rfl) (by kernel_rfl) (Ext.refl _).drew ?_
                  iterate 1 (refine bqStep (fun K hK => ?_); go_simp; first | (refine hK _ ?_; clear hK K) | (refine ⟨_, fun _ _ => rfl, hK _ ?_⟩; clear hK K))
                  refine bqCell (by rfl) 5 _ (by rfl) g 0 (by rfl) _ (fun w' h => h.cell y0) _ Tryz.underlying5 rfl ?_
                  simp only [Act.put, List.setIfInBounds_toArray, List.set_cons_zero, List.set_cons_succ]
                  iterate 3 (refine bqStep (fun K hK => ?_); go_simp; first | (refine hK _ ?_; clear hK K) | (refine ⟨_, fun _ _ => rfl, hK _ ?_⟩; clear hK K))
                  refine bqCell (by rfl) 5 _ (by rfl) g 0 (by rfl) _ (fun w' h => h.cell y0) _ Tryz.underlying5 rfl ?_
                  simp only [Act.put, List.setIfInBounds_toArray, List.set_cons_zero, List.set_cons_succ]
                  iterate 4 (refine bqStep (fun K hK => ?_); go_simp; first | (refine hK _ ?_; clear hK K) | (refine ⟨_, fun _ _ => rfl, hK _ ?_⟩; clear hK K))
                  refine bqCell (by rfl) 62 _ (by rfl) g 1 (by rfl) _ (fun w' h => h.cell y1) _ Tryz.underlying62 rfl ?_
                  simp only [Act.put, List.setIfInBounds_toArray, List.set_cons_zero, List.set_cons_succ]
                  iterate 5 (refine bqStep (fun K hK => ?_); go_simp; first | (refine hK _ ?_; clear hK K) | (refine ⟨_, fun _ _ => rfl, hK _ ?_⟩; clear hK K))
                  refine bqCell (by rfl) 5 _ (by rfl) g 0 (by rfl) _ (fun w' h => h.cell y0) _ Tryz.underlying5 rfl ?_
                  simp only [Act.put, List.setIfInBounds_toArray, List.set_cons_zero, List.set_cons_succ]
                  iterate 4 (refine bqStep (fun K hK => ?_); go_simp; first | (refine hK _ ?_; clear hK K) | (refine ⟨_, fun _ _ => rfl, hK _ ?_⟩; clear hK K))
                  refine bqCell (by rfl) 62 _ (by rfl) st (1 + y.cl * 4) (by rfl) _ (fun w' h => h.cell d5) _ Tryz.underlying62 rfl ?_
                  simp only [Act.put, List.setIfInBounds_toArray, List.set_cons_zero, List.set_cons_succ]
                  iterate 2 (refine bqStep (fun K hK => ?_); go_simp; first | (refine hK _ ?_; clear hK K) | (refine ⟨_, fun _ _ => rfl, hK _ ?_⟩; clear hK K))
                  refine bqNil (fun w5 hE5 => ?_)
                  go_wp2_with fail
                  go_ret2
                  exact gmk_no2 (hXw.out.trans hE5) hall.out hng.out
                · have hi4 : ¬ (0 : Int) < (s.num : Int) := by omega
                  have hyes : Hid (mkS [] [] q = mkS (q.take (j + 1)) (keepS ((saG S).map Sa.bare) y.bare) (q.drop (j + 1))) := Lib.hid (by rw [hmk2.out, if_pos ⟨by omega, by omega, i3, fun p hp he => i4 ((hcs.out.2 _ _ hs'.out).2 ⟨p, hp, he⟩)⟩])
                  clear hmk2
                  refine bqRegion (Ext W5) (by kernel_rfl) (by kernel_rfl) (Ext.refl _).drew ?_
                  iterate 1 (refine bqStep (fun K hK => ?_); go_simp; first | (refine hK _ ?_; clear hK K) | (refine ⟨_, fun _ _ => rfl, hK _ ?_⟩; clear hK K))
                  refine bqCell (by rfl) 5 _ (by rfl) g 0 (by rfl) _ (fun w' h => h.cell y0) _ Tryz.underlying5 rfl ?_
                  simp only [Act.put, List.setIfInBounds_toArray, List.set_cons_zero, List.set_cons_succ]
                  iterate 3 (refine bqStep (fun K hK => ?_); go_simp; first | (refine hK _ ?_; clear hK K) | (refine ⟨_, fun _ _ => rfl, hK _ ?_⟩; clear hK K))
                  refine bqCell (by rfl) 5 _ (by rfl) g 0 (by rfl) _ (fun w' h => h.cell y0) _ Tryz.underlying5 rfl ?_
                  simp only [Act.put, List.setIfInBounds_toArray, List.set_cons_zero, List.set_cons_succ]
                  iterate 4 (refine bqStep (fun K hK => ?_); go_simp; first | (refine hK _ ?_; clear hK K) | (refine ⟨_, fun _ _ => rfl, hK _ ?_⟩; clear hK K))
                  refine bqCell (by rfl) 62 _ (by rfl) g 1 (by rfl) _ (fun w' h => h.cell y1) _ Tryz.underlying62 rfl ?_
                  simp only [Act.put, List.setIfInBounds_toArray, List.set_cons_zero, List.set_cons_succ]
                  iterate 5 (refine bqStep (fun K hK => ?_); go_simp; first | (refine hK _ ?_; clear hK K) | (refine ⟨_, fun _ _ => rfl, hK _ ?_⟩; clear hK K))
                  refine bqCell (by rfl) 5 _ (by rfl) g 0 (by rfl) _ (fun w' h => h.cell y0) _ Tryz.underlying5 rfl ?_
                  simp only [Act.put, List.setIfInBounds_toArray, List.set_cons_zero, List.set_cons_succ]
                  iterate 4 (refine bqStep (fun K hK => ?_); go_simp; first | (refine hK _ ?_; clear hK K) | (refine ⟨_, fun _ _ => rfl, hK _ ?_⟩; clear hK K))
                  refine bqCell (by rfl) 62 _ (by rfl) st (1 + y.cl * 4) (by rfl) _ (fun w' h => h.cell d5) _ Tryz.underlying62 rfl ?_
                  simp only [Act.put, List.setIfInBounds_toArray, List.set_cons_zero, List.set_cons_succ]
                  iterate 2 (refine bqStep (fun K hK => ?_); go_simp; first | (refine hK _ ?_; clear hK K) | (refine ⟨_, fun _ _ => rfl, hK _ ?_⟩; clear hK K))
                  refine bqNil (fun w5 hE5 => ?_)
                  have hW6 := hE5
                  have hG6 := Lib.hid (hG5.out.ext hW6)
                  have hr6' := Lib.hid (hW6.row hr5'.out)
                  have hX6 := Lib.hid (hXw.out.trans hE5)
                  clear hG5 hr5' y0 y1 y2 y3 y4 d5 hW6 hXw hE5
                  obtain ⟨W6, hW6e⟩ : ∃ W6, W6 = w5 := ⟨_, rfl⟩
                  rw [← hW6e] at hG6 hr6' hX6 ⊢
                  clear hW6e
                  obtain ⟨y0, y1, y2, y3, y4⟩ := sa_cs hr6'.out
                  have hSS : Hid (∀ w', Ext W6 w' → w'.cell? ⟨g, 0, none⟩ = some (.int .u8 (y.cl : Int)) ∧ w'.cell? ⟨g, 1, none⟩ = some (.int .u32 (y.num : Int)) ∧ w'.cell? ⟨g, 2, none⟩ = some (.int .i64 y.e) ∧ w'.cell? ⟨g, 3, none⟩ = some (.bool y.yes) ∧ w'.cell? ⟨g, 4, none⟩ = some (.slice va y.rows.length vc)) := Lib.hid (fun w' h => ⟨h.cell y0, h.cell y1, h.cell y2, h.cell y3, h.cell y4⟩)
                  have hgs' : ¬ g = st := by omega
                  have hpos : 0 < y.num := by omega
                  clear y0 y1 y2 y3 y4 hi1 hi2 hi3 hi4
                  have hnext : Hid (∀ v, mkS [] [] q = mkS (q.take (j + 1)) ((saG (S.set y.cl ⟨y.cl, y.num, y.e, y.yes, y.rows, v⟩)).map Sa.bare) (q.drop (j + 1)) ∧ ClsS (S.set y.cl ⟨y.cl, y.num, y.e, y.yes, y.rows, v⟩) ∧ ∀ c s, (S.set y.cl ⟨y.cl, y.num, y.e, y.yes, y.rows, v⟩)[c]? = some s → (0 < s.num ↔ ∃ p ∈ q.take (j + 1), p.cl = c)) := Lib.hid (fun v => by
                    refine ⟨?_, cls_set hcs.out.1 ⟨y.cl, y.num, y.e, y.yes, y.rows, v⟩, fun c s h => ?_⟩
                    · have h1 := keepG hcs.out.1 (x := ⟨y.cl, y.num, y.e, y.yes, y.rows, v⟩) (by rw [h9'.out]; exact j2) hpos
                      rw [← h1, keepS_bare, hyes.out]; rfl
                    · by_cases e : y.cl = c
                      · subst e
                        have hl : y.cl < S.length := by rw [h9'.out]; exact j2
                        rw [List.getElem?_set_self hl] at h
                        injection h with h
                        rw [← h]
                        exact ⟨fun _ => ⟨y, by rw [htk.out]; simp, rfl⟩, fun _ => hpos⟩
                      · rw [List.getElem?_set_ne e] at h
                        rw [hcs.out.2 c s h, htk.out]
                        constructor
                        · rintro ⟨p, hp, he⟩; exact ⟨p, List.mem_append_left _ hp, he⟩
                        · rintro ⟨p, hp, he⟩
                          rcases List.mem_append.1 hp with hp | hp
                          · exact ⟨p, hp, he⟩
                          · rw [List.mem_singleton.1 hp] at he; exact absurd he e)
                  clear i1 i2 i3 i4 hb3
                  go_upto_region 14 with fail
                  go_region_held3 (fun w' => w'.cell? ⟨g, 0, none⟩ = some (.int .u8 (y.cl : Int)) ∧ w'.cell? ⟨g, 1, none⟩ = some (.int .u32 (y.num : Int)) ∧ w'.cell? ⟨g, 2, none⟩ = some (.int .i64 y.e) ∧ w'.cell? ⟨g, 3, none⟩ = some (.bool y.yes) ∧ w'.cell? ⟨g, 4, none⟩ = some (.slice va y.rows.length vc)) (first | exact hSS.out _ (Ext.refl W6).drew | exact hSS.out _ hX2 | exact hS3) (first | (go_at_call 43; refine (twin_litG _ y.e y.yes y.rows va vc (hyr.out.ext (hX6.out.trans (Ext.refl W6).drew)) hyn).mono ?_; rintro e w2 ⟨a2, c2, rfl, ho2, hE2⟩; have hX2 := (Ext.refl W6).drew.trans hE2; have hG2 := hG6.out.ext hX2; have hst2 := hG2.row.2.2.1; have hth2 := sg_there hst2 (c := y.cl) (by rw [h9'.out]; exact j2); have hfin := Lib.hid (hG2.say ⟨y.cl, y.num, y.e, y.yes, y.rows, .slice a2 y.rows.length c2⟩ j2 (ho2.weak hG6.out.ground.size)); have hnx := Lib.hid (hnext.out (.slice a2 y.rows.length c2)); clear ho2 hG2; have f0 := fz (o := 1 + y.cl * 4) hst2; have f1 := fz (o := 1 + y.cl * 4 + 1) hst2; have f2 := fz (o := 1 + y.cl * 4 + 2) hst2; have f3 := fz (o := 1 + y.cl * 4 + 3) hst2; obtain ⟨s0, s1, s2, s3⟩ := sg_cells hst2 hs'.out; clear hst2; have hc3 := hSS.out _ hX2; have hS3 := And.intro ((setCells_off (b := st) (svg ⟨y.cl, y.num, y.e, y.yes, y.rows, .slice a2 y.rows.length c2⟩) (1 + y.cl * 4) w2).cell hc3.1 hgs') (And.intro ((setCells_off (b := st) (svg ⟨y.cl, y.num, y.e, y.yes, y.rows, .slice a2 y.rows.length c2⟩) (1 + y.cl * 4) w2).cell hc3.2.1 hgs') (And.intro ((setCells_off (b := st) (svg ⟨y.cl, y.num, y.e, y.yes, y.rows, .slice a2 y.rows.length c2⟩) (1 + y.cl * 4) w2).cell hc3.2.2.1 hgs') (And.intro ((setCells_off (b := st) (svg ⟨y.cl, y.num, y.e, y.yes, y.rows, .slice a2 y.rows.length c2⟩) (1 + y.cl * 4) w2).cell hc3.2.2.2.1 hgs') ((setCells_off (b := st) (svg ⟨y.cl, y.num, y.e, y.yes, y.rows, .slice a2 y.rows.length c2⟩) (1 + y.cl * 4) w2).cell hc3.2.2.2.2 hgs')))); clear hc3) | fail)
                  all_goals
                    clear hS3 s0 s1 s2 s3 f0 f1 f2 f3 hth2
                    go_wp2_with fail
                    go_roundw
                    case rel => exact ⟨j + 1, S.set y.cl ⟨y.cl, y.num, y.e, y.yes, y.rows, .slice a2 y.rows.length c2⟩, by omega, by go_num, Lib.hid hnx.out.1, hfin.out, Lib.hid hnx.out.2⟩
                    case measure => simp [intOf]; omega
        · have hli : ¬ (j : Int) < (m : Int) := by omega
          have hfin : Hid (mkS [] [] q = some ((saG S).map Sa.bare)) := Lib.hid (by rw [hmk.out, List.drop_of_length_le (by rw [← hm.out]; omega)]; rfl)
          go_wp2_with fail
          go_ret2
          exact gmk_yes hG.ground hall.out hfin.out hG hcs.out.1 rfl
end Go.Proofs.YthageoibkeebhaaGreatDoor
