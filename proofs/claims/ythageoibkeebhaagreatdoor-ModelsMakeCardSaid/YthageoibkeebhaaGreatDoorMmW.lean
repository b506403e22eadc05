/- ModelsMake: the walk. No condition. -/
import Derived.Test.YthageoibkeebhaaGreatDoorGrZa
namespace Go.Proofs.YthageoibkeebhaaGreatDoor
open Go.RowKit
set_option maxRecDepth 100000
set_option maxHeartbeats 4000000
theorem goodS_bare (pre : List Sa) (x : Sa) : goodS (pre.map Sa.bare) x.bare ↔ goodS pre x := by
  unfold goodS
  refine and_congr Iff.rfl (and_congr Iff.rfl (and_congr Iff.rfl ⟨fun h p hp => ?_, fun h p hp => ?_⟩))
  · exact h p.bare (List.mem_map_of_mem hp)
  · obtain ⟨y, hy, rfl⟩ := List.mem_map.1 hp
    exact h y hy
theorem mkS_bare : ∀ (q pre acc : List Sa), mkS (pre.map Sa.bare) acc (q.map Sa.bare) = mkS pre acc q
  | [], _, _ => rfl
  | x :: q, pre, acc => by
    rw [List.map_cons]
    unfold mkS
    have ih := mkS_bare q (pre ++ [x]) (keepS acc x.bare)
    rw [List.map_append] at ih
    by_cases h : goodS pre x
    · rw [if_pos h, if_pos ((goodS_bare pre x).2 h), ← ih]
      rfl
    · rw [if_neg h, if_neg (fun h2 => h ((goodS_bare pre x).1 h2))]
theorem mkS_eq {q q' : List Sa} (h : q'.map Sa.bare = q.map Sa.bare) : mkS [] [] q' = mkS [] [] q := by
  rw [← mkS_bare q' [] [], ← mkS_bare q [] [], h]
theorem mkR_out {P : ByteArray → Prop} : ∀ (l acc rows : List Rw), mkR acc l = some rows → (∀ r ∈ acc, P r.key) → (∀ r ∈ l, P r.key) → rows.length ≤ acc.length + l.length ∧ ∀ r ∈ rows, P r.key
  | [], acc, rows, h, h1, _ => by
    unfold mkR at h
    injection h with h
    subst h
    exact ⟨by simp, h1⟩
  | x :: l, acc, rows, h, h1, h2 => by
    unfold mkR at h
    split at h
    · have ih := mkR_out l (chR acc ⟨x.key, x.val, false⟩) rows h (fun r hr => by
        rcases chR_mem hr with hr | hr
        · exact h1 r hr
        · rw [hr]; exact h2 x (List.mem_cons_self ..)) (fun r hr => h2 r (List.mem_cons_of_mem _ hr))
      have h3 := chR_len acc ⟨x.key, x.val, false⟩
      rw [List.length_cons]
      exact ⟨by omega, ih.2⟩
    · cases h
theorem mkS_out : ∀ (q pre acc sq : List Sa), mkS pre acc q = some sq → sq.length ≤ acc.length + q.length ∧ ∀ p ∈ sq, p ∈ acc ∨ ∃ y ∈ q, p.rows = y.rows
  | [], pre, acc, sq, h => by
    unfold mkS at h
    injection h with h
    subst h
    exact ⟨by simp, fun p hp => .inl hp⟩
  | x :: q, pre, acc, sq, h => by
    unfold mkS at h
    split at h
    · have ih := mkS_out q _ _ sq h
      have h3 := keepS_len acc x.bare
      rw [List.length_cons]
      refine ⟨by omega, fun p hp => ?_⟩
      rcases ih.2 p hp with hp | ⟨y, hy, he⟩
      · rcases keepS_mem hp with rfl | hp
        · exact .inr ⟨x, List.mem_cons_self .., rfl⟩
        · exact .inl hp
      · exact .inr ⟨y, List.mem_cons_of_mem _ hy, he⟩
    · cases h
def badM (l : List Rw) (q : List Sa) : Prop := mkR [] l = none ∨ mkS [] [] q = none
theorem gmk_cases {l : List Rw} {q : List Sa} {w : World} {e : Ending} {w' : World} (h : MkGE l q w e w') : Ext w w' ∧ ((e = .returned (.tuple #[.pointer none, .int .i64 1]) ∧ badM l q) ∨ ∃ rows sq st mb S, e = .returned (.tuple #[.pointer (some ⟨st, 0, none⟩), .int .i64 0]) ∧ mkR [] l = some rows ∧ mkS [] [] q = some sq ∧ StG w w' st mb rows S ∧ ClsS S ∧ (saG S).map Sa.bare = sq) := by
  obtain ⟨hE, h⟩ := h
  refine ⟨hE, ?_⟩
  cases hR : mkR [] l with
  | none => rw [hR] at h; exact .inl ⟨h, .inl hR⟩
  | some rows =>
    rw [hR] at h
    replace h : match mkS [] [] q with | none => e = .returned (.tuple #[.pointer none, .int .i64 1]) | some sq => ∃ st mb S, e = .returned (.tuple #[.pointer (some ⟨st, 0, none⟩), .int .i64 0]) ∧ StG w w' st mb rows S ∧ ClsS S ∧ (saG S).map Sa.bare = sq := h
    cases hS : mkS [] [] q with
    | none => rw [hS] at h; exact .inl ⟨h, .inr hS⟩
    | some sq =>
      rw [hS] at h
      obtain ⟨st, mb, S, h1, h2, h3, h4⟩ := h
      exact .inr ⟨rows, sq, st, mb, S, h1, rfl, rfl, h2, h3, h4⟩
theorem rmk_cases {l : List Rw} {q : List Sa} {w : World} {e : Ending} {w' : World} (h : RMkE l q w e w') : Ext w w' ∧ ((e = .returned (.tuple #[.pointer none, .int .i64 1]) ∧ badM l q) ∨ ∃ rows sq st, e = .returned (.tuple #[.pointer (some ⟨st, 0, none⟩), .int .i64 0]) ∧ mkR [] l = some rows ∧ mkS [] [] q = some sq ∧ RefX w.heap.size w' st rows sq) := by
  obtain ⟨hE, h⟩ := h
  refine ⟨hE, ?_⟩
  cases hR : mkR [] l with
  | none => rw [hR] at h; exact .inl ⟨h, .inl hR⟩
  | some rows =>
    rw [hR] at h
    replace h : match mkS [] [] q with | none => e = .returned (.tuple #[.pointer none, .int .i64 1]) | some sq => ∃ st, e = .returned (.tuple #[.pointer (some ⟨st, 0, none⟩), .int .i64 0]) ∧ RefX w.heap.size w' st rows sq := h
    cases hS : mkS [] [] q with
    | none => rw [hS] at h; exact .inl ⟨h, .inr hS⟩
    | some sq =>
      rw [hS] at h
      obtain ⟨st, h1, h2⟩ := h
      exact .inr ⟨rows, sq, st, h1, rfl, rfl, h2⟩
theorem modelsMake_walk (w : World) (hT : TabW w) (v0 : Value) (o0 : ∃ n, OKC Tryz.prog w n 22 [v0]) (v1 : Value) (o1 : ∃ n, OKC Tryz.prog w n 23 [v1]) :
    Calls Tryz.prog 3 #[v0, v1] w fun e w' => e = .returned (.bool true) ∧ Ext w w' := by
  obtain ⟨_, o0⟩ := o0
  obtain ⟨l, la, lc, e0, hlr, hls⟩ := okc_rws o0
  injection e0 with e0
  subst e0
  obtain ⟨q, qa, qc, rfl, hqg, hqr, hql⟩ := okc_sas o1
  clear o1 o0
  have hqv : SaAt w q := fun p hp => (hqg p hp).1
  obtain ⟨n, hn0⟩ : ∃ n, n = l.length := ⟨_, rfl⟩
  obtain ⟨m, hm0⟩ : ∃ m, m = q.length := ⟨_, rfl⟩
  have hrs : Hid (∀ W, Ext w W → Calls Tryz.prog 5 #[.slice la n lc] W fun e w' => e = .returned (.int .i64 (rszAux l.length l : Nat)) ∧ Ext W w') := Lib.hid (fun W hW => by rw [hn0]; exact rsize_any W l la lc hls.2 hls.1 (hlr.ext hW))
  have hss : Hid (∀ W, Ext w W → Calls Tryz.prog 6 #[.slice qa m qc] W fun e w' => e = .returned (.int .i64 (sdsAux q.length q : Nat)) ∧ Ext W w') := Lib.hid (fun W hW => by rw [hm0]; exact sdssize_any W q qa qc (fun p hp => (hqg p hp).2.1) (hqv.ext hW) hql (hqr.ext hW))
  have hb1 := rsz_le l l.length hls.2
  have hb2 := sds_le q q.length (fun p hp => (hqg p hp).2.1)
  have hll := hls.1
  obtain ⟨N1, hN1⟩ : ∃ N, N = rszAux l.length l := ⟨_, rfl⟩
  obtain ⟨N2, hN2⟩ : ∃ N, N = sdsAux q.length q := ⟨_, rfl⟩
  rw [← hN1] at hrs hb1
  rw [← hN2] at hss hb2
  rw [← hn0] at hlr hb1 hll ⊢
  rw [← hm0] at hqr hql hb2 ⊢
  have hn := Lib.hid hn0
  have hm := Lib.hid hm0
  have hlr' := Lib.hid hlr
  have hls' := Lib.hid hls
  have hqr' := Lib.hid hqr
  have hqg' := Lib.hid hqg
  have hqv' := Lib.hid hqv
  have hN2' := Lib.hid hN2
  have hT' := Lib.hid hT
  clear hn0 hm0 hlr hls hqr hqg hqv hN1 hN2 hT
  go_enter Tryz.func3, Tryz.ntmps3
  by_cases hn200 : 200 < n
  · have hi : (200 : Int) < (n : Int) := by omega
    clear hb1 hb2 hll hql
    go_wp2_with fail
    go_ret
    exact ⟨rfl, Ext.refl _⟩
  · have hi : ¬ (200 : Int) < (n : Int) := by omega
    by_cases hm20 : 20 < m
    · have hj : (20 : Int) < (m : Int) := by omega
      clear hb1 hb2 hll hql
      go_wp2_with fail
      go_ret
      exact ⟨rfl, Ext.refl _⟩
    · have hj : ¬ (20 : Int) < (m : Int) := by omega
      go_wp2_with fail
      refine (hrs.out w (Ext.refl _)).mono ?_
      rintro e w1 ⟨rfl, hE1⟩
      go_wp2_with fail
      refine (hss.out w1 hE1).mono ?_
      rintro e w2 ⟨rfl, hE2⟩
      have hX2 := hE1.trans hE2
      by_cases hbig : 20000 < N1 + N2
      · have hbi : (20000 : Int) < (N1 : Int) + (N2 : Int) := by omega
        have hwr : IntKind.i64.wrap ((N1 : Int) + (N2 : Int)) = (N1 : Int) + (N2 : Int) := by rw [IntKind.wrap_i64]; omega
        clear hb1 hb2 hll hql
        go_wp2_with fail
        go_ret
        exact ⟨rfl, hX2⟩
      · have hbi : ¬ (20000 : Int) < (N1 : Int) + (N2 : Int) := by omega
        have hwr : IntKind.i64.wrap ((N1 : Int) + (N2 : Int)) = (N1 : Int) + (N2 : Int) := by rw [IntKind.wrap_i64]; omega
        have hqn : Hid (∀ p ∈ q, p.rows.length ≤ 20000) := Lib.hid (fun p hp => sds_rows q q.length 20000 (by rw [← hN2'.out]; omega) (by omega) p hp)
        clear hb1 hb2 hll hql hrs hss
        go_wp2_with fail
        refine (tRows_any w2 l la lc n hn.out (hlr'.out.ext hX2) (by omega)).mono ?_
        rintro e w3 ⟨tb, tc, rfl, hT3, hE3⟩
        have hX3 := hX2.trans hE3
        go_wp2_with fail
        refine (twinSds_any w3 q qa qc m hm.out (hqr'.out.ext hX3) (by omega) (hqv'.out.ext hX3) (fun p hp => by have := hqn.out p hp; omega)).mono ?_
        rintro e w4 ⟨ub, uc, q', rfl, hbr, hU4, hE4⟩
        have hX4 := hX3.trans hE4
        have hT4 := hT3.ext hE4
        have hm' : Hid (m = q'.length) := Lib.hid (by rw [hm.out]; have := congrArg List.length hbr; rw [List.length_map, List.length_map] at this; exact this.symm)
        have hq'n : Hid (∀ p ∈ q', p.rows.length ≤ 20000) := Lib.hid (fun p hp => by
          obtain ⟨j, hj⟩ := List.mem_iff_getElem?.1 hp
          obtain ⟨y, hy, he⟩ := map_at hbr hj
          rw [← (bare_eq he none 0 0).2]
          exact hqn.out y (List.mem_of_getElem? hy))
        have hcM : Hid (Calls Tryz.prog 9 #[.slice (some ⟨tb, 0, none⟩) n tc, .slice (some ⟨ub, 0, none⟩) m uc] w4 (MkGE l q' w4)) := Lib.hid (by
          have h1 := (hT4.own hn.out).row
          have h2 := (hU4.own hm'.out).row
          have h3 := gmk_any w4 l (some ⟨tb, 0, none⟩) tc (by rw [← hn.out]; exact h1) (by rw [← hn.out]; omega) hls'.out.2 q' (some ⟨ub, 0, none⟩) uc (by rw [← hm'.out]; exact h2) (by rw [← hm'.out]; omega) hU4.2.1.at (fun p hp => by have := hq'n.out p hp; omega)
          rw [← hn.out, ← hm'.out] at h3
          exact h3)
        have hcR : Hid (∀ W, Ext w W → Calls Tryz.prog 10 #[.slice la n lc, .slice qa m qc] W (RMkE l q W)) := Lib.hid (fun W hW => by
          have h3 := mkrR_any W l la lc (by rw [← hn.out]; exact hlr'.out.ext hW) (by rw [← hn.out]; omega) hls'.out.2 q qa qc (by rw [← hm.out]; exact hqr'.out.ext hW) (by rw [← hm.out]; omega) (hqv'.out.ext hW) (fun p hp => by have := hqn.out p hp; omega)
          rw [← hn.out, ← hm.out] at h3
          exact h3)
        have hcL : Hid (∀ W, Ext w4 W → Calls Tryz.prog 11 #[.slice (some ⟨tb, 0, none⟩) n tc, .slice la n lc] W fun e w' => e = .returned (.bool true) ∧ Ext W w') := Lib.hid (fun W hW => lRows_any W l _ tb tc la lc n hn.out (hlr'.out.ext (hX4.trans hW)) (by omega) (hT4.ext hW))
        have hcS : Hid (∀ W, Ext w4 W → Calls Tryz.prog 12 #[.slice (some ⟨ub, 0, none⟩) m uc, .slice qa m qc] W fun e w' => e = .returned (.bool true) ∧ Ext W w') := Lib.hid (fun W hW => leftSds_any W q q' _ ub uc qa qc m hm.out (hqr'.out.ext (hX4.trans hW)) (by omega) (hqv'.out.ext (hX4.trans hW)) (fun p hp => by have := hqn.out p hp; omega) hbr (hU4.ext hW))
        have hsz3 := hX3.size
        have hsz2 := hX2.size
        have htb := OwnC.lt hT3 tb rfl
        have hub := OwnC.lt hU4.1 ub rfl
        have hqb : Hid (∀ k, blkS q' k → w3.heap.size ≤ k ∧ k < w4.heap.size) := Lib.hid (fun k ⟨p, hp, hb⟩ => (hU4.2.1.own p hp).lt k hb)
        have hbr' := Lib.hid hbr
        have hT4' := Lib.hid hT4
        have hU4' := Lib.hid hU4
        clear hT3 hT4 hU4 hbr hlr' hqr' hqg' hqv' hN2'
        go_wp2_with fail
        refine hcM.out.mono ?_
        rintro e w5 hM5
        obtain ⟨hE5, hM5⟩ := gmk_cases hM5
        rcases hM5 with ⟨rfl, hbad⟩ | ⟨rows, sq, st, mb, S, rfl, hR, hS, hG5, hcl, hsa⟩
        · go_wp2_with fail
          refine (hcR.out w5 (hX4.trans hE5)).mono ?_
          rintro e w6 hM6
          obtain ⟨hE6, hM6⟩ := rmk_cases hM6
          have hX6 := hE5.trans hE6
          rcases hM6 with ⟨rfl, hbad2⟩ | ⟨rows, sq, rst, rfl, hR, hS, _⟩
          · clear hbad hbad2
            go_wp2_with fail
            refine (hcL.out w6 hX6).mono ?_
            rintro e w7 ⟨rfl, hE7⟩
            go_wp2_with fail
            refine (hcS.out w7 (hX6.trans hE7)).mono ?_
            rintro e w8 ⟨rfl, hE8⟩
            have hX8 : Ext w4 w8 := (hX6.trans hE7).trans hE8
            go_wp2_with fail
            go_ret
            exact ⟨rfl, hX4.trans hX8⟩
          · exfalso
            rcases hbad with h | h
            · rw [h] at hR; cases hR
            · rw [mkS_eq hbr'.out, hS] at h; cases h
        · go_wp2_with fail
          refine (hcR.out w5 (hX4.trans hE5)).mono ?_
          rintro e w6 hM6
          obtain ⟨hE6, hM6⟩ := rmk_cases hM6
          have hX6 := hE5.trans hE6
          rw [mkS_eq hbr'.out] at hS
          rcases hM6 with ⟨rfl, hbad⟩ | ⟨rows2, sq2, rst, rfl, hR2, hS2, hRf⟩
          · exfalso
            rcases hbad with h | h
            · rw [h] at hR; cases hR
            · rw [h] at hS; cases hS
          · rw [hR] at hR2
            rw [hS] at hS2
            injection hR2 with hR2
            injection hS2 with hS2
            subst hR2 hS2
            have hrl := mkR_out (P := fun k => k.size ≤ 140737488351232) l [] rows hR (fun r hr => nomatch hr) (fun r hr => (hls'.out.2 r hr).1)
            have hsl := mkS_out q [] [] sq hS
            rw [List.length_nil, Nat.zero_add, ← hn.out] at hrl
            rw [List.length_nil, Nat.zero_add, ← hm.out] at hsl
            have hrk := Lib.hid hrl.2
            have hrl := hrl.1
            have hsn : Hid (∀ p ∈ sq, p.rows.length ≤ 20000) := Lib.hid (fun p hp => by
              rcases hsl.2 p hp with h | ⟨y, hy, he⟩
              · cases h
              · rw [he]; exact hqn.out y hy)
            have hsl := hsl.1
            have hcl' := Lib.hid hcl
            have hsa' := Lib.hid hsa
            have hG6 := Lib.hid ((hG5.past hX4).ext hE6)
            have hRf6 := Lib.hid (RefX.weak hRf (base := w.heap.size) ((hX4.trans hE5).size))
            clear hG5 hRf hcl hsa hR hS
            go_wp2_with fail
            refine (hcL.out w6 hX6).mono ?_
            rintro e w7 ⟨rfl, hE7⟩
            go_wp2_with fail
            refine (hcS.out w7 (hX6.trans hE7)).mono ?_
            rintro e w8 ⟨rfl, hE8⟩
            have hX8 : Ext w4 w8 := (hX6.trans hE7).trans hE8
            have hG8 := Lib.hid (hG6.out.ext (hE7.trans hE8))
            have hRf8 := Lib.hid (hRf6.out.ext (hE7.trans hE8))
            obtain ⟨g, hg⟩ : ∃ g, Hid (g = w8.heap.size) := ⟨_, Lib.hid rfl⟩
            obtain ⟨W9, hW9⟩ : ∃ W, Hid (W = w8.alloc (.cells #[.int .i64 0, .slice none 0 0, .slice none 0 0, .slice none 0 0, .slice none 0 0, .slice none 0 0, .slice none 0 0, .slice none 0 0, .slice none 0 0, .slice none 0 0, .slice none 0 0, .slice none 0 0, .slice none 0 0, .slice none 0 0] 51)) := ⟨_, Lib.hid rfl⟩
            have hE9 : Ext w8 W9 := by rw [hW9.out]; exact (Ext.refl _).alloc _
            have hX9 := hX8.trans hE9
            have hs8 := hX8.size
            have hs9 : w8.heap.size < W9.heap.size := by rw [hW9.out]; simp
            have hP9 : Hid (PlayG (fun k => k = tb ∨ k = ub ∨ blkS q' k) w st mb rst g 0 rows S sq W9) := Lib.hid ⟨fun k => k = g, hX4.trans hX9, hG8.out.ext hE9, hRf8.out.ext hE9, BkZ.start (by rw [hW9.out, hg.out]; exact heap_alloc_new w8 _) (by rw [hg.out]; exact (hX4.trans hX8).size) (fun W hW => tabW_ext hT'.out (Below.trans (hX4.trans hX9) hW)), fun k hk => by
              have h1 : k < w4.heap.size := by
                rcases hk with rfl | rfl | hk
                · have := hE4.size; omega
                · exact hub.2
                · exact (hqb.out k hk).2
              have h2 := hg.out
              exact ⟨by omega, by omega⟩⟩
            have hX9' := Lib.hid hX9
            clear hG8 hRf8 hG6 hRf6 hX9
            go_wp2_with fail
            rw [← hg.out, ← hW9.out]
            refine (pg_row (K' := fun k => k = ub ∨ blkS q' k) hP9.out (fun k hk => .inr hk) (by omega) (some ⟨tb, 0, none⟩) n tc _ (((hT4'.out.own hn.out).ext hX9'.out).weak hsz2) (by omega) (fun k hk => by
              injection hk with hk
              exact .inl hk.symm) (fun k hk he => by
              injection he with he
              have he : tb = k := he
              rcases hk with rfl | hk
              · omega
              · have := (hqb.out k hk).1; omega)).mono ?_
            rintro e w10 ⟨rfl, hP10, hO10⟩
            have hP10' := Lib.hid hP10
            have hO10' := Lib.hid hO10
            clear hP10 hO10 hP9
            go_wp2_with fail
            refine (pg_saids (K' := fun _ => False) hP10'.out (fun k hk => hk.elim) q' (some ⟨ub, 0, none⟩) m uc hm'.out (by omega) (by omega) (mg_own hO10'.out (((hU4'.out.own hm'.out).ext hX9'.out).weak hsz3) said_own) (fun p hp => mg_own hO10'.out (((hU4'.out.2.1.own p hp).ext hX9'.out).weak hsz3) row_own) hU4'.out.2.2 (fun p hp => by have := hq'n.out p hp; omega) (fun k hk => by
              injection hk with hk
              exact .inl hk.symm) (fun k hk => .inr hk) (fun k hk => hk.elim)).mono ?_
            rintro e w11 ⟨rfl, hP11, _⟩
            have hP11' := Lib.hid hP11
            clear hP11 hP10' hO10' hcM hcR hcL hcS hW9 hE9 hT4' hU4'
            have hrows : Hid (∀ W, PlayG (fun _ => False) w st mb rst g (1 + m + 1) rows S sq W → Calls Tryz.prog 15 #[.pointer (some ⟨st, 0, none⟩)] W (RowsE rows W)) := Lib.hid (fun W hP => by
              obtain ⟨Z, _, hG, _⟩ := hP
              obtain ⟨rs, he, hh⟩ := hG.head
              have h1 : rs.length = rows.length := by rw [← he, List.length_map]
              have h2 := st_rowsG (w0 := w) hh (by omega) (fun p hp => hrk.out p.1 (by rw [← he]; exact List.mem_map_of_mem hp))
              rw [he] at h2
              exact h2)
            go_wp2_with fail
            refine (hrows.out w11 (by rw [show 1 + m + 1 = 0 + 1 + m + 1 by omega]; exact hP11'.out)).mono ?_
            rintro e w12 ⟨aa, ac, rfl, _, hA12, hE12⟩
            have hA12 := OwnC.of_own hA12
            have hg11 := hP11'.out.grown.size
            have hP12 : Hid (PlayG (fun k => (Value.slice aa rows.length ac).ownBlock = some k) w st mb rst g (0 + 1 + m + 1) rows S sq w12) := Lib.hid (hP11'.out.more hE12 (fun k hk => .inr (hA12.lt k hk)))
            have hA12' := Lib.hid (hA12.weak hg11)
            have hAge : Hid (∀ k, (Value.slice aa rows.length ac).ownBlock = some k → k < w12.heap.size) := Lib.hid (fun k hk => (hA12.lt k hk).2)
            clear hA12 hrows hP11'
            have hsaid : Hid (Calls Tryz.prog 16 #[.pointer (some ⟨st, 0, none⟩)] w12 (SaidsY sq w12)) := Lib.hid (by
              obtain ⟨Z, _, hG, _⟩ := hP12.out
              have h1 := st_saidG hG hcl'.out (fun p hp => by
                have h2 : p.bare ∈ sq := by rw [← hsa'.out]; exact List.mem_map_of_mem hp
                have h3 := hsn.out _ h2
                have h4 : p.bare.rows = p.rows := rfl
                rw [h4] at h3
                omega)
              rw [hsa'.out] at h1
              exact h1)
            go_wp2_with fail
            refine hsaid.out.mono ?_
            rintro e w13 ⟨sd, ba, bc, rfl, hsd, hB13, hBo13, hsep, hE13⟩
            obtain ⟨bl, hbl⟩ : ∃ z, z = sq.length := ⟨_, rfl⟩
            rw [← hbl] at hB13 hsl ⊢
            have hsdl : Hid (bl = sd.length) := Lib.hid (by rw [hbl, ← hsd, List.length_map])
            have hsdn : Hid (∀ p ∈ sd, p.rows.length ≤ 20000) := Lib.hid (fun p hp => hsn.out p.bare (by rw [← hsd]; exact List.mem_map_of_mem hp))
            have hg12 := hP12.out.grown.size
            have hP13 : Hid (PlayG (fun k => (Value.slice aa rows.length ac).ownBlock = some k ∨ (Value.slice ba bl bc).ownBlock = some k ∨ blkS sd k) w st mb rst g (0 + 1 + m + 1) rows S sq w13) := Lib.hid (hP12.out.more hE13 (fun k hk => by
              rcases hk with hk | hk | ⟨p, hp, hk⟩
              · exact .inl hk
              · exact .inr (hB13.lt k hk)
              · exact .inr ((hBo13 p hp).lt k hk)))
            have hA13 := Lib.hid (hA12'.out.ext hE13)
            have hB13' := Lib.hid (hB13.weak hg12)
            have hBo13' := Lib.hid (hBo13.weak hg12)
            have hBge : Hid (∀ k, ((Value.slice ba bl bc).ownBlock = some k ∨ blkS sd k) → w12.heap.size ≤ k) := Lib.hid (fun k hk => by
              rcases hk with hk | ⟨p, hp, hk⟩
              · exact (hB13.lt k hk).1
              · exact ((hBo13 p hp).lt k hk).1)
            have hbl' := Lib.hid hbl
            have hsd' := Lib.hid hsd
            have hsep' := Lib.hid hsep
            clear hB13 hBo13 hP12 hA12' hsaid hbl hsd hsep
            go_wp2_with fail
            refine (pg_row (K' := fun k => (Value.slice ba bl bc).ownBlock = some k ∨ blkS sd k) hP13.out (fun k hk => .inr hk) (by omega) aa rows.length ac _ hA13.out (by omega) (fun k hk => .inl hk) (fun k hk he => by
              have h1 := hBge.out k hk
              have h2 := hAge.out k he
              omega)).mono ?_
            rintro e w14 ⟨rfl, hP14, hO14⟩
            have hP14' := Lib.hid hP14
            have hA14 := Lib.hid (mg_own hO14 hA13.out row_own)
            have hB14 := Lib.hid (mg_own hO14 hB13'.out said_own)
            have hBo14 : Hid (SaOwn w14 w.heap.size sd) := Lib.hid (fun p hp => mg_own hO14 (hBo13'.out p hp) row_own)
            clear hP14 hO14 hP13 hA13 hB13' hBo13'
            go_wp2_with fail
            refine (pg_saids (K' := fun _ => False) hP14'.out (fun k hk => hk.elim) sd ba bl bc hsdl.out (by omega) (by omega) hB14.out hBo14.out hsep'.out (fun p hp => by have := hsdn.out p hp; omega) (fun k hk => .inl hk) (fun k hk => .inr hk) (fun k hk => hk.elim)).mono ?_
            rintro e w15 ⟨rfl, hP15, hO15⟩
            have hP15' := Lib.hid hP15
            have hA15 := Lib.hid (mg_own hO15 hA14.out row_own)
            have hB15 := Lib.hid (mg_own hO15 hB14.out said_own)
            have hBo15 : Hid (SaOwn w15 w.heap.size sd) := Lib.hid (fun p hp => mg_own hO15 (hBo14.out p hp) row_own)
            clear hP15 hO15 hP14' hA14 hB14 hBo14
            have hmr : Hid (Calls Tryz.prog 18 #[.pointer (some ⟨rst, 0, none⟩)] w15 (RowsO rows w15)) := Lib.hid (by
              obtain ⟨Z, _, _, ⟨sdr, hM, _⟩, _⟩ := hP15'.out
              exact rowsR_any hM (by omega))
            go_wp2_with fail
            refine hmr.out.mono ?_
            rintro e w16 ⟨ca, cc, rfl, hC16, hE16⟩
            have hA16 := Lib.hid (hA15.out.ext hE16)
            have hC16' := Lib.hid hC16
            clear hC16 hmr hA15
            go_wp2_with fail
            refine (srows_any w16 rows rows aa ca ac cc hA16.out.row hC16'.out.row).mono ?_
            rintro e w17 ⟨rfl, hE17⟩
            rw [decide_eq_true (rfl : rows = rows)]
            have hX17 := hE16.trans hE17
            have hP17 := Lib.hid (hP15'.out.ext hX17)
            have hB17 := Lib.hid (hB15.out.ext hX17)
            have hBo17 := Lib.hid (hBo15.out.ext hX17)
            clear hA16 hC16' hP15' hB15 hBo15
            have hms : Hid (Calls Tryz.prog 20 #[.pointer (some ⟨rst, 0, none⟩)] w17 (SaidsX sq w17)) := Lib.hid (by
              obtain ⟨Z, _, _, ⟨sdr, hM, he⟩, _⟩ := hP17.out
              have h1 := saidsR_any hM (by have := congrArg List.length he; rw [List.length_map, ← hbl'.out] at this; omega) (fun p hp => by
                have h3 := hsn.out p.bare (by rw [← he]; exact List.mem_map_of_mem hp)
                have h4 : p.bare.rows = p.rows := rfl
                rw [h4] at h3
                omega)
              rw [he] at h1
              exact h1)
            go_wp2_with fail
            refine hms.out.mono ?_
            rintro e w18 ⟨sd2, da, dc, rfl, hsd2, hD18, hDo18, hE18⟩
            rw [← hbl'.out] at hD18 ⊢
            have hsd2' := Lib.hid hsd2
            have hat : ∀ {W : World} {base : Nat} {l : List Sa}, SaOwn W base l → SaAt W l := fun h p hp => by
              obtain ⟨a, c, he, _⟩ := (h p hp).form
              have h1 := (h p hp).row
              rw [he] at h1
              exact ⟨a, c, he, h1⟩
            have hss : Hid (Calls Tryz.prog 19 #[.slice ba bl bc, .slice da bl dc] w18 fun e w' => e = .returned (.bool true) ∧ Ext w18 w') := Lib.hid (ssaidsG_any w18 sd sd2 bl ba da bc dc hsdl.out (by rw [hsd'.out, hsd2'.out]) (hB17.out.ext hE18).row hD18.row (hat (hBo17.out.ext hE18)) (hat hDo18) (by omega))
            clear hD18 hDo18 hsd2 hat
            go_wp2_with fail
            refine hss.out.mono ?_
            rintro e w19 ⟨rfl, hE19⟩
            have hP19 := Lib.hid (hP17.out.ext (hE18.trans hE19))
            clear hss hP17 hB17 hBo17 hms
            go_wp2_with fail
            refine (pg_apart hP19.out (by have : numTop = 1000 := rfl; omega)).mono ?_
            rintro e w20 ⟨rfl, hE20⟩
            go_wp2_with fail
            go_ret
            exact ⟨rfl, hE20⟩
end Go.Proofs.YthageoibkeebhaaGreatDoor
