/- pasts.Check told exactly. No condition. -/
import Derived.Test.YtgbiifefpidebaaFm
import Derived.Deep.CutRange
namespace Go.Proofs.Ytgbiifefpidebaa
open Go.RowKit Go.Maps Go.WideMaps
set_option maxRecDepth 100000
set_option maxHeartbeats 4000000
/-- What the check keeps: what waits, the last numbers, the epoch. -/
structure Cks where
  wt : Value → Int
  la : Value → Int
  ep : Int
noncomputable def ckS (s : Cks) (x : Ev) : Option Cks :=
  if x.mayB = false then none
  else if x.kind = 1 then
    (if IntKind.u32.wrap (s.la (.int .u8 x.cl) + 1) = x.num then some ⟨setF s.wt (nmV x.cl x.num) x.lvl, setF s.la (.int .u8 x.cl) (IntKind.u32.wrap (s.la (.int .u8 x.cl) + 1)), s.ep⟩ else none)
  else if x.kind = 2 then (if s.wt (nmV x.cl x.num) = x.lvl then some ⟨setF s.wt (nmV x.cl x.num) 0, s.la, s.ep⟩ else none)
  else if x.kind = 3 then (if x.ep ≤ s.ep then none else some ⟨s.wt, s.la, x.ep⟩)
  else some s
noncomputable def ckL (l : List Ev) : Option Cks := l.foldlM ckS ⟨fun _ => 0, fun _ => 0, 0⟩
theorem ckL_add (l : List Ev) (x : Ev) : ckL (l ++ [x]) = (ckL l).bind fun s => ckS s x := by
  unfold ckL
  rw [List.foldlM_append]
  cases l.foldlM ckS ⟨fun _ => 0, fun _ => 0, 0⟩ <;> simp
theorem ckL_none (l m : List Ev) (h : ckL l = none) : ckL (l ++ m) = none := by
  unfold ckL at *
  rw [List.foldlM_append, h]; rfl
theorem grown_of_ext {w w' : World} (he : Ext w w') : w.grownBy w' none := ⟨Below.os he, Below.tape he, Below.output he, Below.size he, fun k hk _ => Below.block he k hk⟩
theorem wrap_wf (z : Int) : (Lit.int .u32 (IntKind.u32.wrap z)).wf = true := by
  have hmin : IntKind.u32.min = 0 := rfl
  have hmax : IntKind.u32.max = 4294967295 := rfl
  rw [IntKind.wrap_u32]
  simp only [Lit.wf, Bool.and_eq_true, decide_eq_true_eq]; omega
theorem u8_wf {c : Int} (h : 0 ≤ c ∧ c < 256) : (Lit.int .u8 c).wf = true := by
  have hmin : IntKind.u8.min = 0 := rfl
  have hmax : IntKind.u8.max = 255 := rfl
  simp only [Lit.wf, Bool.and_eq_true, decide_eq_true_eq]; omega
theorem z_level (w : World) : (zeroValue 33).run Try.prog w = .ok (.int .u8 0) w := by kernel_rfl
theorem z_u32 (w : World) : (zeroValue 28).run Try.prog w = .ok (.int .u32 0) w := by kernel_rfl
def CkE (w : World) (l : List Ev) (e : Ending) (w' : World) : Prop := e = .returned (.bool (ckL l).isSome) ∧ Ext w w'
def zEv : Array Value := #[.int .u8 0, .int .u32 0, .int .u8 0, .int .u32 0, .int .u8 0, .string ⟨#[]⟩, .string ⟨#[]⟩, .string ⟨#[]⟩, .bool false, .string ⟨#[]⟩, .int .i64 0, .slice none 0 0, .int .u8 0, .int .i64 0, .bool false, .slice none 0 0, .int .u64 0]
theorem ev_one (x : Ev) : x.row.all (·.oneCell') = true := by kernel_rfl
theorem fm_more {k e : TypeId} {q : IntKind} {w : World} {b n : Nat} {F : Value → Int} (h : FM k e q w b n F) : FM k e q w b (n + 1) F := by
  obtain ⟨D, h1, h2⟩ := h
  exact ⟨D, h1.mono (Nat.le_succ n), h2⟩
theorem pcheck_any (w : World) (l : List Ev) (a : Option Addr) (cap : Nat) (hR : RowIs w 17 (.slice a l.length cap) l.length (l.flatMap Ev.cells)) (hn : l.length ≤ 200) (hg : ∀ x ∈ l, x.good w) : Calls Try.prog 8 #[.slice a l.length cap] w (CkE w l) := by
  obtain ⟨ln, hln⟩ : ∃ n, n = l.length := ⟨_, rfl⟩
  rw [← hln] at hR hn ⊢
  have hln' := Lib.hid hln
  have hR' := Lib.hid hR
  have hg' := Lib.hid hg
  obtain ⟨C, hC⟩ : ∃ C, C = (ckL l).isSome := ⟨_, rfl⟩
  have hC' := Lib.hid hC
  clear hln hR hg
  have hmm := @run_makeMap Try.prog
  have hW1 := FM.made w 51 33 .u8
  have hW2 := hW1.kept (World.grownBy_alloc (w.alloc (.map #[] 0)) (.map #[] 0) none) (by simp)
  have hL2 := FM.made (w.alloc (.map #[] 0)) 5 28 .u32
  rw [show (w.alloc (.map #[] 0)).heap.size = w.heap.size + 1 by simp] at hL2
  have hE := ((Ext.refl w).alloc (.map #[] 0)).alloc (.map #[] 0)
  have hsz : w.heap.size + 2 ≤ ((w.alloc (.map #[] 0)).alloc (.map #[] 0)).heap.size := by simp
  go_enter Try.func8, Try.ntmps8
  go_upto_region 4 with fail
  clear hmm hW1
  generalize (w.alloc _).alloc _ = W at *
  obtain ⟨g, hgg⟩ : ∃ g, g = w.heap.size := ⟨_, rfl⟩
  rw [← hgg] at hW2 hL2 hsz ⊢
  have hgw' := Lib.hid hgg
  clear hgg
  go_wp2_with fail
  go_loopw [5, 7, 8, 13] (fun e _ _ i wr => ∃ (k : Nat) (s : Cks), k ≤ ln ∧ i = .int .i64 k ∧ e = .int .u32 s.ep ∧ Hid (ckL (l.take k) = some s) ∧ FM 51 33 .u8 wr g k s.wt ∧ FM 5 28 .u32 wr (g + 1) k s.la ∧ Ext w wr ∧ g + 2 ≤ wr.heap.size) (fun _ _ _ i _ => ln - (intOf i).toNat)
  case atStart => exact ⟨0, ⟨fun _ => 0, fun _ => 0, 0⟩, by omega, rfl, rfl, Lib.hid rfl, hW2, hL2, hE, hsz⟩
  case round =>
    obtain ⟨k, s, hk, rfl, rfl, hck, hFW, hFL, hEr, hsr⟩ := hrel
    clear hW2 hL2 hE hsz
    by_cases hlt : k < ln
    · have hli : (k : Int) < (ln : Int) := by omega
      obtain ⟨x, hx⟩ : ∃ c, l[k]? = some c := ⟨_, List.getElem?_eq_getElem (by rw [← hln'.out]; exact hlt)⟩
      obtain ⟨b, off, hat⟩ := (hR'.out.ext hEr).at
      obtain ⟨rfl, _, hd⟩ := hat (by omega)
      have hrg := ev_range (by rw [← hln'.out]; exact hd) hx
      have hxg := (hg'.out x (List.mem_of_getElem? hx)).ext hEr
      have htk : l.take (k + 1) = l.take k ++ [x] := by rw [List.take_add_one, hx]; rfl
      have hst : ckL (l.take (k + 1)) = ckS s x := by rw [htk, ckL_add, hck.out]; rfl
      have hst' := Lib.hid hst
      have hxg' := Lib.hid hxg
      have hbad : ckS s x = none → C = false := fun h => by
        rw [hC'.out, ← List.take_append_drop (k + 1) l, ckL_none _ _ (by rw [hst]; exact h)]; rfl
      have hbad' := Lib.hid hbad
      clear hat hd hx htk hst hxg hbad
      have hz := heap_alloc_new wr (.cells zEv 40)
      have hEz := (Ext.refl wr).alloc (.cells zEv 40)
      have hset : ((wr.alloc (.cells zEv 40)).setRow wr.heap.size x.row).heap[wr.heap.size]? = some (.cells x.row 40 (0, 0)) := by rw [setRow_heap _ _ _ _ _ _ hz]
      have hEs := hEz.setRow (Nat.le_refl _) x.row
      go_upto_region 7 with (first | (refine wpList_store_row (by rfl) 40 (.tmp 7) (.tmp 16) (by rfl) wr.heap.size x.row (by rfl) (by rfl) 40 zEv hz (by exact ev_inf) (by rfl) (ev_one x) ?_) | (refine wpList_load_mid (by rfl) 40 (.tmp 15) (by rfl) b (off + k * 17) (by rfl) x.cells _ hrg Try.underlying40 rfl (by exact ev_inf) ?_) | fail)
      unfold zEv at hset hEs
      have hFW3 := hFW.kept (grown_of_ext hEs) (by simp)
      have hFL3 := hFL.kept (grown_of_ext hEs) (by simp)
      have hsz3 := hEs.size
      have hE3 := hEr.trans hEs
      have hxg3 := Lib.hid (hxg'.out.ext hEs)
      clear hz hEz hFW hFL hrg hxg' hEr
      clear hEs
      generalize (wr.alloc _).setRow _ _ = W3 at *
      have hg7 : g + 2 ≤ wr.heap.size := hsr
      have hg7w := (Array.getElem?_eq_some_iff.1 hset).1
      generalize wr.heap.size = g7 at *
      clear hsr
      have hmay := may_any W3 x hxg3.out
      obtain ⟨M, hM⟩ : ∃ M, M = x.mayB := ⟨_, rfl⟩
      rw [← hM] at hmay
      have hmay' := Lib.hid hmay
      have hM' := Lib.hid hM
      have hset' := Lib.hid hset
      obtain ⟨c0, c1, c2, c3, c4, c5, c6, c7, c8, c9, c10, c11, c12, c13, c14, c15, c16⟩ := ev_cells hset
      clear hmay hM hset
      unfold Ev.row at hmay'
      go_wp2_with fail
      refine hmay'.out.mono ?_
      clear hmay' c0 c1 c2 c3 c4 c5 c6 c7 c8 c9 c10 c11 c12 c13 c14 c15 c16
      rintro e W4 ⟨rfl, hE4⟩
      have hFW4 := hFW3.kept (grown_of_ext hE4) (by simp)
      have hFL4 := hFL3.kept (grown_of_ext hE4) (by simp)
      replace hE3 := hE3.trans hE4
      have hX4 := hE4.row hset'.out
      have hsz4 := hE4.size
      clear hFW3 hFL3 hset'
      cases M with
      | false =>
        have hf : Hid (C = false) := Lib.hid (hbad'.out (by unfold ckS; rw [if_pos hM'.out.symm]))
        go_wp2_with fail
        go_ret
        exact ⟨by rw [← hC'.out, hf.out]; rfl, hE3⟩
      | true =>
        have hm1 : ¬ x.mayB = false := by rw [← hM'.out]; exact fun h => Bool.noConfusion h
        have hm1' := Lib.hid hm1
        obtain ⟨c0, c1, c2, c3, _, _, _, _, _, _, _, _, c12, _⟩ := ev_cells hX4
        have hnb := heap_alloc_new W4 (.cells #[.int .u8 x.cl, .int .u32 x.num] 51)
        have hEn := (Ext.refl W4).alloc (.cells #[.int .u8 x.cl, .int .u32 x.num] 51)
        have hFW5 := hFW4.kept (grown_of_ext hEn) (by simp)
        have hFL5 := hFL4.kept (grown_of_ext hEn) (by simp)
        have hX5 := hEn.row hX4
        have hE5 := hE3.trans hEn
        have hsz5 := hEn.size
        clear hm1 hX4 hFW4 hFL4 hE3
        go_upto_region 10 with fail
        clear c0 c1 c2 c3 c12 hEn
        generalize W4.alloc _ = W5 at *
        have hg8 : g + 2 ≤ W4.heap.size := by omega
        generalize W4.heap.size = g8 at *
        have hxg5 := hxg3.out
        obtain ⟨c0, c1, c2, c3, _, _, _, _, _, _, _, _, c12, _⟩ := ev_cells hX5
        have n0 : W5.cell? ⟨g8, 0, none⟩ = some (.int .u8 x.cl) := by rw [cell_of_row _ _ _ _ 51 (0, 0) hnb]; rfl
        have n1 : W5.cell? ⟨g8, 1, none⟩ = some (.int .u32 x.num) := by rw [cell_of_row _ _ _ _ 51 (0, 0) hnb]; rfl
        have hkl := keyOf_int_mk Try.underlying5 (u8_wf hxg5.cl)
        obtain ⟨kn, hkn⟩ := nm_key x.cl x.num hxg5.cl hxg5.num
        have hlw := Lib.hid (u8_wf hxg5.lvl)
        have hb7 : g7 < W5.heap.size := by omega
        have hb8 : g8 < W5.heap.size := (Array.getElem?_eq_some_iff.1 hnb).1
        have hX5' := Lib.hid hX5
        have hnb' := Lib.hid hnb
        have hkn' := Lib.hid hkn
        have hkl' := Lib.hid hkl
        have hFW5' := Lib.hid hFW5
        have hFL5' := Lib.hid hFL5
        clear hX5 hnb hkn hkl hFW5 hFL5 hxg5 hE4
        cases hk1 : (x.kind == 1) with
        | true =>
          have e1 := Lib.hid (eq_of_beq hk1)
          obtain ⟨lc, hlc⟩ : ∃ z, z = s.la (.int .u8 x.cl) := ⟨_, rfl⟩
          obtain ⟨nv, hwr⟩ : ∃ z, IntKind.u32.wrap (lc + 1) = z := ⟨_, rfl⟩
          have hlk := hFL5'.out.look (int_keyed Try.underlying5) Try.underlying48 Try.underlying28 (z_u32 W5) hkl'.out
          rw [← hlc] at hlk
          obtain ⟨W6, hru, hFL6, hgr6⟩ := hFL5'.out.set (int_keyed Try.underlying5) Try.underlying48 Try.underlying28 (by unfold maxLen; omega) hkl'.out (x := nv) (by rw [← hwr]; exact wrap_wf _)
          have hlk2 := hFL6.look (int_keyed Try.underlying5) Try.underlying48 Try.underlying28 (z_u32 W6) hkl'.out
          rw [setF_same] at hlk2
          have hE6 : Ext w W6 := Below.grown hE5 hgr6 hE5.size (fun r h => by have := hgw'.out; cases h; omega)
          have hFW6 := hFW5'.out.kept hgr6 (by simp)
          have hX6 := (hgr6.block g7 hb7 (by intro h; injection h with h; omega)).trans hX5'.out
          have hn6 := (hgr6.block g8 hb8 (by intro h; injection h with h; omega)).trans hnb'.out
          obtain ⟨_, _, d2, d3, _, _, _, _, _, _, _, _, d12, _⟩ := ev_cells hX6
          have m0 : W6.cell? ⟨g8, 0, none⟩ = some (.int .u8 x.cl) := by rw [cell_of_row _ _ _ _ 51 (0, 0) hn6]; rfl
          have m1 : W6.cell? ⟨g8, 1, none⟩ = some (.int .u32 x.num) := by rw [cell_of_row _ _ _ _ 51 (0, 0) hn6]; rfl
          have hs6 := hgr6.size
          have hnv' := Lib.hid (show IntKind.u32.wrap (s.la (.int .u8 x.cl) + 1) = nv by rw [← hlc]; exact hwr)
          have hFL6' := Lib.hid hFL6
          clear hFL6 hX6 hn6 hgr6 hlc
          cases hq : (nv != x.num) with
          | true =>
            have hf : Hid (C = false) := Lib.hid (hbad'.out (by unfold ckS; rw [if_neg hm1'.out, if_pos e1.out, hnv'.out, if_neg (bne_iff_ne.1 hq)]))
            clear hFW6
            go_wp2_with fail
            go_ret
            exact ⟨by rw [← hC'.out, hf.out]; rfl, hE6⟩
          | false =>
            have hq2 : nv = x.num := by
              rw [bne_eq_false_iff_eq] at hq; exact hq
            obtain ⟨W7, hru2, hFW7, hgr7⟩ := hFW6.set keyed_nm Try.underlying47 Try.underlying33 (by unfold maxLen; omega) hkn'.out (x := x.lvl) hlw.out
            have hE7 : Ext w W7 := Below.grown hE6 hgr7 hE6.size (fun r h => by have := hgw'.out; cases h; omega)
            have hFL7 := hFL6'.out.kept hgr7 (by simp)
            have hs7 := hgr7.size
            have hnew := Lib.hid (show ckS s x = some ⟨setF s.wt (nmV x.cl x.num) x.lvl, setF s.la (.int .u8 x.cl) nv, s.ep⟩ by unfold ckS; rw [if_neg hm1'.out, if_pos e1.out, hnv'.out, if_pos hq2])
            have hFW7' := Lib.hid hFW7
            have hFL7' := Lib.hid hFL7
            have hq2' := Lib.hid hq2
            clear hFW6 hFW7 hFL7 hgr7 hq2
            unfold nmV at hru2
            go_wp2_with fail
            go_roundw
            case rel => exact ⟨k + 1, ⟨setF s.wt (nmV x.cl x.num) x.lvl, setF s.la (.int .u8 x.cl) nv, s.ep⟩, by omega, by go_num, rfl, Lib.hid (by rw [hst'.out, hnew.out]), hFW7'.out, hFL7'.out, hE7, by omega⟩
            case measure => simp [intOf]; omega
        | false =>
          have i1 : ¬ x.kind = 1 := fun h => by rw [h] at hk1; exact Bool.noConfusion hk1
          have i1' := Lib.hid i1
          clear i1
          cases hk2 : (x.kind == 2) with
          | true =>
            have e2 := Lib.hid (eq_of_beq hk2)
            obtain ⟨wv, hwv⟩ : ∃ z, z = s.wt (nmV x.cl x.num) := ⟨_, rfl⟩
            have hlk := (hFW5'.out.kept (grown_of_ext (Ext.refl W5).drew) (by simp)).look keyed_nm Try.underlying47 Try.underlying33 (z_level W5.drew) hkn'.out
            rw [← hwv] at hlk
            unfold nmV at hlk
            have hwv' := Lib.hid hwv
            clear hwv
            cases hq : (wv != x.lvl) with
            | true =>
              have hf : Hid (C = false) := Lib.hid (hbad'.out (by unfold ckS; rw [if_neg hm1'.out, if_neg i1'.out, if_pos e2.out, if_neg (by rw [← hwv'.out]; exact bne_iff_ne.1 hq)]))
              go_upto_region 17 with fail
              go_region
              have hEd := hE5.trans (Ext.refl W5).drew
              clear c0 c1 c2 c3 c12 n0 n1 hlk
              go_wp2_with fail
              go_ret
              exact ⟨by rw [← hC'.out, hf.out]; rfl, hEd⟩
            | false =>
              have hq2 : wv = x.lvl := by rw [bne_eq_false_iff_eq] at hq; exact hq
              have hnew := Lib.hid (show ckS s x = some ⟨setF s.wt (nmV x.cl x.num) 0, s.la, s.ep⟩ by unfold ckS; rw [if_neg hm1'.out, if_neg i1'.out, if_pos e2.out, if_pos (by rw [← hwv'.out]; exact hq2)])
              clear hq2
              go_upto_region 17 with fail
              go_region
              have hEd := hE5.trans (Ext.refl W5).drew
              have hFWd := hFW5'.out.kept (grown_of_ext (Ext.refl W5).drew) (by simp)
              have hFLd := hFL5'.out.kept (grown_of_ext (Ext.refl W5).drew) (by simp)
              have m0 : W5.drew.cell? ⟨g8, 0, none⟩ = some (.int .u8 x.cl) := n0
              have m1 : W5.drew.cell? ⟨g8, 1, none⟩ = some (.int .u32 x.num) := n1
              have d0 : W5.drew.cell? ⟨g7, 0, none⟩ = some (.int .u8 x.kind) := c0
              have hsd : g8 ≤ W5.drew.heap.size := hsz5
              clear c0 c1 c2 c3 c12 n0 n1 hlk
              generalize W5.drew = W6 at *
              obtain ⟨W7, hru2, hFW7, hgr7⟩ := hFWd.del keyed_nm Try.underlying47 hkn'.out 0
              have hE7 : Ext w W7 := Below.grown hEd hgr7 hEd.size (fun r h => by have := hgw'.out; cases h; omega)
              have hFL7 := hFLd.kept hgr7 (by simp)
              have hs7 := hgr7.size
              have hFW7' := Lib.hid hFW7
              have hFL7' := Lib.hid hFL7
              clear hFWd hFLd hFW7 hFL7 hgr7
              unfold nmV at hru2
              go_wp2_with fail
              go_roundw
              case rel => exact ⟨k + 1, ⟨setF s.wt (nmV x.cl x.num) 0, s.la, s.ep⟩, by omega, by go_num, rfl, Lib.hid (by rw [hst'.out, hnew.out]), fm_more hFW7'.out, fm_more hFL7'.out, hE7, by omega⟩
              case measure => simp [intOf]; omega
          | false =>
            have i2 : ¬ x.kind = 2 := fun h => by rw [h] at hk2; exact Bool.noConfusion hk2
            have i2' := Lib.hid i2
            clear i2
            cases hk3 : (x.kind == 3) with
            | true =>
              have e3 := Lib.hid (eq_of_beq hk3)
              clear n0 n1 c2 c3 c12
              by_cases hep : x.ep ≤ s.ep
              · have hf : Hid (C = false) := Lib.hid (hbad'.out (by unfold ckS; rw [if_neg hm1'.out, if_neg i1'.out, if_neg i2'.out, if_pos e3.out, if_pos hep]))
                go_wp2_with fail
                go_ret
                exact ⟨by rw [← hC'.out, hf.out]; rfl, hE5⟩
              · have dep : decide (x.ep ≤ s.ep) = false := decide_eq_false hep
                have hnew := Lib.hid (show ckS s x = some ⟨s.wt, s.la, x.ep⟩ by unfold ckS; rw [if_neg hm1'.out, if_neg i1'.out, if_neg i2'.out, if_pos e3.out, if_neg hep])
                go_wp2_with fail
                go_roundw
                case rel => exact ⟨k + 1, ⟨s.wt, s.la, x.ep⟩, by omega, by go_num, rfl, Lib.hid (by rw [hst'.out, hnew.out]), fm_more hFW5'.out, fm_more hFL5'.out, hE5, by omega⟩
                case measure => simp [intOf]; omega
            | false =>
              have i3 : ¬ x.kind = 3 := fun h => by rw [h] at hk3; exact Bool.noConfusion hk3
              have hnew := Lib.hid (show ckS s x = some s by unfold ckS; rw [if_neg hm1'.out, if_neg i1'.out, if_neg i2'.out, if_neg i3])
              clear i3 n0 n1 c1 c2 c3 c12
              go_wp2_with fail
              go_roundw
              case rel => exact ⟨k + 1, s, by omega, by go_num, rfl, Lib.hid (by rw [hst'.out, hnew.out]), fm_more hFW5'.out, fm_more hFL5'.out, hE5, by omega⟩
              case measure => simp [intOf]; omega
    · have hli : ¬ (k : Int) < (ln : Int) := by omega
      have hall : Hid (C = true) := Lib.hid (by
        rw [hC'.out]
        have := hck.out
        rw [List.take_of_length_le (by rw [← hln'.out]; omega)] at this
        rw [this]; rfl)
      go_wp2_with fail
      go_ret
      exact ⟨by rw [← hC'.out, hall.out]; rfl, hEr⟩
end Go.Proofs.Ytgbiifefpidebaa
