/- pasts.Log told exactly. No condition. -/
import Derived.Test.YtgbiifefpidebaaEvCl
import Derived.Deep.RegionHeld3
import Derived.Deep.CutRange
namespace Go.Proofs.Ytgbiifefpidebaa
open Go.RowKit Go.Maps Go.WideMaps
set_option maxRecDepth 100000
set_option maxHeartbeats 4000000
theorem u32_wf {c : Int} (h : 0 ≤ c ∧ c < 4294967296) : (Lit.int .u32 c).wf = true := by
  have hmin : IntKind.u32.min = 0 := rfl
  have hmax : IntKind.u32.max = 4294967295 := rfl
  simp only [Lit.wf, Bool.and_eq_true, decide_eq_true_eq]; omega
theorem z_items (w : World) : (zeroValue 26).run Try.prog w = .ok (.slice none 0 0) w := by kernel_rfl
/-- An event whose changes lie elsewhere. -/
def Ev.at (x : Ev) (a : Option Addr) (c : Nat) : Ev := ⟨x.kind, x.ep, x.cl, x.num, x.ask, a, c, x.lvl, x.re, x.ry, x.rows, x.ra, x.rc, x.idx⟩
theorem row_at (x : Ev) (a : Option Addr) (c : Nat) : x.row.setIfInBounds 11 (.slice a x.ask.chs.length c) = (x.at a c).row := rfl
/-- An item of a log. -/
structure ItOk (w : World) (y : Ev) : Prop where
  chs : ChsAt w y.ask.chs y.ad y.cap
  good : ∃ x : Ev, x.strip = y.strip ∧ (0 ≤ x.cl ∧ x.cl < 256) ∧ (0 ≤ x.num ∧ x.num < 4294967296) ∧ x.ask.small ∧ 0 ≤ x.idx ∧ x.idx < 18446744073709551616
def logP (l : List Ev) : List Ev := logL (l.map Ev.strip) l
theorem strip_strip (x : Ev) : x.strip.strip = x.strip := rfl
theorem items_strip (L : List Ev) (e : Int) : (itemsOf L e).map Ev.strip = itemsOf (L.map Ev.strip) e := by
  unfold itemsOf
  rw [List.filter_map]
  rfl
theorem addI_strip : ∀ (its o : List Ev), (addI o its).map Ev.strip = addI (o.map Ev.strip) (its.map Ev.strip)
  | [], _ => rfl
  | y :: its, o => by
    have h1 : addI o (y :: its) = addI (if y.idx = (o.length : Int) + 1 then o ++ [y] else o) its := rfl
    have h2 : addI (o.map Ev.strip) ((y :: its).map Ev.strip) = addI (if y.idx = ((o.map Ev.strip).length : Int) + 1 then o.map Ev.strip ++ [y.strip] else o.map Ev.strip) (its.map Ev.strip) := rfl
    rw [h1, h2, addI_strip its, List.length_map]
    by_cases h : y.idx = (o.length : Int) + 1
    · rw [if_pos h, if_pos h, List.map_append]; rfl
    · rw [if_neg h, if_neg h]
theorem logS_strip (L os : List Ev) (x : Ev) : (logS L os x).map Ev.strip = logS (L.map Ev.strip) (os.map Ev.strip) x := by
  unfold logS
  split
  · rw [addI_strip, items_strip, List.map_take]
  · rfl
theorem fold_strip (L : List Ev) : ∀ (l os : List Ev), (l.foldl (logS L) os).map Ev.strip = l.foldl (logS (L.map Ev.strip)) (os.map Ev.strip)
  | [], _ => rfl
  | x :: l, os => by rw [List.foldl_cons, fold_strip L l, logS_strip, List.foldl_cons]
theorem logP_of {L l : List Ev} (h : L.map Ev.strip = l.map Ev.strip) : (logL L l).map Ev.strip = logP l := by
  unfold logL logP
  rw [fold_strip, h]; rfl
structure LogR (w : World) (l : List Ev) (os : List Ev) (a : Option Addr) (w' : World) : Prop where
  same : os.map Ev.strip = logP l
  row : RowIs w' 11 (.slice a os.length os.length) os.length (os.flatMap Ev.itc)
  ok : ∀ y ∈ os, ItOk w' y
  ext : Ext w w'
def LogE (w : World) (l : List Ev) (e : Ending) (w' : World) : Prop := ∃ (os : List Ev) (a : Option Addr), e = .returned (.slice a os.length os.length) ∧ LogR w l os a w'
theorem log_any (w : World) (l : List Ev) (a : Option Addr) (cap : Nat) (hR : RowIs w 17 (.slice a l.length cap) l.length (l.flatMap Ev.cells)) (hn : l.length ≤ 200) (hg : ∀ x ∈ l, x.good w) (hck : (ckL l).isSome = true) : Calls Try.prog 11 #[.slice a l.length cap] w (LogE w l) := by
  have hc := pcheck_any w l a cap hR hn hg
  rw [show CkE w l = fun e w' => e = .returned (.bool true) ∧ Ext w w' by funext e w'; unfold CkE; rw [hck]] at hc
  obtain ⟨ln, hln⟩ : ∃ n, n = l.length := ⟨_, rfl⟩
  rw [← hln] at hR hn hc ⊢
  have hln' := Lib.hid hln
  have hR' := Lib.hid hR
  have hg' := Lib.hid hg
  clear hln hR hg hck
  have hmm := @run_makeMap Try.prog
  go_enter Try.func11, Try.ntmps11
  go_wp2_with fail
  refine hc.mono ?_
  clear hc
  rintro e w1 ⟨rfl, hE1⟩
  have hL1 := LgI.made w1
  have hE2 := hE1.alloc (.map #[] 0)
  have hsz : w1.heap.size + 1 ≤ (w1.alloc (.map #[] 0)).heap.size := by simp
  go_upto_region 4 with fail
  clear hmm
  generalize w1.alloc _ = W at *
  obtain ⟨g, hgg⟩ : ∃ g, g = w1.heap.size := ⟨_, rfl⟩
  have hgw : w.heap.size ≤ g := by rw [hgg]; exact hE1.size
  rw [← hgg] at hL1 hsz ⊢
  have hgw' := Lib.hid hgw
  clear hgg hgw hE1
  go_wp2_with fail
  go_loopw [5, 18] (fun _ i wr => ∃ (k : Nat) (F : Value → Value) (L : List Ev), k ≤ ln ∧ i = .int .i64 k ∧ Hid (L.map Ev.strip = (l.take k).map Ev.strip) ∧ LgI wr g F L ∧ Ext w wr ∧ g + 1 ≤ wr.heap.size) (fun _ i _ => ln - (intOf i).toNat)
  case atStart => exact ⟨0, _, [], by omega, rfl, Lib.hid rfl, hL1, hE2, hsz⟩
  case round =>
    obtain ⟨k, F, L, hk, rfl, hst, hLg, hEr, hsr⟩ := hrel
    clear hL1 hE2 hsz
    by_cases hlt : k < ln
    · have hli : (k : Int) < (ln : Int) := by omega
      obtain ⟨x, hx⟩ : ∃ c, l[k]? = some c := ⟨_, List.getElem?_eq_getElem (by rw [← hln'.out]; exact hlt)⟩
      obtain ⟨b, off, hat⟩ := (hR'.out.ext hEr).at
      obtain ⟨rfl, _, hd⟩ := hat (by omega)
      have hrg := ev_range (by rw [← hln'.out]; exact hd) hx
      have hxg := (hg'.out x (List.mem_of_getElem? hx)).ext hEr
      have htk : l.take (k + 1) = l.take k ++ [x] := by rw [List.take_add_one, hx]; rfl
      have hxg' := Lib.hid hxg
      have htk' := Lib.hid htk
      have hLl : Hid (L.length = k) := Lib.hid (by
        have := congrArg List.length hst.out
        rw [List.length_map, List.length_map, List.length_take, ← hln'.out] at this
        omega)
      clear hat hd hx hxg htk
      have hz := heap_alloc_new wr (.cells zEv 40)
      have hEz := (Ext.refl wr).alloc (.cells zEv 40)
      have hset : ((wr.alloc (.cells zEv 40)).setRow wr.heap.size x.row).heap[wr.heap.size]? = some (.cells x.row 40 (0, 0)) := by rw [setRow_heap _ _ _ _ _ _ hz]
      have hEs := hEz.setRow (Nat.le_refl _) x.row
      go_upto_region 7 with (first | (refine wpList_store_row (by rfl) 40 (.tmp 5) (.tmp 21) (by rfl) wr.heap.size x.row (by rfl) (by rfl) 40 zEv hz (by exact ev_inf) (by rfl) (ev_one x) ?_) | (refine wpList_load_mid (by rfl) 40 (.tmp 20) (by rfl) b (off + k * 17) (by rfl) x.cells _ hrg Try.underlying40 rfl (by exact ev_inf) ?_) | fail)
      unfold zEv at hset hEs
      clear hz hEz hrg
      generalize (wr.alloc _).setRow _ _ = W3 at *
      obtain ⟨g5, hg5⟩ : ∃ g, g = wr.heap.size := ⟨_, rfl⟩
      rw [← hg5] at hset ⊢
      have hg5' := Lib.hid hg5
      clear hg5
      have hX3 := Lib.hid hset
      have hE3 := hEr.trans hEs
      have hL3 := hLg.ext hEs
      have hs3 := hEs.size
      obtain ⟨c0, _, _, _, _, _, _, _, _, _, _, c11, _⟩ := ev_cells hset
      clear hset
      cases hk5 : (x.kind == 5) with
      | false =>
        have h5 : x.kind ≠ 5 := fun h => by rw [h] at hk5; exact Bool.noConfusion hk5
        have hL4 := Lib.hid (hL3.add0 h5)
        clear h5
        go_wp2_with fail
        go_roundw
        case rel => exact ⟨k + 1, F, L ++ [x], by omega, by go_num, Lib.hid (by rw [htk'.out, List.map_append, List.map_append, hst.out]), hL4.out, hE3, by omega⟩
        case measure => simp [intOf]; omega
      | true =>
        have h5' := Lib.hid (eq_of_beq hk5)
        have hxc := (hxg'.out.ext hEs).chs
        have hcl := clone_ch W3 x.ask.chs x.ad x.cap hxc
        obtain ⟨cn, hcn⟩ : ∃ n, n = x.ask.chs.length := ⟨_, rfl⟩
        rw [← hcn] at hcl c11
        have hcn' := Lib.hid hcn
        clear hcn hxc
        go_wp2_with fail
        refine hcl.mono ?_
        clear hcl c11
        rintro e W4 ⟨a', cap', rfl, hcap, hown4, hE4⟩
        go_wp2_with fail
        refine (clip_ch W4 a' cn cap' hcap).mono ?_
        rintro e W4' ⟨rfl, rfl⟩
        have hX4 := hE4.row hX3.out
        have fz : W4.frozen? ⟨g5, 11, none⟩ = false := by unfold World.frozen?; rw [hX4]; simp
        obtain ⟨_, _, _, _, _, _, _, _, _, _, _, c11, _⟩ := ev_cells hX4
        go_upto_region 9 with fail
        obtain ⟨W5, hW5⟩ : ∃ W5, W5 = W4.setCell ⟨g5, 11, none⟩ (.slice a' cn cn) := ⟨_, rfl⟩
        rw [← hW5]
        obtain ⟨y, hy⟩ : ∃ y, y = x.at a' cn := ⟨_, rfl⟩
        have hgl : g5 < W3.heap.size := (Array.getElem?_eq_some_iff.1 hX3.out).1
        have hrow5 : W5 = W4.setRow g5 y.row := by
          rw [hW5, setCell_eq_setRow _ _ _ _ _ _ _ hX4, hy, ← row_at, ← hcn'.out]
        have hgr5 : W4.grownBy W5 (some g5) := by
          rw [hrow5]
          exact ⟨rfl, rfl, rfl, by simp, fun i _ hi => setRow_other W4 g5 i _ (fun e => hi (by rw [e]))⟩
        have hX5 : W5.heap[g5]? = some (.cells y.row 40 (0, 0)) := by rw [hrow5, setRow_heap _ _ _ _ _ _ hX4]
        have hE5 : Ext wr W5 := by
          rw [hW5]
          exact (hEs.trans hE4).setCell (p := ⟨g5, 11, none⟩) (by rw [hg5'.out]; exact Nat.le_refl _) _
        have hL5 := hLg.ext hE5
        have hoc : OwnC W5 (g + 1) 57 3 y.chv y.ask.chs.length (y.ask.chs.flatMap Ch.cells) := by
          have h1 := hown4.clip (Nat.le_refl _)
          rw [List.take_of_length_le (Nat.le_of_eq hown4.1)] at h1
          have h2 := (h1.kept hgr5 (by
            cases ha : (Value.slice a' cn cn).ownBlock with
            | none => exact .inl rfl
            | some q => exact .inr (fun e => by have := (h1.lt q ha).1; injection e with e; omega))).mono (show g + 1 ≤ W3.heap.size by omega)
          rw [hy]
          show OwnC W5 (g + 1) 57 3 (.slice a' x.ask.chs.length cn) x.ask.chs.length (x.ask.chs.flatMap Ch.cells)
          rw [← hcn'.out]
          exact h2
        have hsc : ∀ e, Sep (F (kU e)) y.chv := fun e q hq hq2 => by
          have z1 := ((hLg.row e).lt q hq).2
          have h1 := hown4.clip (Nat.le_refl _)
          have hq3 : (Value.slice a' cn cn).ownBlock = some q := by
            rw [hy] at hq2
            cases a' with
            | none => cases hq2
            | some p => exact hq2
          have z2 := (h1.lt q hq3).1
          omega
        have hyk : y.kind = 5 := by rw [hy]; exact h5'.out
        have hys : y.strip = x.strip := by rw [hy]; rfl
        have hye : 0 ≤ y.ep ∧ y.ep < 4294967296 := by rw [hy]; exact hxg'.out.ep
        have hyl : y.ask.chs.length = cn := by rw [hy, hcn'.out]; rfl
        have hyk' := Lib.hid hyk
        have hys' := Lib.hid hys
        have hyl' := Lib.hid hyl
        have hoc' := Lib.hid hoc
        have hsc' := Lib.hid hsc
        have hs5 := hE5.size
        have hE5w := hEr.trans hE5
        clear hW5 hy hrow5 hgr5 hoc hsc hyk hys hyl hown4 hE4 hX4 fz c11 hEs hX3 hE3 hL3 c0 hxg' hE5
        obtain ⟨d0, d1, d2, d3, d4, d5, d6, d7, d8, d9, d10, d11, d12, d13, d14, d15, d16⟩ := ev_cells hX5
        obtain ⟨V, hV⟩ : ∃ V, V = F (kU y.ep) := ⟨_, rfl⟩
        obtain ⟨n, hnn⟩ : ∃ n, n = (itemsOf L y.ep).length := ⟨_, rfl⟩
        obtain ⟨xs, hxs⟩ : ∃ xs, xs = (itemsOf L y.ep).flatMap Ev.itc := ⟨_, rfl⟩
        have hLd := hL5.ext (Ext.refl W5).drew
        have hoV := hLd.row y.ep
        have hkl := keyOf_int_mk Try.underlying28 (u32_wf hye)
        have hlk1 := hLd.map.look (int_keyed Try.underlying28) Try.underlying54 (z_items W5.drew) hkl
        have hlk2 := (hLd.ext ((Ext.refl W5.drew).alloc (.cells y.item 42))).map.look (int_keyed Try.underlying28) Try.underlying54 (z_items _) hkl
        have hkf : F (.int .u32 y.ep) = V := hV.symm
        rw [hkf] at hlk1 hlk2
        rw [← hV, ← hnn, ← hxs] at hoV
        have hnk : n ≤ k := by rw [hnn, ← hLl.out]; exact List.length_filter_le _ _
        have hby : (n + 1) * Try.prog.bytesOf 42 ≤ 140737488355328 := by
          have h1 := item_bytes
          have h2 := Nat.mul_le_mul (show n + 1 ≤ 201 by omega) h1
          omega
        have hV' := Lib.hid hV
        have hnn' := Lib.hid hnn
        have hxs' := Lib.hid hxs
        have hg5b : ∀ q, V.ownBlock = some q → q < g5 := fun q hq => by
          have h2 := hLg.row y.ep
          rw [← hV'.out] at h2
          rw [hg5'.out]
          exact (h2.lt q hq).2
        have hX5d : W5.drew.heap[g5]? = some (.cells y.row 40 (0, 0)) := hX5
        have hXa : (W5.alloc (.cells y.item 42)).drew.heap[g5]? = some (.cells y.row 40 (0, 0)) := (((Ext.refl W5).alloc _).drew).row hX5
        have hlk3 : (Instr.lookup 54 (.map (some g)) (.int .u32 y.ep) false).run Try.prog (W5.alloc (.cells y.item 42)).drew = .ok V (W5.alloc (.cells y.item 42)).drew := hlk2
        have happ : ∀ v' w6, AppE W5.drew w6 (g + 1) 42 11 V v' (n + 1) (xs ++ y.item.toList) → w6.heap[g5]? = some (.cells y.row 40 (0, 0)) ∧ ∃ w7, (Instr.mapUpdate 54 (.map (some g)) (.int .u32 y.ep) v').run Try.prog w6 = .ok () w7 ∧ w7.heap[g5]? = some (.cells y.row 40 (0, 0)) ∧ LgI w7 g (setV F (kU y.ep) v') (L ++ [y]) ∧ Below (g + 1) W5.drew w6 ∧ w6.grownBy w7 (some g) := fun v' w6 hA => by
          have hX6 : w6.heap[g5]? = some (.cells y.row 40 (0, 0)) := by
            rw [← hX5d]
            refine hA.grown.block g5 (by show g5 < W5.heap.size; exact (Array.getElem?_eq_some_iff.1 hX5).1) (fun e => ?_)
            have := hg5b g5 e.symm
            omega
          obtain ⟨dv, hdv⟩ := hA.own.reads
          obtain ⟨w7, hru, hm7, hg7⟩ := (hA.mapAt hoV hLd.map).set (int_keyed Try.underlying28) Try.underlying54 (by have h1 := hLl.out; unfold maxLen; omega) hkl hdv
          refine ⟨hX6, w7, hru, ?_, ?_, hA.below, hg7⟩
          · rw [hg7.block g5 (Array.getElem?_eq_some_iff.1 hX6).1 (fun e => by injection e with e; rw [hg5'.out] at e; omega)]; exact hX6
          · rw [hxs'.out, hnn'.out, hV'.out] at hA
            exact hLd.add5 hyk'.out (hoc'.out.ext (Ext.refl W5).drew) hsc'.out hA hm7 hg7
        have happ' := Lib.hid happ
        have hS : ∀ w' : World, w'.heap[g5]? = some (.cells y.row 40 (0, 0)) → w'.cell? ⟨g5, 1, none⟩ = some (.int .u32 y.ep) ∧ w'.cell? ⟨g5, 2, none⟩ = some (.int .u8 y.cl) ∧ w'.cell? ⟨g5, 3, none⟩ = some (.int .u32 y.num) ∧ w'.cell? ⟨g5, 16, none⟩ = some (.int .u64 y.idx) ∧ w'.cell? ⟨g5, 4, none⟩ = some (.int .u8 y.ask.kind) ∧ w'.cell? ⟨g5, 5, none⟩ = some (.string y.ask.key) ∧ w'.cell? ⟨g5, 6, none⟩ = some (.string y.ask.val) ∧ w'.cell? ⟨g5, 7, none⟩ = some (.string y.ask.old) ∧ w'.cell? ⟨g5, 8, none⟩ = some (.bool y.ask.new) ∧ w'.cell? ⟨g5, 9, none⟩ = some (.string y.ask.to) ∧ w'.cell? ⟨g5, 10, none⟩ = some (.int .i64 y.ask.many) ∧ w'.cell? ⟨g5, 11, none⟩ = some (.slice y.ad y.ask.chs.length y.cap) := fun w' h => by
          obtain ⟨d0, d1, d2, d3, d4, d5, d6, d7, d8, d9, d10, d11, d12, d13, d14, d15, d16⟩ := ev_cells h
          exact ⟨d1, d2, d3, d16, d4, d5, d6, d7, d8, d9, d10, d11⟩
        have hS' := Lib.hid hS
        have hoV' := Lib.hid hoV
        have hX5d' := Lib.hid hX5d
        have hXa' := Lib.hid hXa
        have hgs : g + 1 ≤ W5.drew.heap.size := by show g + 1 ≤ W5.heap.size; omega
        have hn63 : n < 9223372036854775807 := by omega
        unfold Ev.item at hlk3
        clear hV hnn hxs hkf hX5 hX5d hXa hlk2 hLg happ hS hoV hLd
        go_region_held3 (fun w' => w'.cell? ⟨g5, 1, none⟩ = some (.int .u32 y.ep) ∧ w'.cell? ⟨g5, 2, none⟩ = some (.int .u8 y.cl) ∧ w'.cell? ⟨g5, 3, none⟩ = some (.int .u32 y.num) ∧ w'.cell? ⟨g5, 16, none⟩ = some (.int .u64 y.idx) ∧ w'.cell? ⟨g5, 4, none⟩ = some (.int .u8 y.ask.kind) ∧ w'.cell? ⟨g5, 5, none⟩ = some (.string y.ask.key) ∧ w'.cell? ⟨g5, 6, none⟩ = some (.string y.ask.val) ∧ w'.cell? ⟨g5, 7, none⟩ = some (.string y.ask.old) ∧ w'.cell? ⟨g5, 8, none⟩ = some (.bool y.ask.new) ∧ w'.cell? ⟨g5, 9, none⟩ = some (.string y.ask.to) ∧ w'.cell? ⟨g5, 10, none⟩ = some (.int .i64 y.ask.many) ∧ w'.cell? ⟨g5, 11, none⟩ = some (.slice y.ad y.ask.chs.length y.cap)) (first | exact hS'.out _ hX5d'.out | exact hS'.out _ hXa'.out | exact hS'.out _ hX6 | exact hS'.out _ hX7) (first | ((refine step_append_c rfl (.tmp 38) (.tmp 48) 26 42 rfl Try.underlying26 el_item W5.drew (g + 1) n xs V (by rfl) hoV'.out y.item (by rfl) (by rfl) (item_one y) hn63 hby hgs ?_); (intro v' w6 hA); (obtain ⟨hX6, w7, hru, hX7, hL7, hB6, hG7⟩ := happ'.out v' w6 hA)) | fail)
        all_goals
          have hE6 := Below.trans hE5w.drew (Below.mono hB6 (by have := hgw'.out; omega))
          have hE7 : Ext w w7 := Below.grown hE6 hG7 (Nat.le_trans hE5w.drew.size hB6.size) (fun r h => by cases h; exact hgw'.out)
          have hs7 := hL7.map.lt
          have hL7' := Lib.hid hL7
          clear hA hru hX6 hX7 hB6 hG7 hE6 hL7
          go_wp2_with fail
          go_roundw
          case rel => exact ⟨k + 1, setV F (kU y.ep) v', L ++ [y], by omega, by go_num, Lib.hid (by rw [htk'.out, List.map_append, List.map_append, hst.out, List.map_singleton, List.map_singleton, hys'.out]), hL7'.out, hE7, by omega⟩
          case measure => simp [intOf]; omega
    · have hli : ¬ (k : Int) < (ln : Int) := by omega
      have hst2 : Hid (L.map Ev.strip = l.map Ev.strip) := Lib.hid (by rw [hst.out, List.take_of_length_le (by rw [← hln'.out]; omega)])
      have hLl : Hid (L.length = ln) := Lib.hid (by
        have := congrArg List.length hst2.out
        rw [List.length_map, List.length_map, ← hln'.out] at this
        exact this)
      clear hst hlt
      -- LOOP2
      clear hLl
      go_wp2_with fail
      clear hli
      go_loopw [6, 8, 9, 11, 53] (fun out _ _ _ i wx => ∃ (j N : Nat) (os : List Ev) (oa : Option Addr) (oc : Nat), j ≤ ln ∧ i = .int .i64 j ∧ out = .slice oa N oc ∧ Hid (N = os.length) ∧ Hid (os = logL L (l.take j)) ∧ OutI wx g F L (.slice oa N oc) os ∧ N ≤ j * 200 ∧ Ext w wx ∧ g + 1 ≤ wx.heap.size) (fun _ _ _ _ i _ => ln - (intOf i).toNat)
      case atStart => exact ⟨0, 0, [], none, 0, by omega, rfl, rfl, Lib.hid rfl, Lib.hid rfl, OutI.start hLg, by omega, hEr, hsr⟩
      case round =>
        obtain ⟨j, N, os, oa, oc, hj, rfl, rfl, hN, hos, hO, hNb, hEx, hsx⟩ := hrel
        clear hLg hEr hsr
        by_cases hlt : j < ln
        · have hli : (j : Int) < (ln : Int) := by omega
          obtain ⟨x, hx⟩ : ∃ c, l[j]? = some c := ⟨_, List.getElem?_eq_getElem (by rw [← hln'.out]; exact hlt)⟩
          obtain ⟨b, off, hat⟩ := (hR'.out.ext hEx).at
          obtain ⟨rfl, _, hd⟩ := hat (by omega)
          have hrg := ev_range (by rw [← hln'.out]; exact hd) hx
          have hxg := (hg'.out x (List.mem_of_getElem? hx)).ext hEx
          have htk : l.take (j + 1) = l.take j ++ [x] := by rw [List.take_add_one, hx]; rfl
          have hlg : logL L (l.take (j + 1)) = logS L os x := by
            rw [htk, hos.out]; unfold logL; rw [List.foldl_append]; rfl
          have hxi := hxg.idx
          have hxe := hxg.ep
          have hlg' := Lib.hid hlg
          clear hat hd hx hxg htk hlg
          have hz := heap_alloc_new wr (.cells zEv 40)
          have hEz := (Ext.refl wr).alloc (.cells zEv 40)
          have hset : ((wr.alloc (.cells zEv 40)).setRow wr.heap.size x.row).heap[wr.heap.size]? = some (.cells x.row 40 (0, 0)) := by rw [setRow_heap _ _ _ _ _ _ hz]
          have hEs := hEz.setRow (Nat.le_refl _) x.row
          go_upto_region 15 with (first | (refine wpList_store_row (by rfl) 40 (.tmp 8) (.tmp 56) (by rfl) wr.heap.size x.row (by rfl) (by rfl) 40 zEv hz (by exact ev_inf) (by rfl) (ev_one x) ?_) | (refine wpList_load_mid (by rfl) 40 (.tmp 55) (by rfl) b (off + j * 17) (by rfl) x.cells _ hrg Try.underlying40 rfl (by exact ev_inf) ?_) | fail)
          unfold zEv at hset hEs
          clear hz hEz hrg
          generalize (wr.alloc _).setRow _ _ = W3 at *
          have hO3 := hO.ext hEs
          have hEx3 := hEx.trans hEs
          have hs3 := hEs.size
          obtain ⟨g8, hg8⟩ : ∃ g, g = wr.heap.size := ⟨_, rfl⟩
          rw [← hg8] at hset ⊢
          clear hg8 hO hEx hEs
          have hs4 : g + 1 ≤ W3.heap.size := by omega
          obtain ⟨c0, c1, _, _, _, _, _, _, _, _, _, _, _, _, _, _, c16⟩ := ev_cells hset
          clear hset hs3 hsx
          cases hk3 : (x.kind != 3) with
          | true =>
            have hk3' := Lib.hid (bne_iff_ne.1 hk3)
            go_wp2_with fail
            go_roundw
            case rel => exact ⟨j + 1, N, os, oa, oc, by omega, by go_num, rfl, hN, Lib.hid (by rw [hlg'.out]; unfold logS; rw [if_neg hk3'.out]), hO3, by omega, hEx3, hs4⟩
            case measure => simp [intOf]; omega
          | false =>
            have hk3' : Hid (x.kind = 3) := Lib.hid (by rw [bne_eq_false_iff_eq] at hk3; exact hk3)
            obtain ⟨ix, hix⟩ := Int.eq_ofNat_of_zero_le hxi.1
            have hix' := Lib.hid hix
            rw [hix] at c16
            have hixb : ix < 18446744073709551616 := by have := hxi.2; omega
            have hixn : Hid (x.idx.toNat = ix) := Lib.hid (by rw [hix'.out]; rfl)
            have hNc : N ≤ oc := by
              obtain ⟨a1, c1, e1, h1, _⟩ := hO3.own.form
              injection e1 with _ e2 e3
              omega
            clear hix hxi
            have hw1 : IntKind.u64.wrap (N : Int) = (N : Int) := by rw [IntKind.wrap_u64]; omega
            go_upto_if 66 with fail
            go_cut [6, 53] from 53 to 92 (fun out i wy => ∃ (N2 : Nat) (oa2 : Option Addr) (oc2 : Nat), out = .slice oa2 N2 oc2 ∧ i = .int .i64 j ∧ Hid (N2 = (os.take ix).length) ∧ OutI W3 g F L (.slice oa2 N2 oc2) (os.take ix) ∧ N2 ≤ j * 200 ∧ wy = W3)
            case first =>
              by_cases hlt2 : ix < N
              · have hc : (ix : Int) < (N : Int) := by omega
                have h0 : 0 ≤ (ix : Int) := by omega
                have h1 : (ix : Int) ≤ (oc : Int) := by omega
                go_wp2_with fail
                go_meet
                case rel => exact ⟨ix, oa, ix, rfl, rfl, Lib.hid (by rw [List.length_take, ← hN.out]; omega), by have h2 := hO3; rw [hN.out] at h2; exact h2.cut (by rw [← hN.out]; omega), by omega, rfl⟩
              · have hc : ¬ (ix : Int) < (N : Int) := by omega
                go_wp2_with fail
                go_meet
                case rel => exact ⟨N, oa, oc, rfl, rfl, Lib.hid (by rw [List.length_take, ← hN.out]; omega), by rw [List.take_of_length_le (by rw [← hN.out]; omega)]; exact hO3, by omega, rfl⟩
            case rest =>
              obtain ⟨N2, oa2, oc2, rfl, rfl, hN2, hO4, hNb2, rfl⟩ := hcut
              clear hO3
              obtain ⟨its, hits⟩ : ∃ z, z = itemsOf L x.ep := ⟨_, rfl⟩
              have hmem : ∀ y ∈ its, y ∈ L ∧ y.kind = 5 := fun y hy => by
                rw [hits] at hy
                unfold itemsOf at hy
                have := List.mem_filter.1 hy
                simp only [Bool.and_eq_true, decide_eq_true_eq] at this
                exact ⟨this.1, this.2.1⟩
              have hrowV := hO4.lg.row x.ep
              rw [← hits] at hrowV
              obtain ⟨va, vc, hVe, hvc, _⟩ := hrowV.form
              obtain ⟨m, hm⟩ : ∃ z, z = its.length := ⟨_, rfl⟩
              rw [← hm] at hVe hvc
              have hlk := hO4.lg.map.look (int_keyed Try.underlying28) Try.underlying54 (z_items wc) (keyOf_int_mk Try.underlying28 (u32_wf hxe))
              rw [show F (.int .u32 x.ep) = .slice va m vc from hVe] at hlk
              have hmb : m ≤ 200 := by
                rw [hm, hits]
                refine Nat.le_trans (List.length_filter_le _ _) ?_
                have := congrArg List.length hst2.out
                rw [List.length_map, List.length_map, ← hln'.out] at this
                omega
              have hits' := Lib.hid hits
              have hmem' := Lib.hid hmem
              have hVe' := Lib.hid hVe
              have hm' := Lib.hid hm
              clear hits hmem hrowV hVe hm
              go_wp2_with fail
              clear hlk c0 c1 c16
              go_loopw [6, 11, 76] (fun out _ i wy => ∃ (q N3 : Nat) (os3 : List Ev) (oa3 : Option Addr) (oc3 : Nat), q ≤ m ∧ i = .int .i64 q ∧ out = .slice oa3 N3 oc3 ∧ Hid (N3 = os3.length) ∧ Hid (os3 = addI (os.take ix) (its.take q)) ∧ OutI wy g F L (.slice oa3 N3 oc3) os3 ∧ N3 ≤ j * 200 + q ∧ Ext w wy ∧ g + 1 ≤ wy.heap.size) (fun _ _ i _ => m - (intOf i).toNat)
              case atStart => first | exact ⟨0, N2, os.take ix, oa2, oc2, by omega, rfl, rfl, hN2, Lib.hid rfl, hO4, by omega, hEx3, hs4⟩ | trace_state
              case round =>
                obtain ⟨q, N3, os3, oa3, oc3, hq, rfl, rfl, hN3, hos3, hO5, hNb3, hE5, hs5⟩ := hrel
                clear hO4 hEx3 hs4
                by_cases hlt3 : q < m
                · have hli3 : (q : Int) < (m : Int) := by omega
                  obtain ⟨y, hy⟩ : ∃ c, its[q]? = some c := ⟨_, List.getElem?_eq_getElem (by rw [← hm'.out]; exact hlt3)⟩
                  have htk : its.take (q + 1) = its.take q ++ [y] := by rw [List.take_add_one, hy]; rfl
                  have hyL := Lib.hid (hmem'.out y (List.mem_of_getElem? hy))
                  have hrV := (hO5.lg.row x.ep).row
                  rw [show F (kU x.ep) = .slice va m vc from hVe'.out, ← hits'.out, ← hm'.out] at hrV
                  obtain ⟨vb, vo, hat⟩ := hrV.at
                  obtain ⟨rfl, _, hd⟩ := hat (by omega)
                  have hrg := itc_range (by rw [← hm'.out]; exact hd) hy
                  have htk' := Lib.hid htk
                  clear hat hd hy htk hrV
                  have hz := heap_alloc_new wr (.cells zItem 42)
                  have hEz := (Ext.refl wr).alloc (.cells zItem 42)
                  have hset : ((wr.alloc (.cells zItem 42)).setRow wr.heap.size y.item).heap[wr.heap.size]? = some (.cells y.item 42 (0, 0)) := by rw [setRow_heap _ _ _ _ _ _ hz]
                  have hEs := hEz.setRow (Nat.le_refl _) y.item
                  go_upto_region 22 with (first | (refine wpList_store_row (by rfl) 42 (.tmp 11) (.tmp 79) (by rfl) wr.heap.size y.item (by rfl) (by rfl) 42 zItem hz (by exact item_inf) (by rfl) (item_all y) ?_) | (refine wpList_load_mid (by rfl) 42 (.tmp 78) (by rfl) vb (vo + q * 11) (by rfl) y.itc _ hrg Try.underlying42 rfl (by exact item_inf) ?_) | fail)
                  unfold zItem at hset hEs
                  clear hz hEz hrg
                  generalize (wr.alloc _).setRow _ _ = W6 at *
                  have hO6 := hO5.ext hEs
                  have hE6 := hE5.trans hEs
                  have hs6 : g + 1 ≤ W6.heap.size := Nat.le_trans hs5 hEs.size
                  obtain ⟨g9, hg9⟩ : ∃ g, g = wr.heap.size := ⟨_, rfl⟩
                  rw [← hg9] at hset ⊢
                  clear hg9 hO5 hE5 hEs hs5
                  have hrg := item_cells hset
                  have y0 := hrg 0 _ rfl
                  rw [Nat.zero_add] at y0
                  have hw1 : IntKind.u64.wrap (N3 : Int) = (N3 : Int) := by rw [IntKind.wrap_u64]; omega
                  have hw2 : IntKind.u64.wrap ((N3 : Int) + 1) = (N3 : Int) + 1 := by rw [IntKind.wrap_u64]; omega
                  have hstep : addI (os.take ix) (its.take (q + 1)) = if y.idx = (os3.length : Int) + 1 then os3 ++ [y] else os3 := by
                    rw [htk'.out, hos3.out]; unfold addI; rw [List.foldl_append]; rfl
                  have hstep' := Lib.hid hstep
                  have hrg' := Lib.hid hrg
                  clear hstep hset hrg
                  cases hq2 : (y.idx == (N3 : Int) + 1) with
                  | false =>
                    have hf : Hid (addI (os.take ix) (its.take (q + 1)) = os3) := Lib.hid (by
                      rw [hstep'.out, if_neg]
                      rw [← hN3.out]
                      exact fun h => by rw [h] at hq2; simp at hq2)
                    go_wp2_with fail
                    go_roundw
                    case rel => first | exact ⟨q + 1, N3, os3, oa3, oc3, by omega, by go_num, rfl, hN3, Lib.hid hf.out.symm, hO6, by omega, hE6, hs6⟩ | (repeat apply Exists.intro); exact ⟨⟨q + 1, N3, os3, oa3, oc3, by omega, by go_num, rfl, hN3, Lib.hid hf.out.symm, hO6, by omega, hE6, hs6⟩, rfl⟩
                    case measure => simp [intOf]; omega
                  | true =>
                    have hf : Hid (addI (os.take ix) (its.take (q + 1)) = os3 ++ [y]) := Lib.hid (by
                      rw [hstep'.out, if_pos]
                      rw [← hN3.out]
                      exact eq_of_beq hq2)
                    have hby : (N3 + 1) * Try.prog.bytesOf 42 ≤ 140737488355328 := by
                      have h1 := item_bytes
                      have h2 := Nat.mul_le_mul (show N3 + 1 ≤ 50000 by omega) h1
                      omega
                    have hn63 : N3 < 9223372036854775807 := by omega
                    have hown : OwnC W6 (g + 1) 42 11 (.slice oa3 N3 oc3) N3 (os3.flatMap Ev.itc) := by
                      have := hO6.own
                      rw [← hN3.out] at this
                      exact this
                    have hpush : ∀ v' w', AppE W6 w' (g + 1) 42 11 (.slice oa3 N3 oc3) v' (N3 + 1) (os3.flatMap Ev.itc ++ y.item.toList) → OutI w' g F L v' (os3 ++ [y]) := fun v' w' hA => hO6.push hyL.out.1 hyL.out.2 (by rw [← hN3.out]; exact hA)
                    have hpush' := Lib.hid hpush
                    have hown' := Lib.hid hown
                    clear hpush hown hO6
                    go_wp2_with (first | (refine wpList_load_mid (by rfl) 42 (.tmp 11) (by rfl) g9 0 (by rfl) y.itc _ hrg'.out Try.underlying42 rfl (by exact item_inf) ?_) | (refine wpList_bs_item (by rfl) (.tmp 88) (by rfl) y (by rfl) ?_) | (at_builtin; go_loud (refine wpList_append_c (by rfl) (.tmp 87) (.tmp 89) 26 42 (by rfl) Try.underlying26 el_item W6 (g + 1) N3 (os3.flatMap Ev.itc) (.slice oa3 N3 oc3) (by rfl) hown'.out y.item (by rfl) (by rfl) (item_one y) hn63 hby hs6 ?_); go_loud (intro v' w6 hA; obtain ⟨oa4, oc4, rfl, _⟩ := hA.own.form; have hO7 := hpush'.out _ _ hA; have hE7 : Ext w w6 := Below.trans hE6 (Below.mono hA.below (by have := hgw'.out; omega)); have hs7 : g + 1 ≤ w6.heap.size := Nat.le_trans hs6 hA.below.size; clear hA)) | fail)
                    go_roundw
                    case rel => first | exact ⟨q + 1, N3 + 1, os3 ++ [y], oa4, oc4, by omega, by go_num, rfl, Lib.hid (by rw [List.length_append, ← hN3.out]; rfl), Lib.hid hf.out.symm, hO7, by omega, hE7, hs7⟩ | (repeat apply Exists.intro); exact ⟨⟨q + 1, N3 + 1, os3 ++ [y], oa4, oc4, by omega, by go_num, rfl, Lib.hid (by rw [List.length_append, ← hN3.out]; rfl), Lib.hid hf.out.symm, hO7, by omega, hE7, hs7⟩, rfl⟩
                    case measure => simp [intOf]; omega
                · have hli3 : ¬ (q : Int) < (m : Int) := by omega
                  have hfin : Hid (os3 = logS L os x) := Lib.hid (by
                    unfold logS
                    rw [if_pos hk3'.out, hos3.out, List.take_of_length_le (l := its) (by rw [← hm'.out]; omega), hits'.out, hixn.out])
                  clear hlt3
                  go_wp2_with fail
                  go_roundw
                  case rel => first | exact ⟨j + 1, N3, os3, oa3, oc3, by omega, by go_num, rfl, hN3, Lib.hid (by rw [hlg'.out, hfin.out]), hO5, by omega, hE5, hs5⟩ | (repeat apply Exists.intro); exact ⟨⟨j + 1, N3, os3, oa3, oc3, by omega, by go_num, rfl, hN3, Lib.hid (by rw [hlg'.out, hfin.out]), hO5, by omega, hE5, hs5⟩, rfl⟩
                  case measure => simp [intOf]; omega
        · have hli : ¬ (j : Int) < (ln : Int) := by omega
          have hos2 : Hid (os = logL L l) := Lib.hid (by rw [hos.out, List.take_of_length_le (by rw [← hln'.out]; omega)])
          have hNc : N ≤ oc := by
            obtain ⟨a1, c1, e1, h1, _⟩ := hO.own.form
            injection e1 with _ e2 e3
            omega
          clear hlt hos
          go_wp2_with fail
          refine (clip_items wr oa N oc hNc).mono ?_
          rintro e w9 ⟨rfl, rfl⟩
          go_wp2_with fail
          go_ret
          have hlen := hN.out
          subst hlen
          refine ⟨os, oa, rfl, ?_, ?_, fun y hy => ?_, hEx⟩
          · rw [hos2.out]; exact logP_of hst2.out
          · have h1 := hO.own.clip (Nat.le_refl _)
            rw [itc_take, List.take_of_length_le (Nat.le_refl _)] at h1
            exact h1.row
          · obtain ⟨hyL, hyk⟩ := hO.mem y hy
            obtain ⟨x, hx, hxs⟩ : ∃ x ∈ l, x.strip = y.strip := by
              have : y.strip ∈ L.map Ev.strip := List.mem_map_of_mem hyL
              rw [hst2.out] at this
              obtain ⟨x, hx, he⟩ := List.mem_map.1 this
              exact ⟨x, hx, he⟩
            have hg := hg'.out x hx
            have hask : x.ask = y.ask := by have := congrArg Ev.ask hxs; exact this
            refine ⟨⟨((hO.lg.chs y hyL hyk).1).row, by rw [← hask]; exact hg.chs.2.1, by rw [← hask]; exact hg.chs.2.2⟩, x, hxs, hg.cl, hg.num, hg.ask, hg.idx⟩
end Go.Proofs.Ytgbiifefpidebaa
