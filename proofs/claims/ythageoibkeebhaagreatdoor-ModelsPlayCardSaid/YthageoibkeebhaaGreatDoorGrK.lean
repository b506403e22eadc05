/- Several texts in one: Mod20 Mod21 Mod22. No condition. -/
import Derived.Test.YthageoibkeebhaaGreatDoorMod19
import Derived.Test.YthageoibkeebhaaGreatDoorGrC
import Derived.Deep.RegionHeld3
import Derived.Deep.CutRange
import Derived.Test.YthageoibkeebhaaGreatDoorGrH
import Derived.Test.YthageoibkeebhaaGreatDoorGrL
import Derived.StillTailTactics
/- A state's Said. No condition. -/
namespace Go.Proofs.YthageoibkeebhaaGreatDoor
open Go.RowKit
set_option maxRecDepth 100000
set_option maxHeartbeats 2000000
def sdc (p : Sv × Nat) : List Value := [.int .u8 (p.2 : Int), .int .u32 (p.1.num : Int), .int .i64 p.1.e, .bool p.1.yes, .slice none 0 0]
/-- What is told of who said what last: each one's place, if it is filled. -/
def saidL (sd : List Sv) : List (Sv × Nat) := sd.zipIdx.filter fun p => decide (0 < p.1.num)
theorem saidL_add (sd : List Sv) (s : Sv) : saidL (sd ++ [s]) = if 0 < s.num then saidL sd ++ [(s, sd.length)] else saidL sd := by
  unfold saidL
  rw [List.zipIdx_append, List.filter_append]
  by_cases h : 0 < s.num
  · rw [if_pos h]; simp [h]
  · rw [if_neg h]; simp [h]
theorem saidL_len (sd : List Sv) : (saidL sd).length ≤ sd.length := by
  unfold saidL
  have := List.length_filter_le (fun p : Sv × Nat => decide (0 < p.1.num)) sd.zipIdx
  rw [List.length_zipIdx] at this; exact this
theorem el_said : ElemIs Tryz.prog 87 5 48 := by
  refine ElemIs.mk (z := .agg #[.int .u8 0, .int .u32 0, .int .i64 0, .bool false, .slice none 0 0]) (by kernel_rfl) (by kernel_rfl) (by decide)
theorem info_lasts : (Tryz.prog.info? 94).map (·.size) = some 36 := by kernel_rfl
theorem twin_lit (w : World) (i : Int) (b : Bool) : Calls Tryz.prog 43 #[.agg #[.int .i64 i, .bool b, .slice none 0 0]] w fun e w' => e = .returned (.agg #[.int .i64 i, .bool b, .slice none 0 0]) ∧ Ext w w' := st_twin w i b
theorem last_index {sd : List Sv} (h : sd.length = 9) {k : Nat} {s : Sv} (hk : sd[k]? = some s) (w : World) : (Instr.index 94 (.agg (sd.flatMap svc).toArray) (.int .i64 (k : Int))).run Tryz.prog w = .ok (.agg #[.int .u32 (s.num : Int), .int .i64 s.e, .bool s.yes, .slice none 0 0]) w := by
  match sd, h with
  | [s0, s1, s2, s3, s4, s5, s6, s7, s8], _ =>
    have hk9 : k < 9 := (List.getElem?_eq_some_iff.1 hk).1
    match k, hk9 with
    | 0, _ => obtain rfl : s0 = s := by simpa using hk
              show _ = _; kernel_rfl
    | 1, _ => obtain rfl : s1 = s := by simpa using hk
              show _ = _; kernel_rfl
    | 2, _ => obtain rfl : s2 = s := by simpa using hk
              show _ = _; kernel_rfl
    | 3, _ => obtain rfl : s3 = s := by simpa using hk
              show _ = _; kernel_rfl
    | 4, _ => obtain rfl : s4 = s := by simpa using hk
              show _ = _; kernel_rfl
    | 5, _ => obtain rfl : s5 = s := by simpa using hk
              show _ = _; kernel_rfl
    | 6, _ => obtain rfl : s6 = s := by simpa using hk
              show _ = _; kernel_rfl
    | 7, _ => obtain rfl : s7 = s := by simpa using hk
              show _ = _; kernel_rfl
    | 8, _ => obtain rfl : s8 = s := by simpa using hk
              show _ = _; kernel_rfl
theorem sd_range {w : World} {st mb : Nat} {sd : List Sv} (hw : w.heap[st]? = some (.cells (stRow mb sd) 96 (0, 0))) : w.rangeAt st 1 (sd.flatMap svc) := fun j v hv => by
  rw [cell_of_row _ _ _ _ 96 (0, 0) hw]
  unfold stRow
  rw [List.getElem?_toArray, show 1 + j = j + 1 by omega, List.getElem?_cons_succ]; exact hv
theorem flat_len : ∀ sd : List Sv, (sd.flatMap svc).length = sd.length * 4
  | [] => rfl
  | s :: r => by rw [List.flatMap_cons, List.length_append, flat_len r, List.length_cons, show (svc s).length = 4 from rfl]; omega
/-- What Said tells: in memory of the call's own. -/
def SaidsE (l : List (Sv × Nat)) (w : World) (e : Ending) (w' : World) : Prop := ∃ a cap, e = .returned (.slice a l.length cap) ∧ w'.ownsRow w.heap.size 87 5 (.slice a l.length cap) l.length (l.flatMap sdc) ∧ Ext w w'
theorem st_said {w0 w : World} {st mb : Nat} {m : Md} (hS : StM w0 w st mb m) : Calls Tryz.prog 16 #[.pointer (some ⟨st, 0, none⟩)] w (SaidsE (saidL m.sd) w) := by
  obtain ⟨_, _, _, _, _, hst, _⟩ := hS.at
  obtain ⟨rs, hX, _⟩ := id hS
  have hth := st_there hX
  have h9 := hS.len
  obtain ⟨sd, hsd⟩ : ∃ sd, sd = m.sd := ⟨_, rfl⟩
  rw [← hsd] at hst h9 ⊢
  have hrg := sd_range hst
  have hfl : (sd.flatMap svc).length = 36 := by rw [flat_len, h9]
  have hix := fun (k : Nat) (s : Sv) (hk : sd[k]? = some s) (W : World) => last_index h9 hk W
  obtain ⟨A, hA⟩ : ∃ A, A = (sd.flatMap svc).toArray := ⟨_, rfl⟩
  have hix' := Lib.hid hix
  have hinf : (Tryz.prog.info? 94).map (·.size) = some (sd.flatMap svc).length := by rw [hfl]; exact info_lasts
  have hinf' := Lib.hid hinf
  have h9' := Lib.hid h9
  have hA' := Lib.hid hA
  clear hS hX hst hsd hix hinf hfl hA h9
  go_enter Tryz.func16, Tryz.ntmps16
  go_wp2_with fail
  refine hth.mono ?_
  rintro e w' ⟨rfl, rfl⟩
  clear hth
  go_wp2_with (first | (refine wpList_load_mid (by rfl) 94 (.tmp 10) (by rfl) st 1 (by rfl) (sd.flatMap svc) _ hrg Tryz.underlying94 rfl hinf'.out ?_; rw [← hA'.out]) | fail)
  clear hrg
  go_loopw [2, 12] (fun out i wr => ∃ (k n : Nat) (a : Option Addr) (cap : Nat), k ≤ 9 ∧ i = .int .i64 k ∧ out = .slice a n cap ∧ Hid (n = (saidL (sd.take k)).length) ∧ wr.ownsRow w.heap.size 87 5 (.slice a n cap) n ((saidL (sd.take k)).flatMap sdc) ∧ Ext w wr) (fun _ i _ => 9 - (intOf i).toNat)
  case atStart => exact ⟨0, 0, none, 0, by omega, rfl, rfl, Lib.hid rfl, World.ownsRow_nil _ _ _ _, Ext.refl _⟩
  case round =>
    obtain ⟨k, n, oa, oc, hk, rfl, rfl, hn, hown, hE⟩ := hrel
    by_cases hlt : k < 9
    · have hli : (k : Int) < 9 := by omega
      obtain ⟨s, hs⟩ : ∃ s, sd[k]? = some s := ⟨_, List.getElem?_eq_getElem (by rw [h9'.out]; exact hlt)⟩
      have hi := hix'.out k s hs
      rw [← hA'.out] at hi
      have htk : sd.take (k + 1) = sd.take k ++ [s] := by rw [List.take_add_one, hs]; rfl
      have hsl := saidL_add (sd.take k) s
      rw [← htk, List.length_take, show min k sd.length = k by rw [h9'.out]; omega] at hsl
      have hn9 : n ≤ 9 := by rw [hn.out]; have := saidL_len (sd.take k); rw [List.length_take] at this; omega
      have hsl' := Lib.hid hsl
      clear hs htk hsl
      have hsz := hE.size
      by_cases hnum : 0 < s.num
      · have hni : (0 : Int) < (s.num : Int) := by omega
        have hwc : IntKind.u8.wrap (k : Int) = k := by rw [IntKind.wrap_u8]; omega
        have hk0 : 0 ≤ (k : Int) := by omega
        go_upto_region 7 with fail
        have hrw4 := heap_alloc_new wr (.cells #[.int .u32 (s.num : Int), .int .i64 s.e, .bool s.yes, .slice none 0 0] 93)
        have hX4 : Ext wr (wr.alloc (.cells #[.int .u32 (s.num : Int), .int .i64 s.e, .bool s.yes, .slice none 0 0] 93)) := (Ext.refl wr).alloc _
        have hG := World.ownsRow_lit (e := 93) (size := 4) wr #[.int .u32 (s.num : Int), .int .i64 s.e, .bool s.yes, .slice none 0 0] 1 hsz (by unfold maxLen; omega) rfl
        have hsep : Sep (.slice oa n oc) (.slice (some ⟨wr.heap.size, 0, none⟩) 1 1) := by
          intro g hg hg2
          have h1 := (hown.lt g hg).2
          simp [Value.ownBlock] at hg2
          omega
        have hown4 := hown.kept (grown_of_ext hX4) (Classical.em _)
        have hg4 : w.heap.size ≤ wr.heap.size := hsz
        have hE4 := hE.trans hX4
        clear hown hE hX4
        generalize wr.alloc (.cells #[.int .u32 (s.num : Int), .int .i64 s.e, .bool s.yes, .slice none 0 0] 93) = W4 at *
        generalize wr.heap.size = g at *
        have c0 : W4.cell? ⟨g, 0, none⟩ = some (.int .u32 (s.num : Int)) := by rw [cell_of_row _ _ 0 _ 93 (0, 0) hrw4]; rfl
        have c1 : W4.cell? ⟨g, 1, none⟩ = some (.int .i64 s.e) := by rw [cell_of_row _ _ 1 _ 93 (0, 0) hrw4]; rfl
        have c2 : W4.cell? ⟨g, 2, none⟩ = some (.bool s.yes) := by rw [cell_of_row _ _ 2 _ 93 (0, 0) hrw4]; rfl
        have c3 : W4.cell? ⟨g, 3, none⟩ = some (.slice none 0 0) := by rw [cell_of_row _ _ 3 _ 93 (0, 0) hrw4]; rfl
        have hSS : ∀ w', Ext W4 w' → w'.cell? ⟨g, 0, none⟩ = some (.int .u32 (s.num : Int)) ∧ w'.cell? ⟨g, 1, none⟩ = some (.int .i64 s.e) ∧ w'.cell? ⟨g, 2, none⟩ = some (.bool s.yes) ∧ w'.cell? ⟨g, 3, none⟩ = some (.slice none 0 0) := fun w' h => ⟨h.cell c0, h.cell c1, h.cell c2, h.cell c3⟩
        have hSS' := Lib.hid hSS
        have hG' := Lib.hid hG
        have hs4 := hE4.size
        have hown' := Lib.hid hown4
        clear hSS hG c0 c1 c2 c3 hrw4 hi hix' hown4
        go_region_held3 (fun w' => w'.cell? ⟨g, 0, none⟩ = some (.int .u32 (s.num : Int)) ∧ w'.cell? ⟨g, 1, none⟩ = some (.int .i64 s.e) ∧ w'.cell? ⟨g, 2, none⟩ = some (.bool s.yes) ∧ w'.cell? ⟨g, 3, none⟩ = some (.slice none 0 0)) (first | exact hSS'.out _ (Ext.refl W4).drew | exact hSS'.out _ hX2 | exact hSS'.out _ (hX2.alloc _) | exact hS3) (first | (go_at_call 43; refine (twin_lit _ s.e s.yes).mono ?_; rintro e w2 ⟨rfl, hE2⟩; have hX2 := (Ext.refl W4).drew.trans hE2; have hown2 := hown'.out.kept (grown_of_ext hX2) (Classical.em _); have hs2 := Nat.le_trans hs4 hX2.size) | ((refine step_append_sep rfl (.tmp 19) (.tmp 28) 23 87 rfl Tryz.underlying23 el_said w2 w.heap.size n _ _ (by rfl) hown2 #[.int .u8 (k : Int), .int .u32 (s.num : Int), .int .i64 s.e, .bool s.yes, .slice none 0 0] (by rfl) (by rfl) (by simp [Value.oneCell']) (by omega) (by omega) hs2 ?_); (intro v' w3 hown3 hb3 hk3); (obtain ⟨hG3, _⟩ := hk3 _ _ _ _ _ _ (hG'.out.kept (grown_of_ext hX2) (Classical.em _)) hsep); (have hS3 := And.intro (hG3.cellAt 0 (by decide)) (And.intro (hG3.cellAt 1 (by decide)) (And.intro (hG3.cellAt 2 (by decide)) (hG3.cellAt 3 (by decide))))); (have hE3 := (hE4.trans hX2).below.trans hb3)) | fail)
        all_goals
          obtain ⟨oa', oc', rfl, _⟩ := own_slice hown3
          have hfin : saidL (sd.take (k + 1)) = saidL (sd.take k) ++ [(s, k)] := by rw [hsl'.out, if_pos hnum]
          have hn2 : n + 1 = (saidL (sd.take (k + 1))).length := by rw [hfin, List.length_append, ← hn.out]; rfl
          have hn3 := Lib.hid hn2
          have hown6 : w3.ownsRow w.heap.size 87 5 (.slice oa' (n + 1) oc') (n + 1) ((saidL (sd.take (k + 1))).flatMap sdc) := by
            rw [hfin, List.flatMap_append]
            simpa [sdc] using hown3
          have hown7 := Lib.hid hown6
          clear hfin hn2 hown6 hown3 hS3 hG3 hown2
          go_wp2_with fail
          go_roundw
          case rel => exact ⟨k + 1, n + 1, oa', oc', by omega, by go_num, rfl, hn3.out, hown7.out, hE3⟩
          case measure => simp [intOf]; omega
      · have hni : ¬ (0 : Int) < (s.num : Int) := by omega
        have hfin : saidL (sd.take (k + 1)) = saidL (sd.take k) := by rw [hsl'.out, if_neg hnum]
        have hfin' := Lib.hid hfin
        have hX4 : Ext wr (wr.alloc (.cells #[.int .u32 (s.num : Int), .int .i64 s.e, .bool s.yes, .slice none 0 0] 93)) := (Ext.refl wr).alloc _
        have hown4 := hown.kept (grown_of_ext hX4) (Classical.em _)
        have hE4 := hE.trans hX4
        clear hfin hown hE hX4
        go_wp2_with fail
        go_roundw
        case rel => exact ⟨k + 1, n, oa, oc, by omega, by go_num, rfl, Lib.hid (by rw [hfin'.out]; exact hn.out), by rw [hfin'.out]; exact hown4, hE4⟩
        case measure => simp [intOf]; omega
    · have hli : ¬ (k : Int) < 9 := by omega
      have hkl : sd.take k = sd := List.take_of_length_le (by rw [h9'.out]; omega)
      rw [hkl] at hown hn
      clear hkl
      have hn2 := hn.out
      go_wp2_with fail
      go_ret
      exact ⟨oa, oc, by rw [← hn2]; rfl, by rw [← hn2]; exact hown, hE⟩
end Go.Proofs.YthageoibkeebhaaGreatDoor

/- Make: a state of rows that rise, and of who said what. No condition. -/
namespace Go.Proofs.YthageoibkeebhaaGreatDoor
open Go.RowKit Go.Maps Go.WideMaps
set_option maxRecDepth 100000
set_option maxHeartbeats 2000000
def MkE (w0 : World) (m : Md) (err : Int) (e : Ending) (w' : World) : Prop := ∃ st mb, e = .returned (.tuple #[.pointer (some ⟨st, 0, none⟩), .int .i64 err]) ∧ StM w0 w' st mb m
def sdQ (q : List (Sv × Nat)) : List Sv := q.foldl (fun sd p => sd.set p.2 p.1) zSd
theorem sdQ_add {q : List (Sv × Nat)} {k : Nat} {p : Sv × Nat} (h : q[k]? = some p) : sdQ (q.take (k + 1)) = (sdQ (q.take k)).set p.2 p.1 := by
  unfold sdQ; rw [List.take_add_one, h, List.foldl_append]; rfl
theorem sdQ_out (c : Nat) : ∀ (q : List (Sv × Nat)) (sd : List Sv), (∀ p ∈ q, p.2 ≠ c) → (q.foldl (fun sd p => sd.set p.2 p.1) sd)[c]? = sd[c]?
  | [], _, _ => rfl
  | p :: q, sd, h => by
    rw [List.foldl_cons, sdQ_out c q _ (fun r hr => h r (List.mem_cons_of_mem _ hr)), List.getElem?_set_ne (h p (List.mem_cons_self ..))]
theorem zSd_at {c : Nat} (h : c < 9) : zSd[c]? = some ⟨0, 0, false⟩ := by unfold zSd; rw [List.getElem?_replicate, if_pos h]
theorem said_range {w : World} {l : List (Sv × Nat)} {b off : Nat} (hd : ∀ i, i < l.length * 5 → w.cell? ⟨b, off + i, none⟩ = (l.flatMap sdc)[i]?) {k : Nat} {x : Sv × Nat} (h : l[k]? = some x) : w.rangeAt b (off + k * 5) (sdc x) := fun r v hv => by
  have hr : r < 5 := (List.getElem?_eq_some_iff.1 hv).1
  have hk : k < l.length := (List.getElem?_eq_some_iff.1 h).1
  rw [Nat.add_assoc, hd (k * 5 + r) (by omega), flatMap_at sdc 5 (by decide) (fun _ => rfl) l k x h r hr _ rfl]; exact hv
theorem said_cells {w : World} {g : Nat} {p : Sv × Nat} (h : w.heap[g]? = some (.cells (sdc p).toArray 87 (0, 0))) : w.cell? ⟨g, 0, none⟩ = some (.int .u8 (p.2 : Int)) ∧ w.cell? ⟨g, 1, none⟩ = some (.int .u32 (p.1.num : Int)) ∧ w.cell? ⟨g, 2, none⟩ = some (.int .i64 p.1.e) ∧ w.cell? ⟨g, 3, none⟩ = some (.bool p.1.yes) ∧ w.cell? ⟨g, 4, none⟩ = some (.slice none 0 0) := by
  refine ⟨?_, ?_, ?_, ?_, ?_⟩ <;> (rw [cell_of_row _ _ _ _ 87 (0, 0) h]; rfl)
theorem info_said : (Tryz.prog.info? 87).map (·.size) = some 5 := by kernel_rfl
theorem sdc_one (p : Sv × Nat) : (sdc p).toArray.all (·.oneCell') = true := by kernel_rfl
theorem sort_lt {l : List Rw} (h : sortR l) {k : Nat} {r : Rw} (hk : l[k]? = some r) : ∀ p ∈ l.take k, ltK p.key r.key := by
  intro p hp
  obtain ⟨hlt, rfl⟩ := List.getElem?_eq_some_iff.1 hk
  obtain ⟨j, hj, rfl⟩ := List.getElem_of_mem hp
  rw [List.length_take] at hj
  rw [List.getElem_take]
  exact List.pairwise_iff_getElem.1 h j k (by omega) hlt (by omega)
theorem st_mk (w : World) (l : List Rw) (a : Option Addr) (cap : Nat) (hr : RowIs w 2 (.slice a l.length cap) l.length (l.flatMap rwL)) (hn : l.length ≤ 50000) (hso : sortR l) (hsm : smallR l)
    (q : List (Sv × Nat)) (b : Option Addr) (cap' : Nat) (hq : RowIs w 5 (.slice b q.length cap') q.length (q.flatMap sdc)) (hqg : ∀ p ∈ q, 1 ≤ p.2 ∧ p.2 ≤ 8 ∧ p.1.num ≠ 0) (hqd : (q.map Prod.snd).Nodup) (hqn : q.length ≤ 1000) :
    Calls Tryz.prog 9 #[.slice a l.length cap, .slice b q.length cap'] w (MkE w ⟨l, sdQ q⟩ 0) := by
  have hr' := Lib.hid hr
  have hq' := Lib.hid hq
  have hso' := Lib.hid hso
  have hsm' := Lib.hid hsm
  have hqg' := Lib.hid hqg
  have hqd' := Lib.hid hqd
  clear hr hq hso hsm hqg hqd
  obtain ⟨ln, hln⟩ : ∃ ln, ln = l.length := ⟨_, rfl⟩
  obtain ⟨qn, hqn1⟩ : ∃ qn, qn = q.length := ⟨_, rfl⟩
  rw [← hln] at hn hr' ⊢
  rw [← hqn1] at hqn hq' ⊢
  have hln' := Lib.hid hln
  have hqn' := Lib.hid hqn1
  clear hln hqn1
  go_enter Tryz.func9, Tryz.ntmps9
  go_wp2_with fail
  refine (st_newM w).mono ?_
  rintro e w1 ⟨st, mb, rfl, hS1⟩
  go_wp2_with fail
  go_loopw [14] (fun i wr => ∃ k : Nat, k ≤ ln ∧ i = .int .i64 k ∧ StM w wr st mb ⟨l.take k, zSd⟩) (fun i _ => ln - (intOf i).toNat)
  case atStart => exact ⟨0, by omega, rfl, hS1⟩
  case round =>
    clear hS1
    obtain ⟨k, hk, rfl, hS⟩ := hrel
    by_cases hlt : k < ln
    · have hli : (k : Int) < (ln : Int) := by omega
      obtain ⟨r, hrk⟩ : ∃ r, l[k]? = some r := ⟨_, List.getElem?_eq_getElem (by rw [← hln'.out]; exact hlt)⟩
      obtain ⟨b1, off, hat⟩ := (hr'.out.ext hS.ground).at
      obtain ⟨rfl, _, hd⟩ := hat (by omega)
      have hrg := rws_range (by rw [← hln'.out]; exact hd) hrk
      have hlts := sort_lt hso'.out hrk
      obtain ⟨hkb, hvb⟩ := hsm'.out r (List.mem_of_getElem? hrk)
      have hkz := keyB_size hkb
      have hvz := valB_size hvb
      have htk : l.take (k + 1) = l.take k ++ [r] := by rw [List.take_add_one, hrk]; rfl
      have hfind := find_last hlts
      have hput : putW (l.take k) r.key r.val = l.take (k + 1) := by rw [putW_last hlts, htk]
      have hput' := Lib.hid hput
      have hfind' := Lib.hid hfind
      have hlk : (l.take k).length ≤ 50000 := by rw [List.length_take]; omega
      clear hat hd htk hlts hput hfind
      go_upto_region 5 with (first | (refine wpList_load_mid (by rfl) 84 (.tmp 16) (by rfl) b1 (off + k * 2) (by rfl) (rowR r).toList _ hrg Tryz.underlying84 rfl (by exact info_row) ?_) | (refine wpList_store_whole (by rfl) 84 (.tmp 8) (.tmp 17) (by rfl) wr _ (rowR r) wr.heap.size (by rfl) rfl (by rfl) info_row rfl (rowR_one r) ?_) | fail)
      have hr5 := heap_alloc_new wr (.cells (rowR r) 84)
      have hE5 := (Ext.refl wr).alloc (.cells (rowR r) 84)
      have hS5 := hS.ext hE5
      have hgs : st < wr.heap.size := hS.at.2.2.1
      have hg0 : w.heap.size ≤ wr.heap.size := hS.ground.size
      clear hS hE5 hrg
      generalize wr.alloc _ = W5 at *
      generalize wr.heap.size = g at *
      obtain ⟨y0, y1⟩ := row_cells hr5
      obtain ⟨rs5, hX5, hrs5, hc5⟩ := hS5
      simp only at hX5 hrs5
      have hfr : rs5.find? (keyIs r.key) = none := by
        have := find_fst rs5 r.key
        rw [hrs5, hfind'.out] at this
        cases h : rs5.find? (keyIs r.key) with
        | none => rfl
        | some p => rw [h] at this; cases this
      have hlook : ∀ w', Ext W5 w' → (Instr.lookup 91 (.map (some mb)) (.string r.key) false).run Tryz.prog w' = .ok (.pointer none) w' := fun w' he => by
        obtain ⟨mb', hM, hc'⟩ := (hX5.ext he).map
        rw [he.cell hc5] at hc'
        injection hc' with hc'
        injection hc' with hc'
        injection hc' with hc'
        subst hc'
        have := hM.look r.key (by omega)
        rw [hfr] at this
        exact this
      have hkc : ∀ w', Calls Tryz.prog 41 #[.string r.key] w' fun e w'' => e = .returned (.bool true) ∧ w' = w'' := fun w' => by
        have := key_any w' r.key (by omega)
        rw [hkb] at this; exact this
      have hvc : ∀ w', Calls Tryz.prog 42 #[.string r.val] w' fun e w'' => e = .returned (.bool true) ∧ w' = w'' := fun w' => by
        have := value_any w' r.val (by omega)
        rw [hvb] at this; exact this
      have hlook' := Lib.hid hlook
      have hkc' := Lib.hid hkc
      have hvc' := Lib.hid hvc
      have hX5' := Lib.hid hX5
      have hrs5' := Lib.hid hrs5
      have hr5' := Lib.hid hr5
      clear hlook hkc hvc hX5 hrs5 hfr hkb hvb hrk hr5
      refine wp_region_class (Ext W5) (by kernel_rfl) (by kernel_rfl) (Ext.refl _).drew ?_
      iterate 1 (refine wpQuiet_step (fun K hK => ?_); go_simp; first | (refine hK _ ?_; clear hK K) | (refine ⟨_, fun _ _ => rfl, hK _ ?_⟩; clear hK K))
      refine wpQuiet_load_cell (by rfl) 9 _ (by rfl) g 0 (by rfl) _ (fun w' h => h.cell y0) _ Tryz.underlying9 rfl ?_
      refine wpQuiet_step (fun K hK => ?_); go_simp
      refine ⟨_, fun w' hw => calls_same hw (hkc'.out _), hK _ ?_⟩; clear hK K
      iterate 3 (refine wpQuiet_step (fun K hK => ?_); go_simp; first | (refine hK _ ?_; clear hK K) | (refine ⟨_, fun _ _ => rfl, hK _ ?_⟩; clear hK K))
      refine wpQuiet_load_cell (by rfl) 9 _ (by rfl) g 1 (by rfl) _ (fun w' h => h.cell y1) _ Tryz.underlying9 rfl ?_
      refine wpQuiet_step (fun K hK => ?_); go_simp
      refine ⟨_, fun w' hw => calls_same hw (hvc'.out _), hK _ ?_⟩; clear hK K
      iterate 6 (refine wpQuiet_step (fun K hK => ?_); go_simp; first | (refine hK _ ?_; clear hK K) | (refine ⟨_, fun _ _ => rfl, hK _ ?_⟩; clear hK K))
      refine wpQuiet_load_cell (by rfl) 91 _ (by rfl) st 0 (by rfl) _ (fun w' h => h.cell hc5) _ Tryz.underlying91 rfl ?_
      iterate 1 (refine wpQuiet_step (fun K hK => ?_); go_simp; first | (refine hK _ ?_; clear hK K) | (refine ⟨_, fun _ _ => rfl, hK _ ?_⟩; clear hK K))
      refine wpQuiet_load_cell (by rfl) 9 _ (by rfl) g 0 (by rfl) _ (fun w' h => h.cell y0) _ Tryz.underlying9 rfl ?_
      refine wpQuiet_step (fun K hK => ?_); go_simp
      refine ⟨.pointer none, fun w' hw => by rw [hlook'.out w' hw]; exact ⟨rfl, rfl⟩, hK _ ?_⟩; clear hK K
      iterate 2 (refine wpQuiet_step (fun K hK => ?_); go_simp; first | (refine hK _ ?_; clear hK K) | (refine ⟨_, fun _ _ => rfl, hK _ ?_⟩; clear hK K))
      refine wpQuiet_nil (fun w5 hE5 => ?_)
      have z0 := hE5.cell y0
      have z1 := hE5.cell hc5
      have hlr : rs5.length ≤ 50000 := by have := congrArg List.length hrs5'.out; rw [List.length_map] at this; omega
      obtain ⟨w7, hrun, hS7, hgr⟩ := (hX5'.out.ext (hE5.trans (Ext.refl w5).drew)).store (g := g) (k := r.key) (v := r.val) (by omega) (by omega) hg0 (by omega) ((hE5.trans (Ext.refl w5).drew).row hr5'.out) (show w5.drew.cell? ⟨st, 0, none⟩ = _ from z1)
      have hc7 := (off_grown hgr).cell (show w5.drew.cell? ⟨st, 0, none⟩ = _ from z1) (show ¬ st = mb by
        obtain ⟨mb2, q1, _, _, q2⟩ := hX5'.out.maps
        rw [hc5] at q1
        injection q1 with q1; injection q1 with q1; injection q1 with q1
        rw [q1]; exact q2)
      have hfin : StM w w7 st mb ⟨l.take (k + 1), zSd⟩ := ⟨_, hS7, by rw [putR_map, hrs5'.out]; exact hput'.out, hc7⟩
      have hfin' := Lib.hid hfin
      clear hfin hS7 hgr hc7 hlook' hkc' hvc' hX5' hrs5' hr5' y0 y1 hc5 hE5
      go_upto_region 7 with fail
      go_still_tail 6, (by kernel_rfl)
      change wpList _ _ _ _ _ w5.drew
      go_wp2_with fail
      go_roundw
      case rel => exact ⟨k + 1, by omega, by go_num, hfin'.out⟩
      case measure => simp [intOf]; omega
    · have hli : ¬ (k : Int) < (ln : Int) := by omega
      have hkl : l.take k = l := List.take_of_length_le (by rw [← hln'.out]; omega)
      rw [hkl] at hS
      clear hkl hr'
      go_wp2_with fail
      go_loopw [47] (fun i wy => ∃ k : Nat, k ≤ qn ∧ i = .int .i64 k ∧ StM w wy st mb ⟨l, sdQ (q.take k)⟩) (fun i _ => qn - (intOf i).toNat)
      case atStart => exact ⟨0, by omega, rfl, hS⟩
      case round =>
        clear hS
        obtain ⟨k, hk, rfl, hS⟩ := hrel
        by_cases hlt : k < qn
        · have hli : (k : Int) < (qn : Int) := by omega
          obtain ⟨p, hpk⟩ : ∃ p, q[k]? = some p := ⟨_, List.getElem?_eq_getElem (by rw [← hqn'.out]; exact hlt)⟩
          obtain ⟨b1, off, hat⟩ := (hq'.out.ext hS.ground).at
          obtain ⟨rfl, _, hd⟩ := hat (by omega)
          have hrg := said_range (by rw [← hqn'.out]; exact hd) hpk
          obtain ⟨p1, p8, pn⟩ := hqg'.out p (List.mem_of_getElem? hpk)
          have hnot : ∀ x ∈ q.take k, x.2 ≠ p.2 := by
            intro x hx he
            obtain ⟨hkl, hpe⟩ := List.getElem?_eq_some_iff.1 hpk
            obtain ⟨j, hj, rfl⟩ := List.getElem_of_mem hx
            rw [List.length_take] at hj
            have := List.pairwise_iff_getElem.1 (show (q.map Prod.snd).Pairwise (· ≠ ·) from hqd'.out) j k (by rw [List.length_map]; omega) (by rw [List.length_map]; exact hkl) (by omega)
            rw [List.getElem_map, List.getElem_map, hpe] at this
            rw [List.getElem_take] at he
            exact this he
          have hsc : (sdQ (q.take k))[p.2]? = some ⟨0, 0, false⟩ := by
            have := sdQ_out p.2 (q.take k) zSd hnot
            unfold sdQ
            rw [this, zSd_at (by omega)]
          have hq1 := Lib.hid (sdQ_add hpk)
          obtain ⟨_, _, _, _, _, hst, _⟩ := hS.at
          have d0 := (sd_cells hst hsc).1
          have hsc' := Lib.hid hsc
          have hS' := Lib.hid hS
          have hgs : st < wr.heap.size := hS.at.2.2.1
          have hE5 := (Ext.refl wr).alloc (.cells (sdc p).toArray 87)
          have hr5 := heap_alloc_new wr (.cells (sdc p).toArray 87)
          have hS5 := hS.ext hE5
          have d5 := hE5.cell d0
          clear hat hd hnot hpk hst hsc d0 hS
          go_upto_region 12 with (first | (refine wpList_load_mid (by rfl) 87 (.tmp 49) (by rfl) b1 (off + k * 5) (by rfl) (sdc p) _ hrg Tryz.underlying87 rfl (by exact info_said) ?_) | (refine wpList_store_whole (by rfl) 87 (.tmp 10) (.tmp 50) (by rfl) wr _ (sdc p).toArray wr.heap.size (by rfl) rfl (by rfl) info_said rfl (sdc_one p) ?_) | fail)
          clear hrg
          generalize wr.alloc _ = W5 at *
          generalize wr.heap.size = g at *
          obtain ⟨y0, y1, y2, y3, y4⟩ := said_cells hr5
          have i1 : ¬ (p.2 : Int) < 1 := by omega
          have i2 : ¬ (8 : Int) < (p.2 : Int) := by omega
          have i3 : ¬ (p.1.num : Int) = 0 := by omega
          have j0 : 0 ≤ (p.2 : Int) := by omega
          have j1 : (p.2 : Int) < 9 := by omega
          have j2 : p.2 < 9 := by omega
          have j3 : ((p.2 : Int)).toNat = p.2 := by omega
          have i4 : ¬ (0 : Int) < 0 := by omega
          replace d5 : W5.cell? ⟨st, 1 + p.2 * 4, none⟩ = some (.int .u32 0) := d5
          have hS5' := Lib.hid hS5
          have hr5' := Lib.hid hr5
          clear hS5 hr5 hE5
          go_still (by kernel_rfl)
          change Exit.then _ _ _ _ W5.drew
          have hW6 := (Ext.refl W5).drew
          have hS6' := Lib.hid (hS5'.out.ext hW6)
          have hr6' := Lib.hid (hW6.row hr5'.out)
          clear hS5' hr5' y0 y1 y2 y3 y4 d5 hW6
          generalize W5.drew = W6 at *
          obtain ⟨y0, y1, y2, y3, y4⟩ := said_cells hr6'.out
          have hSS : ∀ w', Ext W6 w' → w'.cell? ⟨g, 0, none⟩ = some (.int .u8 (p.2 : Int)) ∧ w'.cell? ⟨g, 1, none⟩ = some (.int .u32 (p.1.num : Int)) ∧ w'.cell? ⟨g, 2, none⟩ = some (.int .i64 p.1.e) ∧ w'.cell? ⟨g, 3, none⟩ = some (.bool p.1.yes) ∧ w'.cell? ⟨g, 4, none⟩ = some (.slice none 0 0) := fun w' h => ⟨h.cell y0, h.cell y1, h.cell y2, h.cell y3, h.cell y4⟩
          have hSS' := Lib.hid hSS
          have hq2 := Lib.hid (show (⟨l, sdQ (q.take (k + 1))⟩ : Md) = ⟨l, (sdQ (q.take k)).set p.2 p.1⟩ by rw [hq1.out])
          have hgs' : ¬ g = st := by omega
          clear hSS y0 y1 y2 y3 y4 i1 i2 i3 i4
          go_upto_region 14 with fail
          go_region_held3 (fun w' => w'.cell? ⟨g, 0, none⟩ = some (.int .u8 (p.2 : Int)) ∧ w'.cell? ⟨g, 1, none⟩ = some (.int .u32 (p.1.num : Int)) ∧ w'.cell? ⟨g, 2, none⟩ = some (.int .i64 p.1.e) ∧ w'.cell? ⟨g, 3, none⟩ = some (.bool p.1.yes) ∧ w'.cell? ⟨g, 4, none⟩ = some (.slice none 0 0)) (first | exact hSS'.out _ (Ext.refl W6).drew | exact hSS'.out _ hX2 | exact hS3) (first | (go_at_call 43; refine (twin_lit _ p.1.e p.1.yes).mono ?_; rintro e w2 ⟨rfl, hE2⟩; have hX2 := (Ext.refl W6).drew.trans hE2; have hth2 := sd_there (hS6'.out.ext hX2) j2; have hfin := Lib.hid ((hS6'.out.ext hX2).say j2 p.1); have hst2 := (hS6'.out.ext hX2).at.2.2.2.2.2.1; have f0 := fz (o := 1 + p.2 * 4) hst2; have f1 := fz (o := 1 + p.2 * 4 + 1) hst2; have f2 := fz (o := 1 + p.2 * 4 + 2) hst2; have f3 := fz (o := 1 + p.2 * 4 + 3) hst2; obtain ⟨s0, s1, s2, s3⟩ := sd_cells hst2 hsc'.out; clear hst2; have hc3 := hSS'.out _ hX2; have hS3 := And.intro ((setCells_off (b := st) (svc p.1) (1 + p.2 * 4) w2).cell hc3.1 hgs') (And.intro ((setCells_off (b := st) (svc p.1) (1 + p.2 * 4) w2).cell hc3.2.1 hgs') (And.intro ((setCells_off (b := st) (svc p.1) (1 + p.2 * 4) w2).cell hc3.2.2.1 hgs') (And.intro ((setCells_off (b := st) (svc p.1) (1 + p.2 * 4) w2).cell hc3.2.2.2.1 hgs') ((setCells_off (b := st) (svc p.1) (1 + p.2 * 4) w2).cell hc3.2.2.2.2 hgs')))); clear hc3) | fail)
          all_goals
            clear hS3 s0 s1 s2 s3 f0 f1 f2 f3 hth2
            go_wp2_with fail
            go_roundw
            case rel => exact ⟨k + 1, by omega, by go_num, by rw [hq2.out]; exact hfin.out⟩
            case measure => simp [intOf]; omega
        · have hli : ¬ (k : Int) < (qn : Int) := by omega
          have hkl : q.take k = q := List.take_of_length_le (by rw [← hqn'.out]; omega)
          rw [hkl] at hS
          clear hkl hq'
          go_wp2_with fail
          go_ret2
          exact ⟨st, mb, rfl, hS⟩
end Go.Proofs.YthageoibkeebhaaGreatDoor

/- Who said what, told and made again, is that. No condition. -/
namespace Go.Proofs.YthageoibkeebhaaGreatDoor
open Go.RowKit
/-- Nine places; the first one is empty; an empty place holds nothing. -/
def fineS (sd : List Sv) : Prop := sd.length = 9 ∧ ∀ c s, sd[c]? = some s → (s.num = 0 → s = ⟨0, 0, false⟩) ∧ (c = 0 → s.num = 0)
theorem fine_z : fineS zSd := by
  refine ⟨rfl, fun c s h => ?_⟩
  have hc : c < 9 := (List.getElem?_eq_some_iff.1 h).1
  rw [zSd_at hc] at h
  injection h with h
  subst h
  exact ⟨fun _ => rfl, fun _ => rfl⟩
theorem fine_set {sd : List Sv} (h : fineS sd) {c n : Nat} {y : Bool} (hc : 1 ≤ c) (hn : n ≠ 0) : fineS (sd.set c ⟨n, 0, y⟩) := by
  refine ⟨by rw [List.length_set]; exact h.1, fun d s hd => ?_⟩
  by_cases e : c = d
  · subst e
    have hl : c < sd.length := by have := (List.getElem?_eq_some_iff.1 hd).1; rwa [List.length_set] at this
    rw [List.getElem?_set_self hl] at hd
    injection hd with hd
    subst hd
    exact ⟨fun h0 => absurd h0 hn, fun h0 => by omega⟩
  · rw [List.getElem?_set_ne e] at hd
    exact h.2 d s hd
theorem fine_ans {m : Md} (h : fineS m.sd) (c n : Nat) (x : Ak) : fineS (m.ans c n x).m.sd := by
  unfold Md.ans
  split
  · exact h
  · rename_i hb
    split
    · exact h
    · split
      · exact h
      · unfold Md.act
        simp only
        split
        · exact fine_set h (by have : ¬ c < 1 := fun q => hb (.inl q); omega) (fun q => hb (.inr (.inr (.inl q))))
        · exact h
theorem fine_step {m : Md} (h : fineS m.sd) (x : Ac) : fineS (stepA m x).sd := by
  unfold stepA; split
  · exact fine_ans h _ _ _
  · exact h
theorem fine_steps : ∀ (l : List Ac) {m : Md}, fineS m.sd → fineS (l.foldl stepA m).sd
  | [], _, h => h
  | x :: l, _, h => fine_steps l (fine_step h x)
theorem fine_done (l : List Ac) : fineS (doneM l).sd := fine_steps l fine_z
theorem said_mem {sd : List Sv} {s : Sv} {c : Nat} : (s, c) ∈ saidL sd ↔ sd[c]? = some s ∧ 0 < s.num := by
  unfold saidL
  rw [List.mem_filter, List.mem_zipIdx_iff_getElem?]
  simp
theorem said_nodup (sd : List Sv) : ((saidL sd).map Prod.snd).Nodup := by
  unfold saidL
  have h : (sd.zipIdx.map Prod.snd).Nodup := by rw [List.zipIdx_map_snd]; exact List.nodup_range'
  exact h.sublist (List.filter_sublist.map _)
theorem fold_in : ∀ (q : List (Sv × Nat)) (sd : List Sv) (p : Sv × Nat), p ∈ q → (q.map Prod.snd).Nodup → p.2 < sd.length → (q.foldl (fun sd p => sd.set p.2 p.1) sd)[p.2]? = some p.1
  | [], _, _, h, _, _ => by cases h
  | x :: q, sd, p, h, hn, hl => by
    rw [List.map_cons, List.nodup_cons] at hn
    rw [List.foldl_cons]
    rcases List.mem_cons.1 h with rfl | h
    · rw [sdQ_out p.2 q _ (fun r hr he => hn.1 (by rw [← he]; exact List.mem_map_of_mem hr)), List.getElem?_set_self hl]
    · exact fold_in q _ p h hn.2 (by rw [List.length_set]; exact hl)
theorem sdQ_len (q : List (Sv × Nat)) : (sdQ q).length = 9 := by
  unfold sdQ
  have : ∀ (q : List (Sv × Nat)) (sd : List Sv), (q.foldl (fun sd p => sd.set p.2 p.1) sd).length = sd.length := by
    intro q
    induction q with
    | nil => intro sd; rfl
    | cons x q ih => intro sd; rw [List.foldl_cons, ih, List.length_set]
  rw [this]; rfl
/-- A state made of what was said has it again. -/
theorem sdQ_said {sd : List Sv} (h : fineS sd) : sdQ (saidL sd) = sd := by
  refine List.ext_getElem? fun c => ?_
  by_cases hc : c < 9
  · obtain ⟨s, hs⟩ : ∃ s, sd[c]? = some s := ⟨_, List.getElem?_eq_getElem (by rw [h.1]; exact hc)⟩
    rw [hs]
    by_cases h0 : 0 < s.num
    · have := fold_in (saidL sd) zSd (s, c) (said_mem.2 ⟨hs, h0⟩) (said_nodup sd) hc
      exact this
    · have hz := (h.2 c s hs).1 (by omega)
      unfold sdQ
      rw [sdQ_out c _ _ (fun p hp he => ?_), zSd_at hc, hz]
      obtain ⟨a, b⟩ := p
      have := said_mem.1 hp
      simp only at he
      rw [he, hs] at this
      have e := this.1
      injection e with e
      rw [← e] at this
      exact h0 this.2
  · rw [List.getElem?_eq_none (by rw [sdQ_len]; omega), List.getElem?_eq_none (by rw [h.1]; omega)]
theorem said_good {sd : List Sv} (h : fineS sd) : ∀ p ∈ saidL sd, 1 ≤ p.2 ∧ p.2 ≤ 8 ∧ p.1.num ≠ 0 := by
  rintro ⟨s, c⟩ hp
  obtain ⟨h1, h2⟩ := said_mem.1 hp
  have hc := (List.getElem?_eq_some_iff.1 h1).1
  rw [h.1] at hc
  refine ⟨?_, by simp only; omega, by simp only; omega⟩
  rcases Nat.eq_zero_or_pos c with h0 | h0
  · have := (h.2 c s h1).2 h0; omega
  · exact h0
theorem mk_said (w : World) (m : Md) (a : Option Addr) (cap : Nat) (b : Option Addr) (cap' : Nat) (hr : RowIs w 2 (.slice a m.rows.length cap) m.rows.length (m.rows.flatMap rwL)) (hq : RowIs w 5 (.slice b (saidL m.sd).length cap') (saidL m.sd).length ((saidL m.sd).flatMap sdc)) (hn : m.rows.length ≤ 50000) (hso : sortR m.rows) (hsm : smallR m.rows) (hf : fineS m.sd) :
    Calls Tryz.prog 9 #[.slice a m.rows.length cap, .slice b (saidL m.sd).length cap'] w (MkE w m 0) := by
  have := st_mk w m.rows a cap hr hn hso hsm (saidL m.sd) b cap' hq (said_good hf) (said_nodup _) (by have := saidL_len m.sd; rw [hf.1] at this; omega)
  rw [sdQ_said hf] at this
  exact this
end Go.Proofs.YthageoibkeebhaaGreatDoor
