/- A state's Said. No condition. -/
import Derived.Test.YthageoibkeebhaaGreatDoorMod19
import Derived.Test.YthageoibkeebhaaGreatDoorGrC
import Derived.Deep.RegionHeld3
import Derived.Deep.CutRange
namespace Go.Proofs.YthageoibkeebhaaGreatDoor
open Go.RowKit
set_option maxRecDepth 100000
set_option maxHeartbeats 2000000
def sdc (p : Sv × Nat) : List Value := [.int .u8 (p.2 : Int), .int .u32 (p.1.num : Int), .int .i64 p.1.e, .bool p.1.yes, .slice none 0 0]
/-- What is told of who said what last: each one's place, if it is filled. -/
def saidL (sd : List Sv) : List (Sv × Nat) := sd.zipIdx.filter fun p => decide (0 < p.1.num)
theorem saidL_add (sd : List Sv) (s : Sv) : saidL (sd ++ [s]) = if 0 < s.num then saidL sd ++ [(s, sd.length)] else saidL sd := by
  unfold saidL
  rw [List.zipIdx_append, List.filter_append]
  by_cases h : 0 < s.num
  · rw [if_pos h]; simp [h]
  · rw [if_neg h]; simp [h]
theorem saidL_len (sd : List Sv) : (saidL sd).length ≤ sd.length := by
  unfold saidL
  have := List.length_filter_le (fun p : Sv × Nat => decide (0 < p.1.num)) sd.zipIdx
  rw [List.length_zipIdx] at this; exact this
theorem el_said : ElemIs Tryz.prog 87 5 48 := by
  refine ElemIs.mk (z := .agg #[.int .u8 0, .int .u32 0, .int .i64 0, .bool false, .slice none 0 0]) (by kernel_rfl) (by kernel_rfl) (by decide)
theorem info_lasts : (Tryz.prog.info? 94).map (·.size) = some 36 := by kernel_rfl
theorem twin_lit (w : World) (i : Int) (b : Bool) : Calls Tryz.prog 43 #[.agg #[.int .i64 i, .bool b, .slice none 0 0]] w fun e w' => e = .returned (.agg #[.int .i64 i, .bool b, .slice none 0 0]) ∧ Ext w w' := st_twin w i b
theorem last_index {sd : List Sv} (h : sd.length = 9) {k : Nat} {s : Sv} (hk : sd[k]? = some s) (w : World) : (Instr.index 94 (.agg (sd.flatMap svc).toArray) (.int .i64 (k : Int))).run Tryz.prog w = .ok (.agg #[.int .u32 (s.num : Int), .int .i64 s.e, .bool s.yes, .slice none 0 0]) w := by
  match sd, h with
  | [s0, s1, s2, s3, s4, s5, s6, s7, s8], _ =>
    have hk9 : k < 9 := (List.getElem?_eq_some_iff.1 hk).1
    match k, hk9 with
    | 0, _ => obtain rfl : s0 = s := by simpa using hk
              show _ = _; kernel_rfl
    | 1, _ => obtain rfl : s1 = s := by simpa using hk
              show _ = _; kernel_rfl
    | 2, _ => obtain rfl : s2 = s := by simpa using hk
              show _ = _; kernel_rfl
    | 3, _ => obtain rfl : s3 = s := by simpa using hk
              show _ = _; kernel_rfl
    | 4, _ => obtain rfl : s4 = s := by simpa using hk
              show _ = _; kernel_rfl
    | 5, _ => obtain rfl : s5 = s := by simpa using hk
              show _ = _; kernel_rfl
    | 6, _ => obtain rfl : s6 = s := by simpa using hk
              show _ = _; kernel_rfl
    | 7, _ => obtain rfl : s7 = s := by simpa using hk
              show _ = _; kernel_rfl
    | 8, _ => obtain rfl : s8 = s := by simpa using hk
              show _ = _; kernel_rfl
theorem sd_range {w : World} {st mb : Nat} {sd : List Sv} (hw : w.heap[st]? = some (.cells (stRow mb sd) 96 (0, 0))) : w.rangeAt st 1 (sd.flatMap svc) := fun j v hv => by
  rw [cell_of_row _ _ _ _ 96 (0, 0) hw]
  unfold stRow
  rw [List.getElem?_toArray, show 1 + j = j + 1 by omega, List.getElem?_cons_succ]; exact hv
theorem flat_len : ∀ sd : List Sv, (sd.flatMap svc).length = sd.length * 4
  | [] => rfl
  | s :: r => by rw [List.flatMap_cons, List.length_append, flat_len r, List.length_cons, show (svc s).length = 4 from rfl]; omega
/-- What Said tells: in memory of the call's own. -/
def SaidsE (l : List (Sv × Nat)) (w : World) (e : Ending) (w' : World) : Prop := ∃ a cap, e = .returned (.slice a l.length cap) ∧ w'.ownsRow w.heap.size 87 5 (.slice a l.length cap) l.length (l.flatMap sdc) ∧ Ext w w'
theorem st_said {w0 w : World} {st mb : Nat} {m : Md} (hS : StM w0 w st mb m) : Calls Tryz.prog 16 #[.pointer (some ⟨st, 0, none⟩)] w (SaidsE (saidL m.sd) w) := by
  obtain ⟨_, _, _, _, _, hst, _⟩ := hS.at
  obtain ⟨rs, hX, _⟩ := id hS
  have hth := st_there hX
  have h9 := hS.len
  obtain ⟨sd, hsd⟩ : ∃ sd, sd = m.sd := ⟨_, rfl⟩
  rw [← hsd] at hst h9 ⊢
  have hrg := sd_range hst
  have hfl : (sd.flatMap svc).length = 36 := by rw [flat_len, h9]
  have hix := fun (k : Nat) (s : Sv) (hk : sd[k]? = some s) (W : World) => last_index h9 hk W
  obtain ⟨A, hA⟩ : ∃ A, A = (sd.flatMap svc).toArray := ⟨_, rfl⟩
  have hix' := Lib.hid hix
  have hinf : (Tryz.prog.info? 94).map (·.size) = some (sd.flatMap svc).length := by rw [hfl]; exact info_lasts
  have hinf' := Lib.hid hinf
  have h9' := Lib.hid h9
  have hA' := Lib.hid hA
  clear hS hX hst hsd hix hinf hfl hA h9
  go_enter Tryz.func16, Tryz.ntmps16
  go_wp2_with fail
  refine hth.mono ?_
  rintro e w' ⟨rfl, rfl⟩
  clear hth
  go_wp2_with (first | (refine wpList_load_mid (by rfl) 94 (.tmp 10) (by rfl) st 1 (by rfl) (sd.flatMap svc) _ hrg Tryz.underlying94 rfl hinf'.out ?_; rw [← hA'.out]) | fail)
  clear hrg
  go_loopw [2, 12] (fun out i wr => ∃ (k n : Nat) (a : Option Addr) (cap : Nat), k ≤ 9 ∧ i = .int .i64 k ∧ out = .slice a n cap ∧ Hid (n = (saidL (sd.take k)).length) ∧ wr.ownsRow w.heap.size 87 5 (.slice a n cap) n ((saidL (sd.take k)).flatMap sdc) ∧ Ext w wr) (fun _ i _ => 9 - (intOf i).toNat)
  case atStart => exact ⟨0, 0, none, 0, by omega, rfl, rfl, Lib.hid rfl, World.ownsRow_nil _ _ _ _, Ext.refl _⟩
  case round =>
    obtain ⟨k, n, oa, oc, hk, rfl, rfl, hn, hown, hE⟩ := hrel
    by_cases hlt : k < 9
    · have hli : (k : Int) < 9 := by omega
      obtain ⟨s, hs⟩ : ∃ s, sd[k]? = some s := ⟨_, List.getElem?_eq_getElem (by rw [h9'.out]; exact hlt)⟩
      have hi := hix'.out k s hs
      rw [← hA'.out] at hi
      have htk : sd.take (k + 1) = sd.take k ++ [s] := by rw [List.take_add_one, hs]; rfl
      have hsl := saidL_add (sd.take k) s
      rw [← htk, List.length_take, show min k sd.length = k by rw [h9'.out]; omega] at hsl
      have hn9 : n ≤ 9 := by rw [hn.out]; have := saidL_len (sd.take k); rw [List.length_take] at this; omega
      have hsl' := Lib.hid hsl
      clear hs htk hsl
      have hsz := hE.size
      by_cases hnum : 0 < s.num
      · have hni : (0 : Int) < (s.num : Int) := by omega
        have hwc : IntKind.u8.wrap (k : Int) = k := by rw [IntKind.wrap_u8]; omega
        have hk0 : 0 ≤ (k : Int) := by omega
        go_upto_region 7 with fail
        have hrw4 := heap_alloc_new wr (.cells #[.int .u32 (s.num : Int), .int .i64 s.e, .bool s.yes, .slice none 0 0] 93)
        have hX4 : Ext wr (wr.alloc (.cells #[.int .u32 (s.num : Int), .int .i64 s.e, .bool s.yes, .slice none 0 0] 93)) := (Ext.refl wr).alloc _
        have hG := World.ownsRow_lit (e := 93) (size := 4) wr #[.int .u32 (s.num : Int), .int .i64 s.e, .bool s.yes, .slice none 0 0] 1 hsz (by unfold maxLen; omega) rfl
        have hsep : Sep (.slice oa n oc) (.slice (some ⟨wr.heap.size, 0, none⟩) 1 1) := by
          intro g hg hg2
          have h1 := (hown.lt g hg).2
          simp [Value.ownBlock] at hg2
          omega
        have hown4 := hown.kept (grown_of_ext hX4) (Classical.em _)
        have hg4 : w.heap.size ≤ wr.heap.size := hsz
        have hE4 := hE.trans hX4
        clear hown hE hX4
        generalize wr.alloc (.cells #[.int .u32 (s.num : Int), .int .i64 s.e, .bool s.yes, .slice none 0 0] 93) = W4 at *
        generalize wr.heap.size = g at *
        have c0 : W4.cell? ⟨g, 0, none⟩ = some (.int .u32 (s.num : Int)) := by rw [cell_of_row _ _ 0 _ 93 (0, 0) hrw4]; rfl
        have c1 : W4.cell? ⟨g, 1, none⟩ = some (.int .i64 s.e) := by rw [cell_of_row _ _ 1 _ 93 (0, 0) hrw4]; rfl
        have c2 : W4.cell? ⟨g, 2, none⟩ = some (.bool s.yes) := by rw [cell_of_row _ _ 2 _ 93 (0, 0) hrw4]; rfl
        have c3 : W4.cell? ⟨g, 3, none⟩ = some (.slice none 0 0) := by rw [cell_of_row _ _ 3 _ 93 (0, 0) hrw4]; rfl
        have hSS : ∀ w', Ext W4 w' → w'.cell? ⟨g, 0, none⟩ = some (.int .u32 (s.num : Int)) ∧ w'.cell? ⟨g, 1, none⟩ = some (.int .i64 s.e) ∧ w'.cell? ⟨g, 2, none⟩ = some (.bool s.yes) ∧ w'.cell? ⟨g, 3, none⟩ = some (.slice none 0 0) := fun w' h => ⟨h.cell c0, h.cell c1, h.cell c2, h.cell c3⟩
        have hSS' := Lib.hid hSS
        have hG' := Lib.hid hG
        have hs4 := hE4.size
        have hown' := Lib.hid hown4
        clear hSS hG c0 c1 c2 c3 hrw4 hi hix' hown4
        go_region_held3 (fun w' => w'.cell? ⟨g, 0, none⟩ = some (.int .u32 (s.num : Int)) ∧ w'.cell? ⟨g, 1, none⟩ = some (.int .i64 s.e) ∧ w'.cell? ⟨g, 2, none⟩ = some (.bool s.yes) ∧ w'.cell? ⟨g, 3, none⟩ = some (.slice none 0 0)) (first | exact hSS'.out _ (Ext.refl W4).drew | exact hSS'.out _ hX2 | exact hSS'.out _ (hX2.alloc _) | exact hS3) (first | (go_at_call 43; refine (twin_lit _ s.e s.yes).mono ?_; rintro e w2 ⟨rfl, hE2⟩; have hX2 := (Ext.refl W4).drew.trans hE2; have hown2 := hown'.out.kept (grown_of_ext hX2) (Classical.em _); have hs2 := Nat.le_trans hs4 hX2.size) | ((refine step_append_sep rfl (.tmp 19) (.tmp 28) 23 87 rfl Tryz.underlying23 el_said w2 w.heap.size n _ _ (by rfl) hown2 #[.int .u8 (k : Int), .int .u32 (s.num : Int), .int .i64 s.e, .bool s.yes, .slice none 0 0] (by rfl) (by rfl) (by simp [Value.oneCell']) (by omega) (by omega) hs2 ?_); (intro v' w3 hown3 hb3 hk3); (obtain ⟨hG3, _⟩ := hk3 _ _ _ _ _ _ (hG'.out.kept (grown_of_ext hX2) (Classical.em _)) hsep); (have hS3 := And.intro (hG3.cellAt 0 (by decide)) (And.intro (hG3.cellAt 1 (by decide)) (And.intro (hG3.cellAt 2 (by decide)) (hG3.cellAt 3 (by decide))))); (have hE3 := (hE4.trans hX2).below.trans hb3)) | fail)
        all_goals
          obtain ⟨oa', oc', rfl, _⟩ := own_slice hown3
          have hfin : saidL (sd.take (k + 1)) = saidL (sd.take k) ++ [(s, k)] := by rw [hsl'.out, if_pos hnum]
          have hn2 : n + 1 = (saidL (sd.take (k + 1))).length := by rw [hfin, List.length_append, ← hn.out]; rfl
          have hn3 := Lib.hid hn2
          have hown6 : w3.ownsRow w.heap.size 87 5 (.slice oa' (n + 1) oc') (n + 1) ((saidL (sd.take (k + 1))).flatMap sdc) := by
            rw [hfin, List.flatMap_append]
            simpa [sdc] using hown3
          have hown7 := Lib.hid hown6
          clear hfin hn2 hown6 hown3 hS3 hG3 hown2
          go_wp2_with fail
          go_roundw
          case rel => exact ⟨k + 1, n + 1, oa', oc', by omega, by go_num, rfl, hn3.out, hown7.out, hE3⟩
          case measure => simp [intOf]; omega
      · have hni : ¬ (0 : Int) < (s.num : Int) := by omega
        have hfin : saidL (sd.take (k + 1)) = saidL (sd.take k) := by rw [hsl'.out, if_neg hnum]
        have hfin' := Lib.hid hfin
        have hX4 : Ext wr (wr.alloc (.cells #[.int .u32 (s.num : Int), .int .i64 s.e, .bool s.yes, .slice none 0 0] 93)) := (Ext.refl wr).alloc _
        have hown4 := hown.kept (grown_of_ext hX4) (Classical.em _)
        have hE4 := hE.trans hX4
        clear hfin hown hE hX4
        go_wp2_with fail
        go_roundw
        case rel => exact ⟨k + 1, n, oa, oc, by omega, by go_num, rfl, Lib.hid (by rw [hfin'.out]; exact hn.out), by rw [hfin'.out]; exact hown4, hE4⟩
        case measure => simp [intOf]; omega
    · have hli : ¬ (k : Int) < 9 := by omega
      have hkl : sd.take k = sd := List.take_of_length_le (by rw [h9'.out]; omega)
      rw [hkl] at hown hn
      clear hkl
      have hn2 := hn.out
      go_wp2_with fail
      go_ret
      exact ⟨oa, oc, by rw [← hn2]; rfl, by rw [← hn2]; exact hown, hE⟩
end Go.Proofs.YthageoibkeebhaaGreatDoor
