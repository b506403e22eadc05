/- A state's Said, whatever rows the kept replies have. No condition. -/
import Derived.Test.YthageoibkeebhaaGreatDoorGm1
namespace Go.Proofs.YthageoibkeebhaaGreatDoor
open Go.RowKit
set_option maxRecDepth 100000
set_option maxHeartbeats 4000000
theorem last_indexG {S : List Sa} (h : S.length = 9) {k : Nat} {s : Sa} (hk : S[k]? = some s) (w : World) : (Instr.index 94 (.agg (S.flatMap svg).toArray) (.int .i64 (k : Int))).run Tryz.prog w = .ok (.agg #[.int .u32 (s.num : Int), .int .i64 s.e, .bool s.yes, s.v]) w := by
  match S, h with
  | [s0, s1, s2, s3, s4, s5, s6, s7, s8], _ =>
    have hk9 : k < 9 := (List.getElem?_eq_some_iff.1 hk).1
    match k, hk9 with
    | 0, _ => obtain rfl : s0 = s := by simpa using hk
              show _ = _; kernel_rfl
    | 1, _ => obtain rfl : s1 = s := by simpa using hk
              show _ = _; kernel_rfl
    | 2, _ => obtain rfl : s2 = s := by simpa using hk
              show _ = _; kernel_rfl
    | 3, _ => obtain rfl : s3 = s := by simpa using hk
              show _ = _; kernel_rfl
    | 4, _ => obtain rfl : s4 = s := by simpa using hk
              show _ = _; kernel_rfl
    | 5, _ => obtain rfl : s5 = s := by simpa using hk
              show _ = _; kernel_rfl
    | 6, _ => obtain rfl : s6 = s := by simpa using hk
              show _ = _; kernel_rfl
    | 7, _ => obtain rfl : s7 = s := by simpa using hk
              show _ = _; kernel_rfl
    | 8, _ => obtain rfl : s8 = s := by simpa using hk
              show _ = _; kernel_rfl
theorem sg_range {w : World} {st mb : Nat} {S : List Sa} (hw : w.heap[st]? = some (.cells (stRowG mb S) 96 (0, 0))) : w.rangeAt st 1 (S.flatMap svg) := fun j v hv => by
  rw [cell_of_row _ _ _ _ 96 (0, 0) hw]
  unfold stRowG
  rw [List.getElem?_toArray, show 1 + j = j + 1 by omega, List.getElem?_cons_succ]; exact hv
theorem flat_lenG : ∀ S : List Sa, (S.flatMap svg).length = S.length * 4
  | [] => rfl
  | s :: r => by rw [List.flatMap_cons, List.length_append, flat_lenG r, List.length_cons, show (svg s).length = 4 from rfl]; omega
theorem saG_add (S : List Sa) (s : Sa) : saG (S ++ [s]) = if 0 < s.num then saG S ++ [s] else saG S := by
  unfold saG
  rw [List.filter_append]
  by_cases h : 0 < s.num
  · rw [if_pos h]; simp [h]
  · rw [if_neg h]; simp [h]
theorem row_kept_ty {w w' : World} {base : Nat} {e : TypeId} {z n : Nat} {v : Value} {xs : List Value} (ho : OwnC w base e z v n xs) (hg : w.grownBy w' v.ownBlock) {g : Nat} {c : Array Value} {t : TypeId} (h : w.heap[g]? = some (.cells c t (0, 0))) (hne : t ≠ e) : w'.heap[g]? = some (.cells c t (0, 0)) := by
  refine (hg.block g (Array.getElem?_eq_some_iff.1 h).1 (fun he => ?_)).trans h
  obtain ⟨d, hd⟩ := own_ty ho he.symm
  rw [h] at hd
  injection hd with hd
  injection hd with _ hd
  exact hne hd
/-- No two have their rows in one block. -/
def SaSep (sd : List Sa) : Prop := sd.Pairwise fun p q => ∀ b, p.v.ownBlock = some b → q.v.ownBlock ≠ some b
theorem SaSep.snoc {sd : List Sa} {x : Sa} {w : World} {base : Nat} (h : SaSep sd) (ho : SaOwn w base sd) (hx : ∀ b, x.v.ownBlock = some b → w.heap.size ≤ b) : SaSep (sd ++ [x]) := by
  unfold SaSep
  rw [List.pairwise_append]
  refine ⟨h, List.pairwise_singleton _ _, fun p hp q hq b hb hqb => ?_⟩
  rw [List.mem_singleton.1 hq] at hqb
  have h1 := ((ho p hp).lt b hb).2
  have h2 := hx b hqb
  omega
def SaidsY (sq : List Sa) (w : World) (e : Ending) (w' : World) : Prop := ∃ sd' a cap, e = .returned (.slice a sq.length cap) ∧ sd'.map Sa.bare = sq ∧ OwnC w' w.heap.size 87 5 (.slice a sq.length cap) sq.length (sd'.flatMap Sa.cells) ∧ SaOwn w' w.heap.size sd' ∧ SaSep sd' ∧ Ext w w'
theorem st_saidG {w0 w : World} {st mb : Nat} {l : List Rw} {S : List Sa} (hS : StG w0 w st mb l S) (hcl : ClsS S) (hrn : ∀ p ∈ saG S, p.rows.length ≤ 1000000) : Calls Tryz.prog 16 #[.pointer (some ⟨st, 0, none⟩)] w (SaidsY ((saG S).map Sa.bare) w) := by
  obtain ⟨_, h9, hst, hso⟩ := hS.row
  obtain ⟨rs, _, hhead⟩ := hS.head
  have hth := st_thereG (w0 := w0) (rs := rs) hhead
  have hrg := sg_range hst
  have hfl : (S.flatMap svg).length = 36 := by rw [flat_lenG, h9]
  have hix := fun (k : Nat) (s : Sa) (hk : S[k]? = some s) (W : World) => last_indexG h9 hk W
  obtain ⟨A, hA⟩ : ∃ A, A = (S.flatMap svg).toArray := ⟨_, rfl⟩
  have hix' := Lib.hid hix
  have hinf : (Tryz.prog.info? 94).map (·.size) = some (S.flatMap svg).length := by rw [hfl]; exact info_lasts
  have hinf' := Lib.hid hinf
  have h9' := Lib.hid h9
  have hA' := Lib.hid hA
  have hcl' := Lib.hid hcl
  have hrn' := Lib.hid hrn
  have hso' := Lib.hid hso
  clear hS hst hix hinf hfl hA h9 hcl hrn hso hhead
  go_enter Tryz.func16, Tryz.ntmps16
  go_wp2_with fail
  refine hth.mono ?_
  rintro e w' ⟨rfl, rfl⟩
  clear hth
  go_wp2_with (first | (refine wpList_load_mid (by rfl) 94 (.tmp 10) (by rfl) st 1 (by rfl) (S.flatMap svg) _ hrg Tryz.underlying94 rfl hinf'.out ?_; rw [← hA'.out]) | fail)
  clear hrg
  go_loopw [2, 12] (fun out i wr => ∃ (k n : Nat) (a : Option Addr) (cap : Nat) (sd' : List Sa), k ≤ 9 ∧ i = .int .i64 k ∧ out = .slice a n cap ∧ Hid (n = (saG (S.take k)).length ∧ n ≤ k ∧ sd'.map Sa.bare = (saG (S.take k)).map Sa.bare) ∧ OwnC wr w.heap.size 87 5 (.slice a n cap) n (sd'.flatMap Sa.cells) ∧ Hid (SaOwn wr w.heap.size sd' ∧ SaSep sd') ∧ Ext w wr) (fun _ i _ => 9 - (intOf i).toNat)
  case atStart => exact ⟨0, 0, none, 0, [], by omega, rfl, rfl, Lib.hid ⟨rfl, Nat.le_refl _, rfl⟩, OwnC.nil _ _ _ _, Lib.hid ⟨SaOwn.nil _ _, List.Pairwise.nil⟩, Ext.refl _⟩
  case round =>
    obtain ⟨k, n, oa, oc, sd', hk, rfl, rfl, hn, hown, hvs, hE⟩ := hrel
    have hnk := hn.out.2.1
    by_cases hlt : k < 9
    · have hli : (k : Int) < 9 := by omega
      obtain ⟨s, hs⟩ : ∃ s, S[k]? = some s := ⟨_, List.getElem?_eq_getElem (by rw [h9'.out]; exact hlt)⟩
      have hi := hix'.out k s hs
      rw [← hA'.out] at hi
      obtain ⟨va, vc, hv, _⟩ := (hso'.out s (List.mem_of_getElem? hs)).form
      have hvr : Hid (∀ W, Ext w W → RowIs W 2 (.slice va s.rows.length vc) s.rows.length (s.rows.flatMap rwL)) := Lib.hid (fun W hW => by rw [← hv]; exact ((hso'.out s (List.mem_of_getElem? hs)).ext hW).row)
      rw [hv] at hi
      have hsn0 : Hid (0 < s.num → s.rows.length ≤ 1000000) := Lib.hid (fun h0 => hrn'.out s (List.mem_filter.2 ⟨List.mem_of_getElem? hs, by simpa using h0⟩))
      have htk : S.take (k + 1) = S.take k ++ [s] := by rw [List.take_add_one, hs]; rfl
      have hsl : Hid (saG (S.take (k + 1)) = if 0 < s.num then saG (S.take k) ++ [s] else saG (S.take k)) := Lib.hid (by rw [htk, saG_add])
      have hck : Hid (s.cl = k) := Lib.hid (hcl'.out k s hs)
      clear hs htk hv
      have hsz := hE.size
      have hX4 : Ext wr (wr.alloc (.cells #[.int .u32 (s.num : Int), .int .i64 s.e, .bool s.yes, .slice va s.rows.length vc] 93)) := (Ext.refl wr).alloc _
      by_cases hnum : 0 < s.num
      · have hni : (0 : Int) < (s.num : Int) := by omega
        have hsn := hsn0.out hnum
        have hwc : IntKind.u8.wrap (k : Int) = k := by rw [IntKind.wrap_u8]; omega
        have hk0 : 0 ≤ (k : Int) := by omega
        go_upto_region 7 with fail
        have hrw4 := heap_alloc_new wr (.cells #[.int .u32 (s.num : Int), .int .i64 s.e, .bool s.yes, .slice va s.rows.length vc] 93)
        have hown4 := hown.ext hX4
        have hvs4 := Lib.hid (And.intro (hvs.out.1.ext hX4) hvs.out.2)
        have hg4 : w.heap.size ≤ wr.heap.size := hsz
        have hE4 := hE.trans hX4
        clear hown hE hX4 hvs
        generalize wr.alloc _ = W4 at *
        generalize wr.heap.size = g at *
        have c0 : W4.cell? ⟨g, 0, none⟩ = some (.int .u32 (s.num : Int)) := by rw [cell_of_row _ _ 0 _ 93 (0, 0) hrw4]; rfl
        have c1 : W4.cell? ⟨g, 1, none⟩ = some (.int .i64 s.e) := by rw [cell_of_row _ _ 1 _ 93 (0, 0) hrw4]; rfl
        have c2 : W4.cell? ⟨g, 2, none⟩ = some (.bool s.yes) := by rw [cell_of_row _ _ 2 _ 93 (0, 0) hrw4]; rfl
        have c3 : W4.cell? ⟨g, 3, none⟩ = some (.slice va s.rows.length vc) := by rw [cell_of_row _ _ 3 _ 93 (0, 0) hrw4]; rfl
        have hSS : Hid (∀ w' : World, w'.heap[g]? = some (.cells #[.int .u32 (s.num : Int), .int .i64 s.e, .bool s.yes, .slice va s.rows.length vc] 93 (0, 0)) → w'.cell? ⟨g, 0, none⟩ = some (.int .u32 (s.num : Int)) ∧ w'.cell? ⟨g, 1, none⟩ = some (.int .i64 s.e) ∧ w'.cell? ⟨g, 2, none⟩ = some (.bool s.yes) ∧ w'.cell? ⟨g, 3, none⟩ = some (.slice va s.rows.length vc)) := Lib.hid (fun w' h => ⟨by rw [cell_of_row _ _ 0 _ 93 (0, 0) h]; rfl, by rw [cell_of_row _ _ 1 _ 93 (0, 0) h]; rfl, by rw [cell_of_row _ _ 2 _ 93 (0, 0) h]; rfl, by rw [cell_of_row _ _ 3 _ 93 (0, 0) h]; rfl⟩)
        have hrw4' := Lib.hid hrw4
        have hs4 := hE4.size
        have hown' := Lib.hid hown4
        clear c0 c1 c2 c3 hrw4 hi hix' hown4
        go_region_held3 (fun w' => w'.cell? ⟨g, 0, none⟩ = some (.int .u32 (s.num : Int)) ∧ w'.cell? ⟨g, 1, none⟩ = some (.int .i64 s.e) ∧ w'.cell? ⟨g, 2, none⟩ = some (.bool s.yes) ∧ w'.cell? ⟨g, 3, none⟩ = some (.slice va s.rows.length vc)) (first | exact hSS.out _ ((Ext.refl W4).drew.row hrw4'.out) | exact hSS.out _ (hX2.row hrw4'.out) | exact hSS.out _ ((hX2.alloc _).row hrw4'.out) | exact hS3) (first | (go_at_call 43; refine (twin_litG _ s.e s.yes s.rows va vc (hvr.out _ (hE4.trans (Ext.refl W4).drew)) hsn).mono ?_; rintro e w2 ⟨a2, c2, rfl, ho2, hE2⟩; have hX2 := (Ext.refl W4).drew.trans hE2; have hown2 := hown'.out.ext hX2; have hs2 := Nat.le_trans hs4 hX2.size; have ho2' := Lib.hid ho2; clear ho2) | ((refine step_append_c rfl (.tmp 19) (.tmp 28) 23 87 rfl Tryz.underlying23 el_said w2 w.heap.size n _ (.slice oa n oc) (by rfl) hown2 #[.int .u8 (k : Int), .int .u32 (s.num : Int), .int .i64 s.e, .bool s.yes, .slice a2 s.rows.length c2] (by rfl) (by rfl) (by simp [Value.oneCell']) (by omega) (by omega) hs2 ?_); (intro v' w3 hA3); (have hgr3 := hA3.grown); (have hS3 := hSS.out _ (row_kept_ty hown2 hgr3 (hX2.row hrw4'.out) (by decide))); (have hE3 : Ext w w3 := Below.trans (hE4.trans hX2) hA3.below); (have hgr3' := Lib.hid hgr3); (have ho3 := Lib.hid hA3.own); (clear hgr3 hA3)) | fail)
        all_goals
          obtain ⟨oa', oc', rfl, _⟩ := ho3.out.form
          have hfin : saG (S.take (k + 1)) = saG (S.take k) ++ [s] := by rw [hsl.out, if_pos hnum]
          have hn2 : Hid (n + 1 = (saG (S.take (k + 1))).length ∧ n + 1 ≤ k + 1 ∧ (sd' ++ [(⟨k, s.num, s.e, s.yes, s.rows, .slice a2 s.rows.length c2⟩ : Sa)]).map Sa.bare = (saG (S.take (k + 1))).map Sa.bare) := Lib.hid (by
            refine ⟨by rw [hfin, List.length_append, ← hn.out.1]; rfl, by omega, ?_⟩
            rw [hfin, List.map_append, List.map_append, hn.out.2.2]
            show _ ++ [_] = _ ++ [_]
            rw [show s.bare = ⟨k, s.num, s.e, s.yes, s.rows, .slice none 0 0⟩ by unfold Sa.bare; rw [hck.out]]
            rfl)
          have hvs3 : Hid (SaOwn w3 w.heap.size (sd' ++ [(⟨k, s.num, s.e, s.yes, s.rows, .slice a2 s.rows.length c2⟩ : Sa)]) ∧ SaSep (sd' ++ [(⟨k, s.num, s.e, s.yes, s.rows, .slice a2 s.rows.length c2⟩ : Sa)])) := Lib.hid (by
            have h1 : SaOwn w2 w.heap.size sd' := hvs4.out.1.ext hX2
            refine ⟨SaOwn.snoc (fun p hp => own_kept_ty (by decide) (h1 p hp) hown2 hgr3'.out) (own_kept_ty (by decide) (ho2'.out.weak hs4) hown2 hgr3'.out), ?_⟩
            exact SaSep.snoc hvs4.out.2 hvs4.out.1 (fun b hb => (ho2'.out.lt b hb).1))
          have ho7 : Hid (OwnC w3 w.heap.size 87 5 (.slice oa' (n + 1) oc') (n + 1) ((sd' ++ [(⟨k, s.num, s.e, s.yes, s.rows, .slice a2 s.rows.length c2⟩ : Sa)]).flatMap Sa.cells)) := Lib.hid (by rw [List.flatMap_append]; exact ho3.out)
          clear hfin ho3 hS3 hown2 ho2' hgr3' hX2 hE2
          go_wp2_with fail
          go_roundw
          case rel => exact ⟨k + 1, n + 1, oa', oc', _, by omega, by go_num, rfl, hn2, ho7.out, hvs3, hE3⟩
          case measure => simp [intOf]; omega
      · have hni : ¬ (0 : Int) < (s.num : Int) := by omega
        have hfin : saG (S.take (k + 1)) = saG (S.take k) := by rw [hsl.out, if_neg hnum]
        have hn2 : Hid (n = (saG (S.take (k + 1))).length ∧ n ≤ k + 1 ∧ sd'.map Sa.bare = (saG (S.take (k + 1))).map Sa.bare) := Lib.hid (by rw [hfin]; exact ⟨hn.out.1, by omega, hn.out.2.2⟩)
        have hown4 := hown.ext hX4
        have hvs4 := Lib.hid (And.intro (hvs.out.1.ext hX4) hvs.out.2)
        have hE4 := hE.trans hX4
        clear hfin hown hE hX4 hvs
        go_wp2_with fail
        go_roundw
        case rel => exact ⟨k + 1, n, oa, oc, sd', by omega, by go_num, rfl, hn2, hown4, hvs4, hE4⟩
        case measure => simp [intOf]; omega
    · have hli : ¬ (k : Int) < 9 := by omega
      have hkl : S.take k = S := List.take_of_length_le (by rw [h9'.out]; omega)
      rw [hkl] at hn
      clear hkl
      go_wp2_with fail
      go_ret
      have hn2 : n = ((saG S).map Sa.bare).length := by rw [List.length_map]; exact hn.out.1
      exact ⟨sd', oa, oc, by rw [← hn2]; rfl, hn.out.2.2, by rw [← hn2]; exact hown, hvs.out.1, hvs.out.2, hE⟩
end Go.Proofs.YthageoibkeebhaaGreatDoor
