/- A state whose kept replies may have rows (StG); there, Rows. (Printed by gsg.py.) No condition. -/
import Derived.Test.YthageoibkeebhaaGreatDoorGrP
import Derived.Test.YthageoibkeebhaaGreatDoorGrB
import Derived.Test.YthageoibkeebhaaGreatDoorMod16
namespace Go.Proofs.YthageoibkeebhaaGreatDoor
open Go.RowKit Go.Maps Go.WideMaps
set_option maxRecDepth 100000
set_option maxHeartbeats 2000000
def svg (p : Sa) : List Value := [.int .u32 (p.num : Int), .int .i64 p.e, .bool p.yes, p.v]
def stRowG (mb : Nat) (S : List Sa) : Array Value := (.map (some mb) :: S.flatMap svg).toArray
def zSa : List Sa := (List.range 9).map fun i => ⟨i, 0, 0, false, [], .slice none 0 0⟩
/-- Each place is its client's. -/
def ClsS (S : List Sa) : Prop := ∀ (i : Nat) (s : Sa), S[i]? = some s → s.cl = i
def StG (w0 w : World) (st mb : Nat) (l : List Rw) (S : List Sa) : Prop := Ext w0 w ∧ S.length = 9 ∧ ∃ rs, rs.map Prod.fst = l ∧ MapAt w w0.heap.size mb rs ∧ w0.heap.size ≤ st ∧ st ≠ mb ∧ (∀ p ∈ rs, p.2 ≠ st) ∧ w.heap[st]? = some (.cells (stRowG mb S) 96 (0, 0)) ∧ SaOwn w w0.heap.size S
theorem zSa_row (mb : Nat) : stRow mb zSd = stRowG mb zSa := rfl
theorem zSa_cls : ClsS zSa := fun i s h => by
  unfold zSa at h
  rw [List.getElem?_map] at h
  obtain ⟨j, hj, rfl⟩ := Option.map_eq_some_iff.1 h
  obtain ⟨h1, h2⟩ := List.getElem?_eq_some_iff.1 hj
  rw [List.getElem_range] at h2
  exact h2.symm
theorem zSa_num {i : Nat} {s : Sa} (h : zSa[i]? = some s) : s.num = 0 := by
  unfold zSa at h
  rw [List.getElem?_map] at h
  obtain ⟨j, hj, rfl⟩ := Option.map_eq_some_iff.1 h
  rfl
/-- What is told of them: those that are filled. -/
def saG (S : List Sa) : List Sa := S.filter fun p => decide (0 < p.num)
theorem keepGo : ∀ (S : List Sa) (o i : Nat) (x : Sa), (∀ j s, S[j]? = some s → s.cl = o + j) → x.cl = o + i → i < S.length → 0 < x.num → keepS (saG S) x = saG (S.set i x)
  | [], _, _, _, _, _, h, _ => by simp at h
  | a :: r, o, 0, x, hc, hx, _, hn => by
    have ha := hc 0 a rfl
    have hge : ∀ p ∈ saG r, x.cl < p.cl := fun p hp => by
      obtain ⟨hp, _⟩ := List.mem_filter.1 hp
      obtain ⟨j, hj⟩ := List.mem_iff_getElem?.1 hp
      have := hc (j + 1) p hj
      omega
    rw [List.set_cons_zero]
    have e1 : saG (x :: r) = x :: saG r := by unfold saG; rw [List.filter_cons, if_pos (by simpa using hn)]
    rw [e1]
    by_cases h0 : 0 < a.num
    · have e2 : saG (a :: r) = a :: saG r := by unfold saG; rw [List.filter_cons, if_pos (by simpa using h0)]
      rw [e2]
      unfold keepS
      have h2 : lessS x.cl a = false := decide_eq_false (by omega)
      rw [List.takeWhile_cons, if_neg (by rw [h2]; simp), List.dropWhile_cons, if_neg (by rw [h2]; simp)]
      have h3 : pastS x.cl (a :: saG r) = saG r := if_pos (by omega)
      rw [h3]; rfl
    · have e2 : saG (a :: r) = saG r := by unfold saG; rw [List.filter_cons, if_neg (by simpa using h0)]
      rw [e2]
      exact keepS_front hge
  | a :: r, o, i + 1, x, hc, hx, h, hn => by
    have ha := hc 0 a rfl
    have ih := keepGo r (o + 1) i x (fun j s hs => by have := hc (j + 1) s hs; omega) (by omega) (by simpa using h) hn
    rw [List.set_cons_succ]
    by_cases h0 : 0 < a.num
    · have e2 : saG (a :: r) = a :: saG r := by unfold saG; rw [List.filter_cons, if_pos (by simpa using h0)]
      have e3 : saG (a :: r.set i x) = a :: saG (r.set i x) := by unfold saG; rw [List.filter_cons, if_pos (by simpa using h0)]
      rw [e2, e3, ← ih]
      unfold keepS
      have h2 : lessS x.cl a = true := decide_eq_true (by omega)
      rw [List.takeWhile_cons, if_pos h2, List.dropWhile_cons, if_pos h2]
      rfl
    · have e2 : saG (a :: r) = saG r := by unfold saG; rw [List.filter_cons, if_neg (by simpa using h0)]
      have e3 : saG (a :: r.set i x) = saG (r.set i x) := by unfold saG; rw [List.filter_cons, if_neg (by simpa using h0)]
      rw [e2, e3]
      exact ih
theorem keepG {S : List Sa} (hc : ClsS S) {x : Sa} (hx : x.cl < S.length) (hn : 0 < x.num) : keepS (saG S) x = saG (S.set x.cl x) := keepGo S 0 x.cl x (fun j s h => by rw [hc j s h]; omega) (by omega) hx hn
theorem cls_set {S : List Sa} (hc : ClsS S) (x : Sa) : ClsS (S.set x.cl x) := fun i s h => by
  by_cases e : x.cl = i
  · subst e
    have hl : x.cl < S.length := by have := (List.getElem?_eq_some_iff.1 h).1; rwa [List.length_set] at this
    rw [List.getElem?_set_self hl] at h
    injection h with h
    rw [h]
  · rw [List.getElem?_set_ne e] at h
    exact hc i s h
theorem flat_setG : ∀ (S : List Sa) (c : Nat) (x : Sa), c < S.length → (S.set c x).flatMap svg = (S.flatMap svg).take (c * 4) ++ svg x ++ (S.flatMap svg).drop (c * 4 + 4)
  | [], _, _, h => by simp at h
  | a :: r, 0, x, _ => by
    rw [List.set_cons_zero, List.flatMap_cons, List.flatMap_cons]
    rw [show 0 * 4 = 0 from rfl, List.take_zero, List.nil_append, show 0 + 4 = (svg a).length from rfl, List.drop_left]
  | a :: r, c + 1, x, h => by
    rw [List.set_cons_succ, List.flatMap_cons, flat_setG r c x (by simpa using h), List.flatMap_cons, show (c + 1) * 4 = (svg a).length + c * 4 by show _ = 4 + c * 4; omega, Nat.add_assoc, List.take_length_add_append, List.drop_length_add_append]
    simp only [List.append_assoc]
theorem StG.ext {w0 w w' : World} {st mb : Nat} {l : List Rw} {S : List Sa} (h : StG w0 w st mb l S) (he : Ext w w') : StG w0 w' st mb l S := by
  obtain ⟨h1, h2, rs, h3, h4, h5, h6, h7, h8, h9⟩ := h
  exact ⟨h1.trans he, h2, rs, h3, h4.ext he, h5, h6, h7, he.row h8, h9.ext he⟩
theorem StG.ground {w0 w : World} {st mb : Nat} {l : List Rw} {S : List Sa} (h : StG w0 w st mb l S) : Ext w0 w := h.1
theorem StM.toG {w0 w : World} {st mb : Nat} {l : List Rw} (h : StM w0 w st mb ⟨l, zSd⟩) : StG w0 w st mb l zSa := by
  obtain ⟨_, _, _, _, _, b6, _⟩ := h.at
  obtain ⟨rs, ⟨c0, c1, mb2, c2, c3, c4, c5, c6⟩, c7, c8⟩ := h
  rw [cell_of_row _ _ 0 _ 96 (0, 0) c6] at c8
  obtain rfl : mb = mb2 := by simpa [stRow] using c8.symm
  refine ⟨c0, rfl, rs, c7, c2, c3, c4, c5, c6, fun p hp => ?_⟩
  obtain ⟨j, hj⟩ := List.mem_iff_getElem?.1 hp
  unfold zSa at hj
  rw [List.getElem?_map] at hj
  obtain ⟨i, _, rfl⟩ := Option.map_eq_some_iff.1 hj
  exact OwnC.nil _ _ _ _
theorem StG.head {w0 w : World} {st mb : Nat} {l : List Rw} {S : List Sa} (h : StG w0 w st mb l S) : ∃ rs, rs.map Prod.fst = l ∧ ∃ mb, MapAt w w0.heap.size mb rs ∧ w.cell? ⟨st, 0, none⟩ = some (.map (some mb)) := by
  obtain ⟨h1, h2, rs, h3, h4, h5, h6, h7, h8, h9⟩ := h
  exact ⟨rs, h3, mb, h4, by rw [cell_of_row _ _ 0 _ 96 (0, 0) h8]; rfl⟩
theorem StG.row {w0 w : World} {st mb : Nat} {l : List Rw} {S : List Sa} (h : StG w0 w st mb l S) : w0.heap.size ≤ st ∧ S.length = 9 ∧ w.heap[st]? = some (.cells (stRowG mb S) 96 (0, 0)) ∧ SaOwn w w0.heap.size S := by
  obtain ⟨h1, h2, rs, h3, h4, h5, h6, h7, h8, h9⟩ := h
  exact ⟨h5, h2, h8, h9⟩
theorem svg_len (p : Sa) : (svg p).length = 4 := rfl
theorem sg_cell {w : World} {st mb : Nat} {S : List Sa} (h : w.heap[st]? = some (.cells (stRowG mb S) 96 (0, 0))) {c j : Nat} {s : Sa} (hs : S[c]? = some s) (hj : j < 4) : w.cell? ⟨st, 1 + c * 4 + j, none⟩ = (svg s)[j]? := by
  rw [cell_of_row _ _ _ _ 96 (0, 0) h]
  unfold stRowG
  rw [List.getElem?_toArray, show 1 + c * 4 + j = (c * 4 + j) + 1 by omega, List.getElem?_cons_succ]
  exact flatMap_at svg 4 (by decide) svg_len S c s hs j hj _ rfl
theorem StG.say {w0 w : World} {st mb : Nat} {l : List Rw} {S : List Sa} (h : StG w0 w st mb l S) (x : Sa) (hc : x.cl < 9) (hx : OwnC w w0.heap.size 84 2 x.v x.rows.length (x.rows.flatMap rwL)) : StG w0 (w.setCells st (1 + x.cl * 4) (svg x)) st mb l (S.set x.cl x) := by
  obtain ⟨h1, h2, rs, h3, h4, h5, h6, h7, h8, h9⟩ := h
  have ho := setCells_off (b := st) (svg x) (1 + x.cl * 4) w
  have hfl : (S.flatMap svg).length = 36 := by
    have : ∀ S : List Sa, (S.flatMap svg).length = S.length * 4 := fun S => by
      induction S with
      | nil => rfl
      | cons a r ih => rw [List.flatMap_cons, List.length_append, ih, List.length_cons, Nat.add_mul]; show 4 + _ = _; omega
    rw [this, h2]
  have hrow := setCells_heap st 96 (0, 0) (svg x) (1 + x.cl * 4) w _ h8 (by unfold stRowG; show 1 + x.cl * 4 + 4 ≤ _; simp [hfl]; omega)
  have hrow2 : (w.setCells st (1 + x.cl * 4) (svg x)).heap[st]? = some (.cells (stRowG mb (S.set x.cl x)) 96 (0, 0)) := by
    rw [hrow]
    unfold stRowG
    rw [flat_setG S x.cl x (by omega)]
    show some (Obj.cells (((Value.map (some mb) :: S.flatMap svg).take (1 + x.cl * 4) ++ svg x ++ (Value.map (some mb) :: S.flatMap svg).drop (1 + x.cl * 4 + 4)).toArray) _ _) = _
    rw [show 1 + x.cl * 4 = x.cl * 4 + 1 by omega, List.take_succ_cons, show x.cl * 4 + 1 + 4 = (x.cl * 4 + 4) + 1 by omega, List.drop_succ_cons]
    rfl
  have hst := (Array.getElem?_eq_some_iff.1 h8).1
  have hown : ∀ {e : TypeId} {z n : Nat} {v : Value} {xs : List Value}, e ≠ 96 → OwnC w w0.heap.size e z v n xs → OwnC (w.setCells st (1 + x.cl * 4) (svg x)) w0.heap.size e z v n xs := fun he hw => hw.offB ho (fun q hq hB => by
    obtain ⟨c, hc⟩ := own_ty hw hq
    have hB : q = st := hB
    rw [hB, h8] at hc
    injection hc with hc
    injection hc with _ hc
    exact he hc.symm)
  refine ⟨Below.trans h1 (ho.below (fun k hk => by rw [hk]; exact h5) h1.size), by rw [List.length_set]; exact h2, rs, h3, ⟨?_, h4.2.1, fun p hp => ?_⟩, h5, h6, h7, hrow2, fun p hp => hown (by decide) ?_⟩
  · obtain ⟨es2, cl2, d1, d2⟩ := h4.1
    exact ⟨es2, cl2, (ho.block mb (Array.getElem?_eq_some_iff.1 d1).1 (fun e => h6 e.symm)).trans d1, d2⟩
  · obtain ⟨d1, d2, d3⟩ := h4.2.2 p hp
    exact ⟨d1, d2, (ho.block p.2 (Array.getElem?_eq_some_iff.1 d3).1 (h7 p hp)).trans d3⟩
  · rcases List.mem_or_eq_of_mem_set hp with hp | rfl
    · exact h9 p hp
    · exact hx
theorem sg_cells {w : World} {st mb : Nat} {S : List Sa} (h : w.heap[st]? = some (.cells (stRowG mb S) 96 (0, 0))) {c : Nat} {s : Sa} (hs : S[c]? = some s) : w.cell? ⟨st, 1 + c * 4, none⟩ = some (.int .u32 (s.num : Int)) ∧ w.cell? ⟨st, 1 + c * 4 + 1, none⟩ = some (.int .i64 s.e) ∧ w.cell? ⟨st, 1 + c * 4 + 2, none⟩ = some (.bool s.yes) ∧ w.cell? ⟨st, 1 + c * 4 + 3, none⟩ = some s.v :=
  ⟨sg_cell h hs (j := 0) (by decide), sg_cell h hs (j := 1) (by decide), sg_cell h hs (j := 2) (by decide), sg_cell h hs (j := 3) (by decide)⟩
theorem sg_there {w : World} {st mb : Nat} {S : List Sa} (h : w.heap[st]? = some (.cells (stRowG mb S) 96 (0, 0))) {c : Nat} (hc : c < S.length) : w.there st (1 + c * 4) 4 := fun j hj => by
  refine ⟨?_, by unfold World.frozen?; rw [h]; simp⟩
  rw [sg_cell h (List.getElem?_eq_getElem hc) hj, List.getElem?_eq_getElem (by exact hj)]
  rfl
theorem st_thereG {w0 w : World} {st : Nat} {rs : List (Rw × Nat)} (h : ∃ mb, MapAt w w0.heap.size mb rs ∧ w.cell? ⟨st, 0, none⟩ = some (.map (some mb))) : Calls Tryz.prog 54 #[.pointer (some ⟨st, 0, none⟩)] w fun e w' => e = .returned (.bool true) ∧ w = w' := by
  obtain ⟨mb, _, h2⟩ := h
  have hm : ∀ w, _ := fun w => run_neq_map_nil (P := Tryz.prog) w 91 9 90 (some mb) Tryz.underlying91
  go_enter Tryz.func54, Tryz.ntmps54
  go_wp2
  go_ret
  exact ⟨rfl, rfl⟩
theorem st_rowsG {w0 w : World} {st : Nat} {rs : List (Rw × Nat)} (hS : ∃ mb, MapAt w w0.heap.size mb rs ∧ w.cell? ⟨st, 0, none⟩ = some (.map (some mb))) (hn : rs.length ≤ 1000000) (hks : ∀ p ∈ rs, p.1.key.size ≤ 140737488351232) : Calls Tryz.prog 15 #[.pointer (some ⟨st, 0, none⟩)] w (RowsE (rs.map Prod.fst) w) := by
  obtain ⟨mb, hM, hc0⟩ := id hS
  have hr := hM.rise
  have hkeys := fun (W : World) => callsIn_wide.1 (Tryz.maps_Keys_56 (some mb) W)
  have hS' := Lib.hid hS
  have hM' := Lib.hid hM
  have hr' := Lib.hid hr
  have hks' := Lib.hid hks
  have hkeys' := Lib.hid hkeys
  clear hS hM hr hks hkeys
  go_enter Tryz.func15, Tryz.ntmps15
  go_wp2_with fail
  refine (st_thereG hS'.out).mono ?_
  rintro e w' ⟨rfl, rfl⟩
  go_wp2_with fail
  refine (hkeys'.out _).mono ?_
  rintro e w1 ⟨rfl, rfl⟩
  have hE1 : Ext w (w.alloc (.cells #[.map (some mb)] 91)) := (Ext.refl _).alloc _
  have hsort : Calls Tryz.prog 55 #[.func (.func 118) #[] #[.pointer (some ⟨w.heap.size, 0, none⟩)]] (w.alloc (.cells #[.map (some mb)] 91)) fun e w' => ∃ ka kc, e = .returned (.slice ka rs.length kc) ∧ RowIs w' 1 (.slice ka rs.length kc) rs.length (rs.map fun p => .string p.1.key) ∧ Ext w w' := by
    refine (callsIn_wide.1 (Tryz.slices_Sorted_keys_55_56 mb rs.length (dOf rs) rdP w hM'.out.1 (by rw [dOf_size]; unfold maxLen; omega) (by rw [dOf_size]; omega))).mono ?_
    rintro e w2 ⟨v, ss, rfl, hp, ho, _, hB⟩
    have hlen : ss.length = rs.length := by rw [hp.length_eq, dOf_keys, List.length_map]
    rw [sort_keys hr'.out hp, hlen] at ho
    obtain ⟨ka, kc, rfl, _⟩ := own_slice ho
    refine ⟨ka, kc, rfl, ?_, hE1.trans hB⟩
    have := RowIs.of_own ho
    rw [List.map_map] at this
    exact this
  have hsort' := Lib.hid hsort
  clear hsort
  go_wp2_with fail
  refine hsort'.out.mono ?_
  clear hsort' hE1 hkeys'
  rintro e w2 ⟨ka, kc, rfl, hK, hE2⟩
  have hK' := Lib.hid hK
  clear hK
  go_wp2_with fail
  go_loopw [2, 15] (fun out i wr => ∃ k : Nat, k ≤ rs.length ∧ i = .int .i64 k ∧ wr.ownsRow w2.heap.size 84 2 out k (((rs.take k).map Prod.fst).flatMap rwL) ∧ Ext w2 wr) (fun _ i _ => rs.length - (intOf i).toNat)
  case atStart => exact ⟨0, by omega, rfl, World.ownsRow_nil _ _ _ _, Ext.refl _⟩
  case round =>
    obtain ⟨k, hk, rfl, hown, hE⟩ := hrel
    obtain ⟨oa, ocap, rfl, hoc⟩ := own_slice hown
    by_cases hlt : k < rs.length
    · have hli : (k : Int) < (rs.length : Int) := by omega
      obtain ⟨p, hp⟩ : ∃ p, rs[k]? = some p := ⟨_, List.getElem?_eq_getElem hlt⟩
      have hpm := List.mem_of_getElem? hp
      have hEw := hE2.trans hE
      have hlk := (hM'.out.ext hEw).look p.1.key (hks'.out p hpm)
      rw [find_key hr'.out hp] at hlk
      simp only [Option.map_some] at hlk
      have hrg := row_range (hEw.row (hM'.out.2.2 p hpm).2.2)
      have hc1 := hEw.cell hc0
      obtain ⟨b, off, hat⟩ := (hK'.out.ext hE).at
      obtain ⟨rfl, _, hd⟩ := hat (by omega)
      have hkc := hd k (by omega)
      rw [List.getElem?_map, hp] at hkc
      simp only [Option.map_some] at hkc
      have htk : rs.take (k + 1) = rs.take k ++ [p] := by rw [List.take_add_one, hp]; rfl
      have htk' := Lib.hid htk
      have hsz := hE.size
      have hpk := Lib.hid hp
      clear hat hd hp htk hpm
      go_wp2_with (first | (refine wpList_load_mid (by rfl) 84 (.tmp 26) (by rfl) p.2 0 (by rfl) (rowR p.1).toList _ hrg Tryz.underlying84 rfl (by exact info_row) ?_) | (refine wpList_bs_row (by rfl) (.tmp 27) (by rfl) p.1 (by rfl) ?_) | (at_builtin; refine wpList_append_lit (by rfl) (.tmp 19) (.tmp 28) 22 84 (by rfl) Tryz.underlying22 el_row wr w2.heap.size k _ (.slice oa k ocap) (by rfl) hown (rowR p.1) (by rfl) (by rfl) (fun u hu => Array.all_eq_true_iff_forall_mem.1 (rowR_one p.1) u (by simpa using hu)) (by omega) (by omega) hsz ?_; go_loud (intro v' w3 hown2 hbel; have hX3 : Ext w2 w3 := Below.trans hE hbel)) | fail)
      go_roundw
      case rel =>
        refine ⟨k + 1, by omega, by go_num, ?_, hX3⟩
        rw [htk'.out, List.map_append, List.flatMap_append]
        simpa [rwL, rowR] using hown2
      case measure => simp [intOf]; omega
    · have hli : ¬ (k : Int) < (rs.length : Int) := by omega
      have hkl : rs.take k = rs := List.take_of_length_le (by omega)
      obtain rfl : k = rs.length := by omega
      rw [hkl] at hown
      clear hkl
      go_wp2_with fail
      go_ret
      have hl : (rs.map Prod.fst).length = rs.length := List.length_map ..
      exact ⟨oa, ocap, by rw [hl]; rfl, by rw [hl]; exact hoc, by rw [hl]; exact ownsRow_base_a hown hE2.size, hE2.trans hE⟩
end Go.Proofs.YthageoibkeebhaaGreatDoor
