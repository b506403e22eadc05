/- Several texts in one: Gm0 Gm1 Gm2. No condition. -/
import Derived.Test.YthageoibkeebhaaGreatDoorGrP
import Derived.Test.YthageoibkeebhaaGreatDoorGrB
import Derived.Test.YthageoibkeebhaaGreatDoorMod16
import Derived.Test.YthageoibkeebhaaGreatDoorGrL
import Derived.StillTailTactics
/- A state whose kept replies may have rows (StG); there, Rows. (Printed by gsg.py.) No condition. -/
namespace Go.Proofs.YthageoibkeebhaaGreatDoor
open Go.RowKit Go.Maps Go.WideMaps
set_option maxRecDepth 100000
set_option maxHeartbeats 2000000
def svg (p : Sa) : List Value := [.int .u32 (p.num : Int), .int .i64 p.e, .bool p.yes, p.v]
def stRowG (mb : Nat) (S : List Sa) : Array Value := (.map (some mb) :: S.flatMap svg).toArray
def zSa : List Sa := (List.range 9).map fun i => ⟨i, 0, 0, false, [], .slice none 0 0⟩
/-- Each place is its client's. -/
def ClsS (S : List Sa) : Prop := ∀ (i : Nat) (s : Sa), S[i]? = some s → s.cl = i
def StG (w0 w : World) (st mb : Nat) (l : List Rw) (S : List Sa) : Prop := Ext w0 w ∧ S.length = 9 ∧ ∃ rs, rs.map Prod.fst = l ∧ MapAt w w0.heap.size mb rs ∧ w0.heap.size ≤ st ∧ st ≠ mb ∧ (∀ p ∈ rs, p.2 ≠ st) ∧ w.heap[st]? = some (.cells (stRowG mb S) 96 (0, 0)) ∧ SaOwn w w0.heap.size S
theorem zSa_row (mb : Nat) : stRow mb zSd = stRowG mb zSa := rfl
theorem zSa_cls : ClsS zSa := fun i s h => by
  unfold zSa at h
  rw [List.getElem?_map] at h
  obtain ⟨j, hj, rfl⟩ := Option.map_eq_some_iff.1 h
  obtain ⟨h1, h2⟩ := List.getElem?_eq_some_iff.1 hj
  rw [List.getElem_range] at h2
  exact h2.symm
theorem zSa_num {i : Nat} {s : Sa} (h : zSa[i]? = some s) : s.num = 0 := by
  unfold zSa at h
  rw [List.getElem?_map] at h
  obtain ⟨j, hj, rfl⟩ := Option.map_eq_some_iff.1 h
  rfl
/-- What is told of them: those that are filled. -/
def saG (S : List Sa) : List Sa := S.filter fun p => decide (0 < p.num)
theorem keepGo : ∀ (S : List Sa) (o i : Nat) (x : Sa), (∀ j s, S[j]? = some s → s.cl = o + j) → x.cl = o + i → i < S.length → 0 < x.num → keepS (saG S) x = saG (S.set i x)
  | [], _, _, _, _, _, h, _ => by simp at h
  | a :: r, o, 0, x, hc, hx, _, hn => by
    have ha := hc 0 a rfl
    have hge : ∀ p ∈ saG r, x.cl < p.cl := fun p hp => by
      obtain ⟨hp, _⟩ := List.mem_filter.1 hp
      obtain ⟨j, hj⟩ := List.mem_iff_getElem?.1 hp
      have := hc (j + 1) p hj
      omega
    rw [List.set_cons_zero]
    have e1 : saG (x :: r) = x :: saG r := by unfold saG; rw [List.filter_cons, if_pos (by simpa using hn)]
    rw [e1]
    by_cases h0 : 0 < a.num
    · have e2 : saG (a :: r) = a :: saG r := by unfold saG; rw [List.filter_cons, if_pos (by simpa using h0)]
      rw [e2]
      unfold keepS
      have h2 : lessS x.cl a = false := decide_eq_false (by omega)
      rw [List.takeWhile_cons, if_neg (by rw [h2]; simp), List.dropWhile_cons, if_neg (by rw [h2]; simp)]
      have h3 : pastS x.cl (a :: saG r) = saG r := if_pos (by omega)
      rw [h3]; rfl
    · have e2 : saG (a :: r) = saG r := by unfold saG; rw [List.filter_cons, if_neg (by simpa using h0)]
      rw [e2]
      exact keepS_front hge
  | a :: r, o, i + 1, x, hc, hx, h, hn => by
    have ha := hc 0 a rfl
    have ih := keepGo r (o + 1) i x (fun j s hs => by have := hc (j + 1) s hs; omega) (by omega) (by simpa using h) hn
    rw [List.set_cons_succ]
    by_cases h0 : 0 < a.num
    · have e2 : saG (a :: r) = a :: saG r := by unfold saG; rw [List.filter_cons, if_pos (by simpa using h0)]
      have e3 : saG (a :: r.set i x) = a :: saG (r.set i x) := by unfold saG; rw [List.filter_cons, if_pos (by simpa using h0)]
      rw [e2, e3, ← ih]
      unfold keepS
      have h2 : lessS x.cl a = true := decide_eq_true (by omega)
      rw [List.takeWhile_cons, if_pos h2, List.dropWhile_cons, if_pos h2]
      rfl
    · have e2 : saG (a :: r) = saG r := by unfold saG; rw [List.filter_cons, if_neg (by simpa using h0)]
      have e3 : saG (a :: r.set i x) = saG (r.set i x) := by unfold saG; rw [List.filter_cons, if_neg (by simpa using h0)]
      rw [e2, e3]
      exact ih
theorem keepG {S : List Sa} (hc : ClsS S) {x : Sa} (hx : x.cl < S.length) (hn : 0 < x.num) : keepS (saG S) x = saG (S.set x.cl x) := keepGo S 0 x.cl x (fun j s h => by rw [hc j s h]; omega) (by omega) hx hn
theorem cls_set {S : List Sa} (hc : ClsS S) (x : Sa) : ClsS (S.set x.cl x) := fun i s h => by
  by_cases e : x.cl = i
  · subst e
    have hl : x.cl < S.length := by have := (List.getElem?_eq_some_iff.1 h).1; rwa [List.length_set] at this
    rw [List.getElem?_set_self hl] at h
    injection h with h
    rw [h]
  · rw [List.getElem?_set_ne e] at h
    exact hc i s h
theorem flat_setG : ∀ (S : List Sa) (c : Nat) (x : Sa), c < S.length → (S.set c x).flatMap svg = (S.flatMap svg).take (c * 4) ++ svg x ++ (S.flatMap svg).drop (c * 4 + 4)
  | [], _, _, h => by simp at h
  | a :: r, 0, x, _ => by
    rw [List.set_cons_zero, List.flatMap_cons, List.flatMap_cons]
    rw [show 0 * 4 = 0 from rfl, List.take_zero, List.nil_append, show 0 + 4 = (svg a).length from rfl, List.drop_left]
  | a :: r, c + 1, x, h => by
    rw [List.set_cons_succ, List.flatMap_cons, flat_setG r c x (by simpa using h), List.flatMap_cons, show (c + 1) * 4 = (svg a).length + c * 4 by show _ = 4 + c * 4; omega, Nat.add_assoc, List.take_length_add_append, List.drop_length_add_append]
    simp only [List.append_assoc]
theorem StG.ext {w0 w w' : World} {st mb : Nat} {l : List Rw} {S : List Sa} (h : StG w0 w st mb l S) (he : Ext w w') : StG w0 w' st mb l S := by
  obtain ⟨h1, h2, rs, h3, h4, h5, h6, h7, h8, h9⟩ := h
  exact ⟨h1.trans he, h2, rs, h3, h4.ext he, h5, h6, h7, he.row h8, h9.ext he⟩
theorem StG.ground {w0 w : World} {st mb : Nat} {l : List Rw} {S : List Sa} (h : StG w0 w st mb l S) : Ext w0 w := h.1
theorem StM.toG {w0 w : World} {st mb : Nat} {l : List Rw} (h : StM w0 w st mb ⟨l, zSd⟩) : StG w0 w st mb l zSa := by
  obtain ⟨_, _, _, _, _, b6, _⟩ := h.at
  obtain ⟨rs, ⟨c0, c1, mb2, c2, c3, c4, c5, c6⟩, c7, c8⟩ := h
  rw [cell_of_row _ _ 0 _ 96 (0, 0) c6] at c8
  obtain rfl : mb = mb2 := by simpa [stRow] using c8.symm
  refine ⟨c0, rfl, rs, c7, c2, c3, c4, c5, c6, fun p hp => ?_⟩
  obtain ⟨j, hj⟩ := List.mem_iff_getElem?.1 hp
  unfold zSa at hj
  rw [List.getElem?_map] at hj
  obtain ⟨i, _, rfl⟩ := Option.map_eq_some_iff.1 hj
  exact OwnC.nil _ _ _ _
theorem StG.head {w0 w : World} {st mb : Nat} {l : List Rw} {S : List Sa} (h : StG w0 w st mb l S) : ∃ rs, rs.map Prod.fst = l ∧ ∃ mb, MapAt w w0.heap.size mb rs ∧ w.cell? ⟨st, 0, none⟩ = some (.map (some mb)) := by
  obtain ⟨h1, h2, rs, h3, h4, h5, h6, h7, h8, h9⟩ := h
  exact ⟨rs, h3, mb, h4, by rw [cell_of_row _ _ 0 _ 96 (0, 0) h8]; rfl⟩
theorem StG.row {w0 w : World} {st mb : Nat} {l : List Rw} {S : List Sa} (h : StG w0 w st mb l S) : w0.heap.size ≤ st ∧ S.length = 9 ∧ w.heap[st]? = some (.cells (stRowG mb S) 96 (0, 0)) ∧ SaOwn w w0.heap.size S := by
  obtain ⟨h1, h2, rs, h3, h4, h5, h6, h7, h8, h9⟩ := h
  exact ⟨h5, h2, h8, h9⟩
theorem svg_len (p : Sa) : (svg p).length = 4 := rfl
theorem sg_cell {w : World} {st mb : Nat} {S : List Sa} (h : w.heap[st]? = some (.cells (stRowG mb S) 96 (0, 0))) {c j : Nat} {s : Sa} (hs : S[c]? = some s) (hj : j < 4) : w.cell? ⟨st, 1 + c * 4 + j, none⟩ = (svg s)[j]? := by
  rw [cell_of_row _ _ _ _ 96 (0, 0) h]
  unfold stRowG
  rw [List.getElem?_toArray, show 1 + c * 4 + j = (c * 4 + j) + 1 by omega, List.getElem?_cons_succ]
  exact flatMap_at svg 4 (by decide) svg_len S c s hs j hj _ rfl
theorem StG.say {w0 w : World} {st mb : Nat} {l : List Rw} {S : List Sa} (h : StG w0 w st mb l S) (x : Sa) (hc : x.cl < 9) (hx : OwnC w w0.heap.size 84 2 x.v x.rows.length (x.rows.flatMap rwL)) : StG w0 (w.setCells st (1 + x.cl * 4) (svg x)) st mb l (S.set x.cl x) := by
  obtain ⟨h1, h2, rs, h3, h4, h5, h6, h7, h8, h9⟩ := h
  have ho := setCells_off (b := st) (svg x) (1 + x.cl * 4) w
  have hfl : (S.flatMap svg).length = 36 := by
    have : ∀ S : List Sa, (S.flatMap svg).length = S.length * 4 := fun S => by
      induction S with
      | nil => rfl
      | cons a r ih => rw [List.flatMap_cons, List.length_append, ih, List.length_cons, Nat.add_mul]; show 4 + _ = _; omega
    rw [this, h2]
  have hrow := setCells_heap st 96 (0, 0) (svg x) (1 + x.cl * 4) w _ h8 (by unfold stRowG; show 1 + x.cl * 4 + 4 ≤ _; simp [hfl]; omega)
  have hrow2 : (w.setCells st (1 + x.cl * 4) (svg x)).heap[st]? = some (.cells (stRowG mb (S.set x.cl x)) 96 (0, 0)) := by
    rw [hrow]
    unfold stRowG
    rw [flat_setG S x.cl x (by omega)]
    show some (Obj.cells (((Value.map (some mb) :: S.flatMap svg).take (1 + x.cl * 4) ++ svg x ++ (Value.map (some mb) :: S.flatMap svg).drop (1 + x.cl * 4 + 4)).toArray) _ _) = _
    rw [show 1 + x.cl * 4 = x.cl * 4 + 1 by omega, List.take_succ_cons, show x.cl * 4 + 1 + 4 = (x.cl * 4 + 4) + 1 by omega, List.drop_succ_cons]
    rfl
  have hst := (Array.getElem?_eq_some_iff.1 h8).1
  have hown : ∀ {e : TypeId} {z n : Nat} {v : Value} {xs : List Value}, e ≠ 96 → OwnC w w0.heap.size e z v n xs → OwnC (w.setCells st (1 + x.cl * 4) (svg x)) w0.heap.size e z v n xs := fun he hw => hw.offB ho (fun q hq hB => by
    obtain ⟨c, hc⟩ := own_ty hw hq
    have hB : q = st := hB
    rw [hB, h8] at hc
    injection hc with hc
    injection hc with _ hc
    exact he hc.symm)
  refine ⟨Below.trans h1 (ho.below (fun k hk => by rw [hk]; exact h5) h1.size), by rw [List.length_set]; exact h2, rs, h3, ⟨?_, h4.2.1, fun p hp => ?_⟩, h5, h6, h7, hrow2, fun p hp => hown (by decide) ?_⟩
  · obtain ⟨es2, cl2, d1, d2⟩ := h4.1
    exact ⟨es2, cl2, (ho.block mb (Array.getElem?_eq_some_iff.1 d1).1 (fun e => h6 e.symm)).trans d1, d2⟩
  · obtain ⟨d1, d2, d3⟩ := h4.2.2 p hp
    exact ⟨d1, d2, (ho.block p.2 (Array.getElem?_eq_some_iff.1 d3).1 (h7 p hp)).trans d3⟩
  · rcases List.mem_or_eq_of_mem_set hp with hp | rfl
    · exact h9 p hp
    · exact hx
theorem sg_cells {w : World} {st mb : Nat} {S : List Sa} (h : w.heap[st]? = some (.cells (stRowG mb S) 96 (0, 0))) {c : Nat} {s : Sa} (hs : S[c]? = some s) : w.cell? ⟨st, 1 + c * 4, none⟩ = some (.int .u32 (s.num : Int)) ∧ w.cell? ⟨st, 1 + c * 4 + 1, none⟩ = some (.int .i64 s.e) ∧ w.cell? ⟨st, 1 + c * 4 + 2, none⟩ = some (.bool s.yes) ∧ w.cell? ⟨st, 1 + c * 4 + 3, none⟩ = some s.v :=
  ⟨sg_cell h hs (j := 0) (by decide), sg_cell h hs (j := 1) (by decide), sg_cell h hs (j := 2) (by decide), sg_cell h hs (j := 3) (by decide)⟩
theorem sg_there {w : World} {st mb : Nat} {S : List Sa} (h : w.heap[st]? = some (.cells (stRowG mb S) 96 (0, 0))) {c : Nat} (hc : c < S.length) : w.there st (1 + c * 4) 4 := fun j hj => by
  refine ⟨?_, by unfold World.frozen?; rw [h]; simp⟩
  rw [sg_cell h (List.getElem?_eq_getElem hc) hj, List.getElem?_eq_getElem (by exact hj)]
  rfl
theorem st_thereG {w0 w : World} {st : Nat} {rs : List (Rw × Nat)} (h : ∃ mb, MapAt w w0.heap.size mb rs ∧ w.cell? ⟨st, 0, none⟩ = some (.map (some mb))) : Calls Tryz.prog 54 #[.pointer (some ⟨st, 0, none⟩)] w fun e w' => e = .returned (.bool true) ∧ w = w' := by
  obtain ⟨mb, _, h2⟩ := h
  have hm : ∀ w, _ := fun w => run_neq_map_nil (P := Tryz.prog) w 91 9 90 (some mb) Tryz.underlying91
  go_enter Tryz.func54, Tryz.ntmps54
  go_wp2
  go_ret
  exact ⟨rfl, rfl⟩
theorem st_rowsG {w0 w : World} {st : Nat} {rs : List (Rw × Nat)} (hS : ∃ mb, MapAt w w0.heap.size mb rs ∧ w.cell? ⟨st, 0, none⟩ = some (.map (some mb))) (hn : rs.length ≤ 1000000) (hks : ∀ p ∈ rs, p.1.key.size ≤ 140737488351232) : Calls Tryz.prog 15 #[.pointer (some ⟨st, 0, none⟩)] w (RowsE (rs.map Prod.fst) w) := by
  obtain ⟨mb, hM, hc0⟩ := id hS
  have hr := hM.rise
  have hkeys := fun (W : World) => callsIn_wide.1 (Tryz.maps_Keys_56 (some mb) W)
  have hS' := Lib.hid hS
  have hM' := Lib.hid hM
  have hr' := Lib.hid hr
  have hks' := Lib.hid hks
  have hkeys' := Lib.hid hkeys
  clear hS hM hr hks hkeys
  go_enter Tryz.func15, Tryz.ntmps15
  go_wp2_with fail
  refine (st_thereG hS'.out).mono ?_
  rintro e w' ⟨rfl, rfl⟩
  go_wp2_with fail
  refine (hkeys'.out _).mono ?_
  rintro e w1 ⟨rfl, rfl⟩
  have hE1 : Ext w (w.alloc (.cells #[.map (some mb)] 91)) := (Ext.refl _).alloc _
  have hsort : Calls Tryz.prog 55 #[.func (.func 118) #[] #[.pointer (some ⟨w.heap.size, 0, none⟩)]] (w.alloc (.cells #[.map (some mb)] 91)) fun e w' => ∃ ka kc, e = .returned (.slice ka rs.length kc) ∧ RowIs w' 1 (.slice ka rs.length kc) rs.length (rs.map fun p => .string p.1.key) ∧ Ext w w' := by
    refine (callsIn_wide.1 (Tryz.slices_Sorted_keys_55_56 mb rs.length (dOf rs) rdP w hM'.out.1 (by rw [dOf_size]; unfold maxLen; omega) (by rw [dOf_size]; omega))).mono ?_
    rintro e w2 ⟨v, ss, rfl, hp, ho, _, hB⟩
    have hlen : ss.length = rs.length := by rw [hp.length_eq, dOf_keys, List.length_map]
    rw [sort_keys hr'.out hp, hlen] at ho
    obtain ⟨ka, kc, rfl, _⟩ := own_slice ho
    refine ⟨ka, kc, rfl, ?_, hE1.trans hB⟩
    have := RowIs.of_own ho
    rw [List.map_map] at this
    exact this
  have hsort' := Lib.hid hsort
  clear hsort
  go_wp2_with fail
  refine hsort'.out.mono ?_
  clear hsort' hE1 hkeys'
  rintro e w2 ⟨ka, kc, rfl, hK, hE2⟩
  have hK' := Lib.hid hK
  clear hK
  go_wp2_with fail
  go_loopw [2, 15] (fun out i wr => ∃ k : Nat, k ≤ rs.length ∧ i = .int .i64 k ∧ wr.ownsRow w2.heap.size 84 2 out k (((rs.take k).map Prod.fst).flatMap rwL) ∧ Ext w2 wr) (fun _ i _ => rs.length - (intOf i).toNat)
  case atStart => exact ⟨0, by omega, rfl, World.ownsRow_nil _ _ _ _, Ext.refl _⟩
  case round =>
    obtain ⟨k, hk, rfl, hown, hE⟩ := hrel
    obtain ⟨oa, ocap, rfl, hoc⟩ := own_slice hown
    by_cases hlt : k < rs.length
    · have hli : (k : Int) < (rs.length : Int) := by omega
      obtain ⟨p, hp⟩ : ∃ p, rs[k]? = some p := ⟨_, List.getElem?_eq_getElem hlt⟩
      have hpm := List.mem_of_getElem? hp
      have hEw := hE2.trans hE
      have hlk := (hM'.out.ext hEw).look p.1.key (hks'.out p hpm)
      rw [find_key hr'.out hp] at hlk
      simp only [Option.map_some] at hlk
      have hrg := row_range (hEw.row (hM'.out.2.2 p hpm).2.2)
      have hc1 := hEw.cell hc0
      obtain ⟨b, off, hat⟩ := (hK'.out.ext hE).at
      obtain ⟨rfl, _, hd⟩ := hat (by omega)
      have hkc := hd k (by omega)
      rw [List.getElem?_map, hp] at hkc
      simp only [Option.map_some] at hkc
      have htk : rs.take (k + 1) = rs.take k ++ [p] := by rw [List.take_add_one, hp]; rfl
      have htk' := Lib.hid htk
      have hsz := hE.size
      have hpk := Lib.hid hp
      clear hat hd hp htk hpm
      go_wp2_with (first | (refine wpList_load_mid (by rfl) 84 (.tmp 26) (by rfl) p.2 0 (by rfl) (rowR p.1).toList _ hrg Tryz.underlying84 rfl (by exact info_row) ?_) | (refine wpList_bs_row (by rfl) (.tmp 27) (by rfl) p.1 (by rfl) ?_) | (at_builtin; refine wpList_append_lit (by rfl) (.tmp 19) (.tmp 28) 22 84 (by rfl) Tryz.underlying22 el_row wr w2.heap.size k _ (.slice oa k ocap) (by rfl) hown (rowR p.1) (by rfl) (by rfl) (fun u hu => Array.all_eq_true_iff_forall_mem.1 (rowR_one p.1) u (by simpa using hu)) (by omega) (by omega) hsz ?_; go_loud (intro v' w3 hown2 hbel; have hX3 : Ext w2 w3 := Below.trans hE hbel)) | fail)
      go_roundw
      case rel =>
        refine ⟨k + 1, by omega, by go_num, ?_, hX3⟩
        rw [htk'.out, List.map_append, List.flatMap_append]
        simpa [rwL, rowR] using hown2
      case measure => simp [intOf]; omega
    · have hli : ¬ (k : Int) < (rs.length : Int) := by omega
      have hkl : rs.take k = rs := List.take_of_length_le (by omega)
      obtain rfl : k = rs.length := by omega
      rw [hkl] at hown
      clear hkl
      go_wp2_with fail
      go_ret
      have hl : (rs.map Prod.fst).length = rs.length := List.length_map ..
      exact ⟨oa, ocap, by rw [hl]; rfl, by rw [hl]; exact hoc, by rw [hl]; exact ownsRow_base_a hown hE2.size, hE2.trans hE⟩
end Go.Proofs.YthageoibkeebhaaGreatDoor

/- models.Make of any rows, and any that were said. No condition. -/
namespace Go.Proofs.YthageoibkeebhaaGreatDoor
open Go.RowKit Go.Maps Go.WideMaps
set_option maxRecDepth 100000
set_option maxHeartbeats 4000000
def MkGE (l : List Rw) (q : List Sa) (w : World) (e : Ending) (w' : World) : Prop := Ext w w' ∧ match mkR [] l with
  | none => e = .returned (.tuple #[.pointer none, .int .i64 1])
  | some rows => match mkS [] [] q with
    | none => e = .returned (.tuple #[.pointer none, .int .i64 1])
    | some sq => ∃ st mb S, e = .returned (.tuple #[.pointer (some ⟨st, 0, none⟩), .int .i64 0]) ∧ StG w w' st mb rows S ∧ ClsS S ∧ (saG S).map Sa.bare = sq
theorem gmk_no {l : List Rw} {q : List Sa} {w w' : World} (h : Ext w w') (hn : mkR [] l = none) : MkGE l q w (.returned (.tuple #[.pointer none, .int .i64 1])) w' := by
  refine ⟨h, ?_⟩
  rw [hn]
theorem gmk_no2 {l : List Rw} {q : List Sa} {w w' : World} {rows : List Rw} (h : Ext w w') (hn : mkR [] l = some rows) (hs : mkS [] [] q = none) : MkGE l q w (.returned (.tuple #[.pointer none, .int .i64 1])) w' := by
  refine ⟨h, ?_⟩
  rw [hn]
  show match mkS [] [] q with | none => _ | some sq => _
  rw [hs]
theorem gmk_yes {l : List Rw} {q : List Sa} {w w' : World} {rows : List Rw} {sq : List Sa} {st mb : Nat} {S : List Sa} (h : Ext w w') (hn : mkR [] l = some rows) (hs : mkS [] [] q = some sq) (hM : StG w w' st mb rows S) (hc : ClsS S) (hb : (saG S).map Sa.bare = sq) : MkGE l q w (.returned (.tuple #[.pointer (some ⟨st, 0, none⟩), .int .i64 0])) w' := by
  refine ⟨h, ?_⟩
  rw [hn]
  show match mkS [] [] q with | none => _ | some sq => _
  rw [hs]
  exact ⟨st, mb, S, rfl, hM, hc, hb⟩
theorem putW_len (l : List Rw) (k v : ByteArray) : (putW l k v).length ≤ l.length + 1 := by
  have := chW_length l ⟨k, v, false⟩
  exact this
theorem twin_litG (w : World) (i : Int) (b : Bool) (l : List Rw) (a : Option Addr) (cap : Nat) (hr : RowIs w 2 (.slice a l.length cap) l.length (l.flatMap rwL)) (hn : l.length ≤ 1000000) : Calls Tryz.prog 43 #[.agg #[.int .i64 i, .bool b, .slice a l.length cap]] w fun e w' => ∃ a' cap', e = .returned (.agg #[.int .i64 i, .bool b, .slice a' l.length cap']) ∧ OwnC w' w.heap.size 84 2 (.slice a' l.length cap') l.length (l.flatMap rwL) ∧ Ext w w' := by
  refine (st_twin_rows w i b l a cap hr hn).mono ?_
  rintro e w' ⟨a', cap', he, ⟨_, ho⟩, _, hE⟩
  exact ⟨a', cap', he, ho, hE⟩
theorem gmk_any (w : World) (l : List Rw) (la : Option Addr) (lc : Nat) (hlr : RowIs w 2 (.slice la l.length lc) l.length (l.flatMap rwL)) (hl : l.length ≤ 50000) (hsm : ∀ r ∈ l, r.key.size ≤ 140737488351232 ∧ r.val.size ≤ 140737488351232)
    (q : List Sa) (qa : Option Addr) (qc : Nat) (hqr : RowIs w 5 (.slice qa q.length qc) q.length (q.flatMap Sa.cells)) (hq : q.length ≤ 50000) (hqv : SaAt w q) (hqn : ∀ p ∈ q, p.rows.length ≤ 1000000) :
    Calls Tryz.prog 9 #[.slice la l.length lc, .slice qa q.length qc] w (MkGE l q w) := by
  obtain ⟨n, hn0⟩ : ∃ n, n = l.length := ⟨_, rfl⟩
  obtain ⟨m, hm0⟩ : ∃ m, m = q.length := ⟨_, rfl⟩
  rw [← hn0] at hlr hl ⊢
  rw [← hm0] at hqr hq ⊢
  have hn := Lib.hid hn0
  have hm := Lib.hid hm0
  have hlr' := Lib.hid hlr
  have hqr' := Lib.hid hqr
  have hsm' := Lib.hid hsm
  have hqv' := Lib.hid hqv
  have hqn' := Lib.hid hqn
  clear hn0 hm0 hlr hqr hsm hqv hqn
  go_enter Tryz.func9, Tryz.ntmps9
  go_wp2_with fail
  refine (st_newM w).mono ?_
  rintro e w1 ⟨st, mb, rfl, hS1⟩
  go_wp2_with fail
  go_loopw [14] (fun i wr => ∃ (k : Nat) (acc : List Rw), k ≤ n ∧ i = .int .i64 k ∧ Hid (mkR [] l = mkR acc (l.drop k)) ∧ StM w wr st mb ⟨acc, zSd⟩ ∧ Hid (acc.length ≤ k)) (fun i _ => n - (intOf i).toNat)
  case atStart => exact ⟨0, [], by omega, rfl, Lib.hid rfl, hS1, Lib.hid (Nat.le_refl _)⟩
  case round =>
    clear hS1
    obtain ⟨k, acc, hk, rfl, hmk, hS, hacc⟩ := hrel
    by_cases hlt : k < n
    · have hli : (k : Int) < (n : Int) := by omega
      obtain ⟨r, hrk⟩ : ∃ r, l[k]? = some r := ⟨_, List.getElem?_eq_getElem (by rw [← hn.out]; exact hlt)⟩
      obtain ⟨b1, off, hat⟩ := (hlr'.out.ext hS.ground).at
      obtain ⟨rfl, _, hd⟩ := hat (by omega)
      have hrg := rws_range (by rw [← hn.out]; exact hd) hrk
      obtain ⟨hkz, hvz⟩ := hsm'.out r (List.mem_of_getElem? hrk)
      have hsort := hS.sort
      have hdr : Hid (mkR [] l = if keyB r.key = true ∧ valB r.val = true ∧ findW acc r.key = none then mkR (putW acc r.key r.val) (l.drop (k + 1)) else none) := Lib.hid (by
        obtain ⟨hlt2, he⟩ := List.getElem?_eq_some_iff.1 hrk
        rw [hmk.out, List.drop_eq_getElem_cons hlt2, he]
        show (if _ then mkR (chR acc ⟨r.key, r.val, false⟩) _ else none) = _
        rw [chR_eq _ hsort]
        rfl)
      clear hat hd hsort
      go_upto_region 5 with (first | (refine wpList_load_mid (by rfl) 84 (.tmp 16) (by rfl) b1 (off + k * 2) (by rfl) (rowR r).toList _ hrg Tryz.underlying84 rfl (by exact info_row) ?_) | (refine wpList_store_whole (by rfl) 84 (.tmp 8) (.tmp 17) (by rfl) wr _ (rowR r) wr.heap.size (by rfl) rfl (by rfl) info_row rfl (rowR_one r) ?_) | fail)
      have hr5 := heap_alloc_new wr (.cells (rowR r) 84)
      have hE5 := (Ext.refl wr).alloc (.cells (rowR r) 84)
      have hS5 := hS.ext hE5
      have hgs : st < wr.heap.size := hS.at.2.2.1
      have hg0 : w.heap.size ≤ wr.heap.size := hS.ground.size
      clear hS hE5 hrg hmk
      generalize wr.alloc _ = W5 at *
      generalize wr.heap.size = g at *
      obtain ⟨y0, y1⟩ := row_cells hr5
      have hXw := hS5.ground
      obtain ⟨rs5, hX5, hrs5, hc5⟩ := hS5
      simp only at hX5 hrs5
      have hlook : ∀ w', Ext W5 w' → (Instr.lookup 91 (.map (some mb)) (.string r.key) false).run Tryz.prog w' = .ok (.pointer ((rs5.find? (keyIs r.key)).map fun p => ⟨p.2, 0, none⟩)) w' := fun w' he => by
        obtain ⟨mb', hM, hc'⟩ := (hX5.ext he).map
        rw [he.cell hc5] at hc'
        injection hc' with hc'
        injection hc' with hc'
        injection hc' with hc'
        subst hc'
        exact hM.look r.key (by omega)
      have hfnd := find_fst rs5 r.key
      rw [hrs5] at hfnd
      have hkc : ∀ w', Calls Tryz.prog 41 #[.string r.key] w' fun e w'' => e = .returned (.bool (keyB r.key)) ∧ w' = w'' := fun w' => key_any w' r.key hkz
      have hvc : ∀ w', Calls Tryz.prog 42 #[.string r.val] w' fun e w'' => e = .returned (.bool (valB r.val)) ∧ w' = w'' := fun w' => value_any w' r.val hvz
      have hlook' := Lib.hid hlook
      have hfnd' := Lib.hid hfnd
      have hX5' := Lib.hid hX5
      have hrs5' := Lib.hid hrs5
      have hr5' := Lib.hid hr5
      have hXw' := Lib.hid hXw
      clear hlook hX5 hrs5 hrk hr5 hfnd hXw
      cases hkb : keyB r.key
      · rw [hkb] at hkc
        have hno : Hid (mkR [] l = none) := Lib.hid (by rw [hdr.out, if_neg (by rw [hkb]; simp)])
        have hkc' := Lib.hid hkc
        clear hkc hvc hkb
        refine bqRegion (Ext W5) (by kernel_rfl) (by kernel_rfl) (Ext.refl _).drew ?_
        iterate 1 (refine bqStep (fun K hK => ?_); go_simp; first | (refine hK _ ?_; clear hK K) | (refine ⟨_, fun _ _ => rfl, hK _ ?_⟩; clear hK K))
        refine bqCell (by rfl) 9 _ (by rfl) g 0 (by rfl) _ (fun w' h => h.cell y0) _ Tryz.underlying9 rfl ?_
        refine bqStep (fun K hK => ?_); go_simp
        refine ⟨_, fun w' hw => calls_same hw (hkc'.out _), hK _ ?_⟩; clear hK K
        iterate 2 (refine bqStep (fun K hK => ?_); go_simp; first | (refine hK _ ?_; clear hK K) | (refine ⟨_, fun _ _ => rfl, hK _ ?_⟩; clear hK K))
        iterate 4 (refine bqSkip (by rfl) ?_; simp only [Act.put, List.setIfInBounds_toArray, List.set_cons_zero, List.set_cons_succ])
        iterate 2 (refine bqStep (fun K hK => ?_); go_simp; first | (refine hK _ ?_; clear hK K) | (refine ⟨_, fun _ _ => rfl, hK _ ?_⟩; clear hK K))
        iterate 8 (refine bqSkip (by rfl) ?_; simp only [Act.put, List.setIfInBounds_toArray, List.set_cons_zero, List.set_cons_succ])
        iterate 1 (refine bqStep (fun K hK => ?_); go_simp; first | (refine hK _ ?_; clear hK K) | (refine ⟨_, fun _ _ => rfl, hK _ ?_⟩; clear hK K))
        refine bqNil (fun w5 hE5 => ?_)
        go_wp2_with fail
        go_ret2
        exact gmk_no (hXw'.out.trans hE5) hno.out
      · rw [hkb] at hkc
        have hkc' := Lib.hid hkc
        have hkb' := Lib.hid hkb
        clear hkc hkb
        cases hvb : valB r.val
        · rw [hvb] at hvc
          have hno : Hid (mkR [] l = none) := Lib.hid (by rw [hdr.out, if_neg (by rw [hvb]; simp)])
          have hvc' := Lib.hid hvc
          clear hvc hvb
          refine bqRegion (Ext W5) (by kernel_rfl) (by kernel_rfl) (Ext.refl _).drew ?_
          iterate 1 (refine bqStep (fun K hK => ?_); go_simp; first | (refine hK _ ?_; clear hK K) | (refine ⟨_, fun _ _ => rfl, hK _ ?_⟩; clear hK K))
          refine bqCell (by rfl) 9 _ (by rfl) g 0 (by rfl) _ (fun w' h => h.cell y0) _ Tryz.underlying9 rfl ?_
          refine bqStep (fun K hK => ?_); go_simp
          refine ⟨_, fun w' hw => calls_same hw (hkc'.out _), hK _ ?_⟩; clear hK K
          iterate 3 (refine bqStep (fun K hK => ?_); go_simp; first | (refine hK _ ?_; clear hK K) | (refine ⟨_, fun _ _ => rfl, hK _ ?_⟩; clear hK K))
          refine bqCell (by rfl) 9 _ (by rfl) g 1 (by rfl) _ (fun w' h => h.cell y1) _ Tryz.underlying9 rfl ?_
          refine bqStep (fun K hK => ?_); go_simp
          refine ⟨_, fun w' hw => calls_same hw (hvc'.out _), hK _ ?_⟩; clear hK K
          iterate 3 (refine bqStep (fun K hK => ?_); go_simp; first | (refine hK _ ?_; clear hK K) | (refine ⟨_, fun _ _ => rfl, hK _ ?_⟩; clear hK K))
          iterate 8 (refine bqSkip (by rfl) ?_; simp only [Act.put, List.setIfInBounds_toArray, List.set_cons_zero, List.set_cons_succ])
          iterate 1 (refine bqStep (fun K hK => ?_); go_simp; first | (refine hK _ ?_; clear hK K) | (refine ⟨_, fun _ _ => rfl, hK _ ?_⟩; clear hK K))
          refine bqNil (fun w5 hE5 => ?_)
          go_wp2_with fail
          go_ret2
          exact gmk_no (hXw'.out.trans hE5) hno.out
        · rw [hvb] at hvc
          have hvc' := Lib.hid hvc
          have hvb' := Lib.hid hvb
          clear hvc hvb
          cases hfr : rs5.find? (keyIs r.key) with
          | some p =>
            have hno : Hid (mkR [] l = none) := Lib.hid (by
              have h5 := hfnd'.out
              rw [hfr] at h5
              rw [hdr.out, if_neg (fun h => by rw [h.2.2] at h5; cases h5)])
            have hlk : Hid (∀ w', Ext W5 w' → (Instr.lookup 91 (.map (some mb)) (.string r.key) false).run Tryz.prog w' = .ok (.pointer (some ⟨p.2, 0, none⟩)) w') := Lib.hid (fun w' he => by rw [hlook'.out w' he, hfr]; rfl)
            clear hfr
            refine bqRegion (Ext W5) (by kernel_rfl) (by kernel_rfl) (Ext.refl _).drew ?_
            iterate 1 (refine bqStep (fun K hK => ?_); go_simp; first | (refine hK _ ?_; clear hK K) | (refine ⟨_, fun _ _ => rfl, hK _ ?_⟩; clear hK K))
            refine bqCell (by rfl) 9 _ (by rfl) g 0 (by rfl) _ (fun w' h => h.cell y0) _ Tryz.underlying9 rfl ?_
            refine bqStep (fun K hK => ?_); go_simp
            refine ⟨_, fun w' hw => calls_same hw (hkc'.out _), hK _ ?_⟩; clear hK K
            iterate 3 (refine bqStep (fun K hK => ?_); go_simp; first | (refine hK _ ?_; clear hK K) | (refine ⟨_, fun _ _ => rfl, hK _ ?_⟩; clear hK K))
            refine bqCell (by rfl) 9 _ (by rfl) g 1 (by rfl) _ (fun w' h => h.cell y1) _ Tryz.underlying9 rfl ?_
            refine bqStep (fun K hK => ?_); go_simp
            refine ⟨_, fun w' hw => calls_same hw (hvc'.out _), hK _ ?_⟩; clear hK K
            iterate 6 (refine bqStep (fun K hK => ?_); go_simp; first | (refine hK _ ?_; clear hK K) | (refine ⟨_, fun _ _ => rfl, hK _ ?_⟩; clear hK K))
            refine bqCell (by rfl) 91 _ (by rfl) st 0 (by rfl) _ (fun w' h => h.cell hc5) _ Tryz.underlying91 rfl ?_
            iterate 1 (refine bqStep (fun K hK => ?_); go_simp; first | (refine hK _ ?_; clear hK K) | (refine ⟨_, fun _ _ => rfl, hK _ ?_⟩; clear hK K))
            refine bqCell (by rfl) 9 _ (by rfl) g 0 (by rfl) _ (fun w' h => h.cell y0) _ Tryz.underlying9 rfl ?_
            refine bqStep (fun K hK => ?_); go_simp
            refine ⟨.pointer (some ⟨p.2, 0, none⟩), fun w' hw => by rw [hlk.out w' hw]; exact ⟨rfl, rfl⟩, hK _ ?_⟩; clear hK K
            iterate 2 (refine bqStep (fun K hK => ?_); go_simp; first | (refine hK _ ?_; clear hK K) | (refine ⟨_, fun _ _ => rfl, hK _ ?_⟩; clear hK K))
            refine bqNil (fun w5 hE5 => ?_)
            go_wp2_with fail
            go_ret2
            exact gmk_no (hXw'.out.trans hE5) hno.out
          | none =>
            have hnx : Hid (mkR [] l = mkR (putW acc r.key r.val) (l.drop (k + 1))) := Lib.hid (by
              have h5 := hfnd'.out
              rw [hfr] at h5
              rw [hdr.out, if_pos ⟨hkb'.out, hvb'.out, h5.symm⟩])
            have hlk : Hid (∀ w', Ext W5 w' → (Instr.lookup 91 (.map (some mb)) (.string r.key) false).run Tryz.prog w' = .ok (.pointer none) w') := Lib.hid (fun w' he => by rw [hlook'.out w' he, hfr]; rfl)
            clear hfr
            refine bqRegion (Ext W5) (by kernel_rfl) (by kernel_rfl) (Ext.refl _).drew ?_
            iterate 1 (refine bqStep (fun K hK => ?_); go_simp; first | (refine hK _ ?_; clear hK K) | (refine ⟨_, fun _ _ => rfl, hK _ ?_⟩; clear hK K))
            refine bqCell (by rfl) 9 _ (by rfl) g 0 (by rfl) _ (fun w' h => h.cell y0) _ Tryz.underlying9 rfl ?_
            refine bqStep (fun K hK => ?_); go_simp
            refine ⟨_, fun w' hw => calls_same hw (hkc'.out _), hK _ ?_⟩; clear hK K
            iterate 3 (refine bqStep (fun K hK => ?_); go_simp; first | (refine hK _ ?_; clear hK K) | (refine ⟨_, fun _ _ => rfl, hK _ ?_⟩; clear hK K))
            refine bqCell (by rfl) 9 _ (by rfl) g 1 (by rfl) _ (fun w' h => h.cell y1) _ Tryz.underlying9 rfl ?_
            refine bqStep (fun K hK => ?_); go_simp
            refine ⟨_, fun w' hw => calls_same hw (hvc'.out _), hK _ ?_⟩; clear hK K
            iterate 6 (refine bqStep (fun K hK => ?_); go_simp; first | (refine hK _ ?_; clear hK K) | (refine ⟨_, fun _ _ => rfl, hK _ ?_⟩; clear hK K))
            refine bqCell (by rfl) 91 _ (by rfl) st 0 (by rfl) _ (fun w' h => h.cell hc5) _ Tryz.underlying91 rfl ?_
            iterate 1 (refine bqStep (fun K hK => ?_); go_simp; first | (refine hK _ ?_; clear hK K) | (refine ⟨_, fun _ _ => rfl, hK _ ?_⟩; clear hK K))
            refine bqCell (by rfl) 9 _ (by rfl) g 0 (by rfl) _ (fun w' h => h.cell y0) _ Tryz.underlying9 rfl ?_
            refine bqStep (fun K hK => ?_); go_simp
            refine ⟨.pointer none, fun w' hw => by rw [hlk.out w' hw]; exact ⟨rfl, rfl⟩, hK _ ?_⟩; clear hK K
            iterate 2 (refine bqStep (fun K hK => ?_); go_simp; first | (refine hK _ ?_; clear hK K) | (refine ⟨_, fun _ _ => rfl, hK _ ?_⟩; clear hK K))
            refine bqNil (fun w5 hE5 => ?_)
            have z0 := hE5.cell y0
            have z1 := hE5.cell hc5
            have hlr : rs5.length ≤ 50000 := by have := congrArg List.length hrs5'.out; rw [List.length_map] at this; have := hacc.out; omega
            obtain ⟨w7, hrun, hS7, hgr⟩ := (hX5'.out.ext (hE5.trans (Ext.refl w5).drew)).store (g := g) (k := r.key) (v := r.val) (by omega) hkz hg0 (by omega) ((hE5.trans (Ext.refl w5).drew).row hr5'.out) (show w5.drew.cell? ⟨st, 0, none⟩ = _ from z1)
            have hc7 := (off_grown hgr).cell (show w5.drew.cell? ⟨st, 0, none⟩ = _ from z1) (show ¬ st = mb by
              obtain ⟨mb2, q1, _, _, q2⟩ := hX5'.out.maps
              rw [hc5] at q1
              injection q1 with q1; injection q1 with q1; injection q1 with q1
              rw [q1]; exact q2)
            have hfin : StM w w7 st mb ⟨putW acc r.key r.val, zSd⟩ := ⟨_, hS7, by rw [putR_map, hrs5'.out], hc7⟩
            have hfin' := Lib.hid hfin
            have hlen : Hid ((putW acc r.key r.val).length ≤ k + 1) := Lib.hid (by have h1 := putW_len acc r.key r.val; have h2 := hacc.out; omega)
            clear hfin hS7 hgr hc7 hlook' hkc' hvc' hX5' hrs5' hr5' y0 y1 hc5 hE5 hlk hfnd' hkb' hvb'
            go_upto_region 7 with fail
            go_still_tail 6, (by kernel_rfl)
            change wpList _ _ _ _ _ w5.drew
            go_wp2_with fail
            go_roundw
            case rel => exact ⟨k + 1, putW acc r.key r.val, by omega, by go_num, hnx, hfin'.out, hlen⟩
            case measure => simp [intOf]; omega
    · have hli : ¬ (k : Int) < (n : Int) := by omega
      have hall : Hid (mkR [] l = some acc) := Lib.hid (by rw [hmk.out, List.drop_of_length_le (by rw [← hn.out]; omega)]; rfl)
      have hG := hS.toG
      clear hlr' hsm' hmk hacc hn hS
      go_wp2_with fail
      go_loopw [47] (fun i wy => ∃ (j : Nat) (S : List Sa), j ≤ m ∧ i = .int .i64 j ∧ Hid (mkS [] [] q = mkS (q.take j) ((saG S).map Sa.bare) (q.drop j)) ∧ StG w wy st mb acc S ∧ Hid (ClsS S ∧ ∀ c s, S[c]? = some s → (0 < s.num ↔ ∃ p ∈ q.take j, p.cl = c))) (fun i _ => m - (intOf i).toNat)
      case atStart => exact ⟨0, zSa, by omega, rfl, Lib.hid rfl, hG, Lib.hid ⟨zSa_cls, fun c s h => ⟨fun h0 => by have := zSa_num h; omega, fun ⟨p, hp, _⟩ => nomatch hp⟩⟩⟩
      case round =>
        clear hG
        obtain ⟨j, S, hj, rfl, hmk, hG, hcs⟩ := hrel
        by_cases hlt : j < m
        · have hli : (j : Int) < (m : Int) := by omega
          obtain ⟨y, hy⟩ : ∃ y, q[j]? = some y := ⟨_, List.getElem?_eq_getElem (by rw [← hm.out]; exact hlt)⟩
          obtain ⟨ob, oo, hat⟩ := hqr'.out.at
          obtain ⟨rfl, _, hdy⟩ := hat (by omega)
          have hrg := sas_range (by rw [← hm.out]; exact hdy) hy
          obtain ⟨va, vc, hv, hyr0⟩ := hqv'.out y (List.mem_of_getElem? hy)
          have hyr := Lib.hid hyr0
          rw [sa_cells hv] at hrg
          have hE := hG.ground
          have hrg : wr.rangeAt ob (oo + j * 5) (saRow y va y.rows.length vc).toList := fun r v hv => hE.cell (hrg r v hv)
          have hyn := hqn'.out y (List.mem_of_getElem? hy)
          have htk : Hid (q.take (j + 1) = q.take j ++ [y]) := Lib.hid (by rw [List.take_add_one, hy]; rfl)
          have hmk2 : Hid (mkS [] [] q = if goodS (q.take j) y then mkS (q.take (j + 1)) (keepS ((saG S).map Sa.bare) y.bare) (q.drop (j + 1)) else none) := Lib.hid (by
            obtain ⟨hlt2, he⟩ := List.getElem?_eq_some_iff.1 hy
            rw [hmk.out, List.drop_eq_getElem_cons hlt2, he, htk.out]
            rfl)
          obtain ⟨hst0, h9, hst, _⟩ := hG.row
          have hgs : st < wr.heap.size := (Array.getElem?_eq_some_iff.1 hst).1
          have hE5 := (Ext.refl wr).alloc (.cells (saRow y va y.rows.length vc) 87)
          have hr5 := heap_alloc_new wr (.cells (saRow y va y.rows.length vc) 87)
          have hG5 := Lib.hid (hG.ext hE5)
          have h9' := Lib.hid h9
          clear hat hdy hy hv hmk hyr0 hst hG h9 hst0
          go_upto_region 12 with (first | (refine wpList_load_mid (by rfl) 87 (.tmp 49) (by rfl) ob (oo + j * 5) (by rfl) (saRow y va y.rows.length vc).toList _ hrg Tryz.underlying87 rfl (by exact info_said) ?_) | (refine wpList_store_whole (by rfl) 87 (.tmp 10) (.tmp 50) (by rfl) wr _ (saRow y va y.rows.length vc) wr.heap.size (by rfl) rfl (by rfl) info_said rfl (saRow_one _ _ _ _) ?_) | fail)
          clear hrg
          generalize wr.alloc _ = W5 at *
          generalize wr.heap.size = g at *
          obtain ⟨y0, y1, y2, y3, y4⟩ := sa_cs hr5
          have hXw := Lib.hid hG5.out.ground
          have hr5' := Lib.hid hr5
          clear hr5 hE5 hE
          by_cases i1 : y.cl < 1
          · have hi1 : (y.cl : Int) < 1 := by omega
            have hng : Hid (mkS [] [] q = none) := Lib.hid (by rw [hmk2.out, if_neg (fun h => by have := h.1; omega)])
            clear hmk2
            refine bqRegion (Ext W5) (by kernel_rfl) (by kernel_rfl) (Ext.refl _).drew ?_
            iterate 1 (refine bqStep (fun K hK => ?_); go_simp; first | (refine hK _ ?_; clear hK K) | (refine ⟨_, fun _ _ => rfl, hK _ ?_⟩; clear hK K))
            refine bqCell (by rfl) 5 _ (by rfl) g 0 (by rfl) _ (fun w' h => h.cell y0) _ Tryz.underlying5 rfl ?_
            simp only [Act.put, List.setIfInBounds_toArray, List.set_cons_zero, List.set_cons_succ]
            iterate 2 (refine bqStep (fun K hK => ?_); go_simp; first | (refine hK _ ?_; clear hK K) | (refine ⟨_, fun _ _ => rfl, hK _ ?_⟩; clear hK K))
            iterate 3 (refine bqSkip (by rfl) ?_; simp only [Act.put, List.setIfInBounds_toArray, List.set_cons_zero, List.set_cons_succ])
            iterate 2 (refine bqStep (fun K hK => ?_); go_simp; first | (refine hK _ ?_; clear hK K) | (refine ⟨_, fun _ _ => rfl, hK _ ?_⟩; clear hK K))
            iterate 3 (refine bqSkip (by rfl) ?_; simp only [Act.put, List.setIfInBounds_toArray, List.set_cons_zero, List.set_cons_succ])
            iterate 2 (refine bqStep (fun K hK => ?_); go_simp; first | (refine hK _ ?_; clear hK K) | (refine ⟨_, fun _ _ => rfl, hK _ ?_⟩; clear hK K))
            iterate 9 (refine bqSkip (by rfl) ?_; simp only [Act.put, List.setIfInBounds_toArray, List.set_cons_zero, List.set_cons_succ])
            iterate 1 (refine bqStep (fun K hK => ?_); go_simp; first | (refine hK _ ?_; clear hK K) | (refine ⟨_, fun _ _ => rfl, hK _ ?_⟩; clear hK K))
            refine bqNil (fun w5 hE5 => ?_)
            go_wp2_with fail
            go_ret2
            exact gmk_no2 (hXw.out.trans hE5) hall.out hng.out
          · have hi1 : ¬ (y.cl : Int) < 1 := by omega
            by_cases i2 : 8 < y.cl
            · have hi2 : (8 : Int) < (y.cl : Int) := by omega
              have hng : Hid (mkS [] [] q = none) := Lib.hid (by rw [hmk2.out, if_neg (fun h => by have := h.2.1; omega)])
              clear hmk2
              refine bqRegion (Ext W5) (by kernel_rfl) (by kernel_rfl) (Ext.refl _).drew ?_
              iterate 1 (refine bqStep (fun K hK => ?_); go_simp; first | (refine hK _ ?_; clear hK K) | (refine ⟨_, fun _ _ => rfl, hK _ ?_⟩; clear hK K))
              refine bqCell (by rfl) 5 _ (by rfl) g 0 (by rfl) _ (fun w' h => h.cell y0) _ Tryz.underlying5 rfl ?_
              simp only [Act.put, List.setIfInBounds_toArray, List.set_cons_zero, List.set_cons_succ]
              iterate 3 (refine bqStep (fun K hK => ?_); go_simp; first | (refine hK _ ?_; clear hK K) | (refine ⟨_, fun _ _ => rfl, hK _ ?_⟩; clear hK K))
              refine bqCell (by rfl) 5 _ (by rfl) g 0 (by rfl) _ (fun w' h => h.cell y0) _ Tryz.underlying5 rfl ?_
              simp only [Act.put, List.setIfInBounds_toArray, List.set_cons_zero, List.set_cons_succ]
              iterate 3 (refine bqStep (fun K hK => ?_); go_simp; first | (refine hK _ ?_; clear hK K) | (refine ⟨_, fun _ _ => rfl, hK _ ?_⟩; clear hK K))
              iterate 3 (refine bqSkip (by rfl) ?_; simp only [Act.put, List.setIfInBounds_toArray, List.set_cons_zero, List.set_cons_succ])
              iterate 2 (refine bqStep (fun K hK => ?_); go_simp; first | (refine hK _ ?_; clear hK K) | (refine ⟨_, fun _ _ => rfl, hK _ ?_⟩; clear hK K))
              iterate 9 (refine bqSkip (by rfl) ?_; simp only [Act.put, List.setIfInBounds_toArray, List.set_cons_zero, List.set_cons_succ])
              iterate 1 (refine bqStep (fun K hK => ?_); go_simp; first | (refine hK _ ?_; clear hK K) | (refine ⟨_, fun _ _ => rfl, hK _ ?_⟩; clear hK K))
              refine bqNil (fun w5 hE5 => ?_)
              go_wp2_with fail
              go_ret2
              exact gmk_no2 (hXw.out.trans hE5) hall.out hng.out
            · have hi2 : ¬ (8 : Int) < (y.cl : Int) := by omega
              by_cases i3 : y.num = 0
              · have hi3 : (y.num : Int) = 0 := by omega
                have hng : Hid (mkS [] [] q = none) := Lib.hid (by rw [hmk2.out, if_neg (fun h => h.2.2.1 i3)])
                clear hmk2
                refine bqRegion (Ext W5) (by kernel_rfl) (by kernel_rfl) (Ext.refl _).drew ?_
                iterate 1 (refine bqStep (fun K hK => ?_); go_simp; first | (refine hK _ ?_; clear hK K) | (refine ⟨_, fun _ _ => rfl, hK _ ?_⟩; clear hK K))
                refine bqCell (by rfl) 5 _ (by rfl) g 0 (by rfl) _ (fun w' h => h.cell y0) _ Tryz.underlying5 rfl ?_
                simp only [Act.put, List.setIfInBounds_toArray, List.set_cons_zero, List.set_cons_succ]
                iterate 3 (refine bqStep (fun K hK => ?_); go_simp; first | (refine hK _ ?_; clear hK K) | (refine ⟨_, fun _ _ => rfl, hK _ ?_⟩; clear hK K))
                refine bqCell (by rfl) 5 _ (by rfl) g 0 (by rfl) _ (fun w' h => h.cell y0) _ Tryz.underlying5 rfl ?_
                simp only [Act.put, List.setIfInBounds_toArray, List.set_cons_zero, List.set_cons_succ]
                iterate 4 (refine bqStep (fun K hK => ?_); go_simp; first | (refine hK _ ?_; clear hK K) | (refine ⟨_, fun _ _ => rfl, hK _ ?_⟩; clear hK K))
                refine bqCell (by rfl) 62 _ (by rfl) g 1 (by rfl) _ (fun w' h => h.cell y1) _ Tryz.underlying62 rfl ?_
                simp only [Act.put, List.setIfInBounds_toArray, List.set_cons_zero, List.set_cons_succ]
                iterate 3 (refine bqStep (fun K hK => ?_); go_simp; first | (refine hK _ ?_; clear hK K) | (refine ⟨_, fun _ _ => rfl, hK _ ?_⟩; clear hK K))
                iterate 9 (refine bqSkip (by rfl) ?_; simp only [Act.put, List.setIfInBounds_toArray, List.set_cons_zero, List.set_cons_succ])
                iterate 1 (refine bqStep (fun K hK => ?_); go_simp; first | (refine hK _ ?_; clear hK K) | (refine ⟨_, fun _ _ => rfl, hK _ ?_⟩; clear hK K))
                refine bqNil (fun w5 hE5 => ?_)
                go_wp2_with fail
                go_ret2
                exact gmk_no2 (hXw.out.trans hE5) hall.out hng.out
              · have hi3 : ¬ (y.num : Int) = 0 := by omega
                have hb3 : ((y.num : Int) == 0) = false := beq_eq_false_iff_ne.2 hi3
                have j0 : 0 ≤ (y.cl : Int) := by omega
                have j1 : (y.cl : Int) < 9 := by omega
                have j2 : y.cl < 9 := by omega
                have j3 : ((y.cl : Int)).toNat = y.cl := by omega
                obtain ⟨s, hs⟩ : ∃ s, S[y.cl]? = some s := ⟨_, List.getElem?_eq_getElem (by rw [h9'.out]; omega)⟩
                have d5 := (sg_cells hG5.out.row.2.2.1 hs).1
                have hs' := Lib.hid hs
                clear hs
                by_cases i4 : 0 < s.num
                · have hi4 : (0 : Int) < (s.num : Int) := by omega
                  have hng : Hid (mkS [] [] q = none) := Lib.hid (by
                    rw [hmk2.out, if_neg (fun h => ?_)]
                    obtain ⟨p, hp, he⟩ := (hcs.out.2 _ _ hs'.out).1 i4
                    exact h.2.2.2 p hp he)
                  clear hmk2
                  refine bqRegion (Ext W5) (by kernel_rfl) (by kernel_rfl) (Ext.refl _).drew ?_
                  iterate 1 (refine bqStep (fun K hK => ?_); go_simp; first | (refine hK _ ?_; clear hK K) | (refine ⟨_, fun _ _ => rfl, hK _ ?_⟩; clear hK K))
                  refine bqCell (by rfl) 5 _ (by rfl) g 0 (by rfl) _ (fun w' h => h.cell y0) _ Tryz.underlying5 rfl ?_
                  simp only [Act.put, List.setIfInBounds_toArray, List.set_cons_zero, List.set_cons_succ]
                  iterate 3 (refine bqStep (fun K hK => ?_); go_simp; first | (refine hK _ ?_; clear hK K) | (refine ⟨_, fun _ _ => rfl, hK _ ?_⟩; clear hK K))
                  refine bqCell (by rfl) 5 _ (by rfl) g 0 (by rfl) _ (fun w' h => h.cell y0) _ Tryz.underlying5 rfl ?_
                  simp only [Act.put, List.setIfInBounds_toArray, List.set_cons_zero, List.set_cons_succ]
                  iterate 4 (refine bqStep (fun K hK => ?_); go_simp; first | (refine hK _ ?_; clear hK K) | (refine ⟨_, fun _ _ => rfl, hK _ ?_⟩; clear hK K))
                  refine bqCell (by rfl) 62 _ (by rfl) g 1 (by rfl) _ (fun w' h => h.cell y1) _ Tryz.underlying62 rfl ?_
                  simp only [Act.put, List.setIfInBounds_toArray, List.set_cons_zero, List.set_cons_succ]
                  iterate 5 (refine bqStep (fun K hK => ?_); go_simp; first | (refine hK _ ?_; clear hK K) | (refine ⟨_, fun _ _ => rfl, hK _ ?_⟩; clear hK K))
                  refine bqCell (by rfl) 5 _ (by rfl) g 0 (by rfl) _ (fun w' h => h.cell y0) _ Tryz.underlying5 rfl ?_
                  simp only [Act.put, List.setIfInBounds_toArray, List.set_cons_zero, List.set_cons_succ]
                  iterate 4 (refine bqStep (fun K hK => ?_); go_simp; first | (refine hK _ ?_; clear hK K) | (refine ⟨_, fun _ _ => rfl, hK _ ?_⟩; clear hK K))
                  refine bqCell (by rfl) 62 _ (by rfl) st (1 + y.cl * 4) (by rfl) _ (fun w' h => h.cell d5) _ Tryz.underlying62 rfl ?_
                  simp only [Act.put, List.setIfInBounds_toArray, List.set_cons_zero, List.set_cons_succ]
                  iterate 2 (refine bqStep (fun K hK => ?_); go_simp; first | (refine hK _ ?_; clear hK K) | (refine ⟨_, fun _ _ => rfl, hK _ ?_⟩; clear hK K))
                  refine bqNil (fun w5 hE5 => ?_)
                  go_wp2_with fail
                  go_ret2
                  exact gmk_no2 (hXw.out.trans hE5) hall.out hng.out
                · have hi4 : ¬ (0 : Int) < (s.num : Int) := by omega
                  have hyes : Hid (mkS [] [] q = mkS (q.take (j + 1)) (keepS ((saG S).map Sa.bare) y.bare) (q.drop (j + 1))) := Lib.hid (by rw [hmk2.out, if_pos ⟨by omega, by omega, i3, fun p hp he => i4 ((hcs.out.2 _ _ hs'.out).2 ⟨p, hp, he⟩)⟩])
                  clear hmk2
                  refine bqRegion (Ext W5) (by kernel_rfl) (by kernel_rfl) (Ext.refl _).drew ?_
                  iterate 1 (refine bqStep (fun K hK => ?_); go_simp; first | (refine hK _ ?_; clear hK K) | (refine ⟨_, fun _ _ => rfl, hK _ ?_⟩; clear hK K))
                  refine bqCell (by rfl) 5 _ (by rfl) g 0 (by rfl) _ (fun w' h => h.cell y0) _ Tryz.underlying5 rfl ?_
                  simp only [Act.put, List.setIfInBounds_toArray, List.set_cons_zero, List.set_cons_succ]
                  iterate 3 (refine bqStep (fun K hK => ?_); go_simp; first | (refine hK _ ?_; clear hK K) | (refine ⟨_, fun _ _ => rfl, hK _ ?_⟩; clear hK K))
                  refine bqCell (by rfl) 5 _ (by rfl) g 0 (by rfl) _ (fun w' h => h.cell y0) _ Tryz.underlying5 rfl ?_
                  simp only [Act.put, List.setIfInBounds_toArray, List.set_cons_zero, List.set_cons_succ]
                  iterate 4 (refine bqStep (fun K hK => ?_); go_simp; first | (refine hK _ ?_; clear hK K) | (refine ⟨_, fun _ _ => rfl, hK _ ?_⟩; clear hK K))
                  refine bqCell (by rfl) 62 _ (by rfl) g 1 (by rfl) _ (fun w' h => h.cell y1) _ Tryz.underlying62 rfl ?_
                  simp only [Act.put, List.setIfInBounds_toArray, List.set_cons_zero, List.set_cons_succ]
                  iterate 5 (refine bqStep (fun K hK => ?_); go_simp; first | (refine hK _ ?_; clear hK K) | (refine ⟨_, fun _ _ => rfl, hK _ ?_⟩; clear hK K))
                  refine bqCell (by rfl) 5 _ (by rfl) g 0 (by rfl) _ (fun w' h => h.cell y0) _ Tryz.underlying5 rfl ?_
                  simp only [Act.put, List.setIfInBounds_toArray, List.set_cons_zero, List.set_cons_succ]
                  iterate 4 (refine bqStep (fun K hK => ?_); go_simp; first | (refine hK _ ?_; clear hK K) | (refine ⟨_, fun _ _ => rfl, hK _ ?_⟩; clear hK K))
                  refine bqCell (by rfl) 62 _ (by rfl) st (1 + y.cl * 4) (by rfl) _ (fun w' h => h.cell d5) _ Tryz.underlying62 rfl ?_
                  simp only [Act.put, List.setIfInBounds_toArray, List.set_cons_zero, List.set_cons_succ]
                  iterate 2 (refine bqStep (fun K hK => ?_); go_simp; first | (refine hK _ ?_; clear hK K) | (refine ⟨_, fun _ _ => rfl, hK _ ?_⟩; clear hK K))
                  refine bqNil (fun w5 hE5 => ?_)
                  have hW6 := hE5
                  have hG6 := Lib.hid (hG5.out.ext hW6)
                  have hr6' := Lib.hid (hW6.row hr5'.out)
                  have hX6 := Lib.hid (hXw.out.trans hE5)
                  clear hG5 hr5' y0 y1 y2 y3 y4 d5 hW6 hXw hE5
                  obtain ⟨W6, hW6e⟩ : ∃ W6, W6 = w5 := ⟨_, rfl⟩
                  rw [← hW6e] at hG6 hr6' hX6 ⊢
                  clear hW6e
                  obtain ⟨y0, y1, y2, y3, y4⟩ := sa_cs hr6'.out
                  have hSS : Hid (∀ w', Ext W6 w' → w'.cell? ⟨g, 0, none⟩ = some (.int .u8 (y.cl : Int)) ∧ w'.cell? ⟨g, 1, none⟩ = some (.int .u32 (y.num : Int)) ∧ w'.cell? ⟨g, 2, none⟩ = some (.int .i64 y.e) ∧ w'.cell? ⟨g, 3, none⟩ = some (.bool y.yes) ∧ w'.cell? ⟨g, 4, none⟩ = some (.slice va y.rows.length vc)) := Lib.hid (fun w' h => ⟨h.cell y0, h.cell y1, h.cell y2, h.cell y3, h.cell y4⟩)
                  have hgs' : ¬ g = st := by omega
                  have hpos : 0 < y.num := by omega
                  clear y0 y1 y2 y3 y4 hi1 hi2 hi3 hi4
                  have hnext : Hid (∀ v, mkS [] [] q = mkS (q.take (j + 1)) ((saG (S.set y.cl ⟨y.cl, y.num, y.e, y.yes, y.rows, v⟩)).map Sa.bare) (q.drop (j + 1)) ∧ ClsS (S.set y.cl ⟨y.cl, y.num, y.e, y.yes, y.rows, v⟩) ∧ ∀ c s, (S.set y.cl ⟨y.cl, y.num, y.e, y.yes, y.rows, v⟩)[c]? = some s → (0 < s.num ↔ ∃ p ∈ q.take (j + 1), p.cl = c)) := Lib.hid (fun v => by
                    refine ⟨?_, cls_set hcs.out.1 ⟨y.cl, y.num, y.e, y.yes, y.rows, v⟩, fun c s h => ?_⟩
                    · have h1 := keepG hcs.out.1 (x := ⟨y.cl, y.num, y.e, y.yes, y.rows, v⟩) (by rw [h9'.out]; exact j2) hpos
                      rw [← h1, keepS_bare, hyes.out]; rfl
                    · by_cases e : y.cl = c
                      · subst e
                        have hl : y.cl < S.length := by rw [h9'.out]; exact j2
                        rw [List.getElem?_set_self hl] at h
                        injection h with h
                        rw [← h]
                        exact ⟨fun _ => ⟨y, by rw [htk.out]; simp, rfl⟩, fun _ => hpos⟩
                      · rw [List.getElem?_set_ne e] at h
                        rw [hcs.out.2 c s h, htk.out]
                        constructor
                        · rintro ⟨p, hp, he⟩; exact ⟨p, List.mem_append_left _ hp, he⟩
                        · rintro ⟨p, hp, he⟩
                          rcases List.mem_append.1 hp with hp | hp
                          · exact ⟨p, hp, he⟩
                          · rw [List.mem_singleton.1 hp] at he; exact absurd he e)
                  clear i1 i2 i3 i4 hb3
                  go_upto_region 14 with fail
                  go_region_held3 (fun w' => w'.cell? ⟨g, 0, none⟩ = some (.int .u8 (y.cl : Int)) ∧ w'.cell? ⟨g, 1, none⟩ = some (.int .u32 (y.num : Int)) ∧ w'.cell? ⟨g, 2, none⟩ = some (.int .i64 y.e) ∧ w'.cell? ⟨g, 3, none⟩ = some (.bool y.yes) ∧ w'.cell? ⟨g, 4, none⟩ = some (.slice va y.rows.length vc)) (first | exact hSS.out _ (Ext.refl W6).drew | exact hSS.out _ hX2 | exact hS3) (first | (go_at_call 43; refine (twin_litG _ y.e y.yes y.rows va vc (hyr.out.ext (hX6.out.trans (Ext.refl W6).drew)) hyn).mono ?_; rintro e w2 ⟨a2, c2, rfl, ho2, hE2⟩; have hX2 := (Ext.refl W6).drew.trans hE2; have hG2 := hG6.out.ext hX2; have hst2 := hG2.row.2.2.1; have hth2 := sg_there hst2 (c := y.cl) (by rw [h9'.out]; exact j2); have hfin := Lib.hid (hG2.say ⟨y.cl, y.num, y.e, y.yes, y.rows, .slice a2 y.rows.length c2⟩ j2 (ho2.weak hG6.out.ground.size)); have hnx := Lib.hid (hnext.out (.slice a2 y.rows.length c2)); clear ho2 hG2; have f0 := fz (o := 1 + y.cl * 4) hst2; have f1 := fz (o := 1 + y.cl * 4 + 1) hst2; have f2 := fz (o := 1 + y.cl * 4 + 2) hst2; have f3 := fz (o := 1 + y.cl * 4 + 3) hst2; obtain ⟨s0, s1, s2, s3⟩ := sg_cells hst2 hs'.out; clear hst2; have hc3 := hSS.out _ hX2; have hS3 := And.intro ((setCells_off (b := st) (svg ⟨y.cl, y.num, y.e, y.yes, y.rows, .slice a2 y.rows.length c2⟩) (1 + y.cl * 4) w2).cell hc3.1 hgs') (And.intro ((setCells_off (b := st) (svg ⟨y.cl, y.num, y.e, y.yes, y.rows, .slice a2 y.rows.length c2⟩) (1 + y.cl * 4) w2).cell hc3.2.1 hgs') (And.intro ((setCells_off (b := st) (svg ⟨y.cl, y.num, y.e, y.yes, y.rows, .slice a2 y.rows.length c2⟩) (1 + y.cl * 4) w2).cell hc3.2.2.1 hgs') (And.intro ((setCells_off (b := st) (svg ⟨y.cl, y.num, y.e, y.yes, y.rows, .slice a2 y.rows.length c2⟩) (1 + y.cl * 4) w2).cell hc3.2.2.2.1 hgs') ((setCells_off (b := st) (svg ⟨y.cl, y.num, y.e, y.yes, y.rows, .slice a2 y.rows.length c2⟩) (1 + y.cl * 4) w2).cell hc3.2.2.2.2 hgs')))); clear hc3) | fail)
                  all_goals
                    clear hS3 s0 s1 s2 s3 f0 f1 f2 f3 hth2
                    go_wp2_with fail
                    go_roundw
                    case rel => exact ⟨j + 1, S.set y.cl ⟨y.cl, y.num, y.e, y.yes, y.rows, .slice a2 y.rows.length c2⟩, by omega, by go_num, Lib.hid hnx.out.1, hfin.out, Lib.hid hnx.out.2⟩
                    case measure => simp [intOf]; omega
        · have hli : ¬ (j : Int) < (m : Int) := by omega
          have hfin : Hid (mkS [] [] q = some ((saG S).map Sa.bare)) := Lib.hid (by rw [hmk.out, List.drop_of_length_le (by rw [← hm.out]; omega)]; rfl)
          go_wp2_with fail
          go_ret2
          exact gmk_yes hG.ground hall.out hfin.out hG hcs.out.1 rfl
end Go.Proofs.YthageoibkeebhaaGreatDoor

/- A state's Said, whatever rows the kept replies have. No condition. -/
namespace Go.Proofs.YthageoibkeebhaaGreatDoor
open Go.RowKit
set_option maxRecDepth 100000
set_option maxHeartbeats 4000000
theorem last_indexG {S : List Sa} (h : S.length = 9) {k : Nat} {s : Sa} (hk : S[k]? = some s) (w : World) : (Instr.index 94 (.agg (S.flatMap svg).toArray) (.int .i64 (k : Int))).run Tryz.prog w = .ok (.agg #[.int .u32 (s.num : Int), .int .i64 s.e, .bool s.yes, s.v]) w := by
  match S, h with
  | [s0, s1, s2, s3, s4, s5, s6, s7, s8], _ =>
    have hk9 : k < 9 := (List.getElem?_eq_some_iff.1 hk).1
    match k, hk9 with
    | 0, _ => obtain rfl : s0 = s := by simpa using hk
              show _ = _; kernel_rfl
    | 1, _ => obtain rfl : s1 = s := by simpa using hk
              show _ = _; kernel_rfl
    | 2, _ => obtain rfl : s2 = s := by simpa using hk
              show _ = _; kernel_rfl
    | 3, _ => obtain rfl : s3 = s := by simpa using hk
              show _ = _; kernel_rfl
    | 4, _ => obtain rfl : s4 = s := by simpa using hk
              show _ = _; kernel_rfl
    | 5, _ => obtain rfl : s5 = s := by simpa using hk
              show _ = _; kernel_rfl
    | 6, _ => obtain rfl : s6 = s := by simpa using hk
              show _ = _; kernel_rfl
    | 7, _ => obtain rfl : s7 = s := by simpa using hk
              show _ = _; kernel_rfl
    | 8, _ => obtain rfl : s8 = s := by simpa using hk
              show _ = _; kernel_rfl
theorem sg_range {w : World} {st mb : Nat} {S : List Sa} (hw : w.heap[st]? = some (.cells (stRowG mb S) 96 (0, 0))) : w.rangeAt st 1 (S.flatMap svg) := fun j v hv => by
  rw [cell_of_row _ _ _ _ 96 (0, 0) hw]
  unfold stRowG
  rw [List.getElem?_toArray, show 1 + j = j + 1 by omega, List.getElem?_cons_succ]; exact hv
theorem flat_lenG : ∀ S : List Sa, (S.flatMap svg).length = S.length * 4
  | [] => rfl
  | s :: r => by rw [List.flatMap_cons, List.length_append, flat_lenG r, List.length_cons, show (svg s).length = 4 from rfl]; omega
theorem saG_add (S : List Sa) (s : Sa) : saG (S ++ [s]) = if 0 < s.num then saG S ++ [s] else saG S := by
  unfold saG
  rw [List.filter_append]
  by_cases h : 0 < s.num
  · rw [if_pos h]; simp [h]
  · rw [if_neg h]; simp [h]
theorem row_kept_ty {w w' : World} {base : Nat} {e : TypeId} {z n : Nat} {v : Value} {xs : List Value} (ho : OwnC w base e z v n xs) (hg : w.grownBy w' v.ownBlock) {g : Nat} {c : Array Value} {t : TypeId} (h : w.heap[g]? = some (.cells c t (0, 0))) (hne : t ≠ e) : w'.heap[g]? = some (.cells c t (0, 0)) := by
  refine (hg.block g (Array.getElem?_eq_some_iff.1 h).1 (fun he => ?_)).trans h
  obtain ⟨d, hd⟩ := own_ty ho he.symm
  rw [h] at hd
  injection hd with hd
  injection hd with _ hd
  exact hne hd
/-- No two have their rows in one block. -/
def SaSep (sd : List Sa) : Prop := sd.Pairwise fun p q => ∀ b, p.v.ownBlock = some b → q.v.ownBlock ≠ some b
theorem SaSep.snoc {sd : List Sa} {x : Sa} {w : World} {base : Nat} (h : SaSep sd) (ho : SaOwn w base sd) (hx : ∀ b, x.v.ownBlock = some b → w.heap.size ≤ b) : SaSep (sd ++ [x]) := by
  unfold SaSep
  rw [List.pairwise_append]
  refine ⟨h, List.pairwise_singleton _ _, fun p hp q hq b hb hqb => ?_⟩
  rw [List.mem_singleton.1 hq] at hqb
  have h1 := ((ho p hp).lt b hb).2
  have h2 := hx b hqb
  omega
def SaidsY (sq : List Sa) (w : World) (e : Ending) (w' : World) : Prop := ∃ sd' a cap, e = .returned (.slice a sq.length cap) ∧ sd'.map Sa.bare = sq ∧ OwnC w' w.heap.size 87 5 (.slice a sq.length cap) sq.length (sd'.flatMap Sa.cells) ∧ SaOwn w' w.heap.size sd' ∧ SaSep sd' ∧ Ext w w'
theorem st_saidG {w0 w : World} {st mb : Nat} {l : List Rw} {S : List Sa} (hS : StG w0 w st mb l S) (hcl : ClsS S) (hrn : ∀ p ∈ saG S, p.rows.length ≤ 1000000) : Calls Tryz.prog 16 #[.pointer (some ⟨st, 0, none⟩)] w (SaidsY ((saG S).map Sa.bare) w) := by
  obtain ⟨_, h9, hst, hso⟩ := hS.row
  obtain ⟨rs, _, hhead⟩ := hS.head
  have hth := st_thereG (w0 := w0) (rs := rs) hhead
  have hrg := sg_range hst
  have hfl : (S.flatMap svg).length = 36 := by rw [flat_lenG, h9]
  have hix := fun (k : Nat) (s : Sa) (hk : S[k]? = some s) (W : World) => last_indexG h9 hk W
  obtain ⟨A, hA⟩ : ∃ A, A = (S.flatMap svg).toArray := ⟨_, rfl⟩
  have hix' := Lib.hid hix
  have hinf : (Tryz.prog.info? 94).map (·.size) = some (S.flatMap svg).length := by rw [hfl]; exact info_lasts
  have hinf' := Lib.hid hinf
  have h9' := Lib.hid h9
  have hA' := Lib.hid hA
  have hcl' := Lib.hid hcl
  have hrn' := Lib.hid hrn
  have hso' := Lib.hid hso
  clear hS hst hix hinf hfl hA h9 hcl hrn hso hhead
  go_enter Tryz.func16, Tryz.ntmps16
  go_wp2_with fail
  refine hth.mono ?_
  rintro e w' ⟨rfl, rfl⟩
  clear hth
  go_wp2_with (first | (refine wpList_load_mid (by rfl) 94 (.tmp 10) (by rfl) st 1 (by rfl) (S.flatMap svg) _ hrg Tryz.underlying94 rfl hinf'.out ?_; rw [← hA'.out]) | fail)
  clear hrg
  go_loopw [2, 12] (fun out i wr => ∃ (k n : Nat) (a : Option Addr) (cap : Nat) (sd' : List Sa), k ≤ 9 ∧ i = .int .i64 k ∧ out = .slice a n cap ∧ Hid (n = (saG (S.take k)).length ∧ n ≤ k ∧ sd'.map Sa.bare = (saG (S.take k)).map Sa.bare) ∧ OwnC wr w.heap.size 87 5 (.slice a n cap) n (sd'.flatMap Sa.cells) ∧ Hid (SaOwn wr w.heap.size sd' ∧ SaSep sd') ∧ Ext w wr) (fun _ i _ => 9 - (intOf i).toNat)
  case atStart => exact ⟨0, 0, none, 0, [], by omega, rfl, rfl, Lib.hid ⟨rfl, Nat.le_refl _, rfl⟩, OwnC.nil _ _ _ _, Lib.hid ⟨SaOwn.nil _ _, List.Pairwise.nil⟩, Ext.refl _⟩
  case round =>
    obtain ⟨k, n, oa, oc, sd', hk, rfl, rfl, hn, hown, hvs, hE⟩ := hrel
    have hnk := hn.out.2.1
    by_cases hlt : k < 9
    · have hli : (k : Int) < 9 := by omega
      obtain ⟨s, hs⟩ : ∃ s, S[k]? = some s := ⟨_, List.getElem?_eq_getElem (by rw [h9'.out]; exact hlt)⟩
      have hi := hix'.out k s hs
      rw [← hA'.out] at hi
      obtain ⟨va, vc, hv, _⟩ := (hso'.out s (List.mem_of_getElem? hs)).form
      have hvr : Hid (∀ W, Ext w W → RowIs W 2 (.slice va s.rows.length vc) s.rows.length (s.rows.flatMap rwL)) := Lib.hid (fun W hW => by rw [← hv]; exact ((hso'.out s (List.mem_of_getElem? hs)).ext hW).row)
      rw [hv] at hi
      have hsn0 : Hid (0 < s.num → s.rows.length ≤ 1000000) := Lib.hid (fun h0 => hrn'.out s (List.mem_filter.2 ⟨List.mem_of_getElem? hs, by simpa using h0⟩))
      have htk : S.take (k + 1) = S.take k ++ [s] := by rw [List.take_add_one, hs]; rfl
      have hsl : Hid (saG (S.take (k + 1)) = if 0 < s.num then saG (S.take k) ++ [s] else saG (S.take k)) := Lib.hid (by rw [htk, saG_add])
      have hck : Hid (s.cl = k) := Lib.hid (hcl'.out k s hs)
      clear hs htk hv
      have hsz := hE.size
      have hX4 : Ext wr (wr.alloc (.cells #[.int .u32 (s.num : Int), .int .i64 s.e, .bool s.yes, .slice va s.rows.length vc] 93)) := (Ext.refl wr).alloc _
      by_cases hnum : 0 < s.num
      · have hni : (0 : Int) < (s.num : Int) := by omega
        have hsn := hsn0.out hnum
        have hwc : IntKind.u8.wrap (k : Int) = k := by rw [IntKind.wrap_u8]; omega
        have hk0 : 0 ≤ (k : Int) := by omega
        go_upto_region 7 with fail
        have hrw4 := heap_alloc_new wr (.cells #[.int .u32 (s.num : Int), .int .i64 s.e, .bool s.yes, .slice va s.rows.length vc] 93)
        have hown4 := hown.ext hX4
        have hvs4 := Lib.hid (And.intro (hvs.out.1.ext hX4) hvs.out.2)
        have hg4 : w.heap.size ≤ wr.heap.size := hsz
        have hE4 := hE.trans hX4
        clear hown hE hX4 hvs
        generalize wr.alloc _ = W4 at *
        generalize wr.heap.size = g at *
        have c0 : W4.cell? ⟨g, 0, none⟩ = some (.int .u32 (s.num : Int)) := by rw [cell_of_row _ _ 0 _ 93 (0, 0) hrw4]; rfl
        have c1 : W4.cell? ⟨g, 1, none⟩ = some (.int .i64 s.e) := by rw [cell_of_row _ _ 1 _ 93 (0, 0) hrw4]; rfl
        have c2 : W4.cell? ⟨g, 2, none⟩ = some (.bool s.yes) := by rw [cell_of_row _ _ 2 _ 93 (0, 0) hrw4]; rfl
        have c3 : W4.cell? ⟨g, 3, none⟩ = some (.slice va s.rows.length vc) := by rw [cell_of_row _ _ 3 _ 93 (0, 0) hrw4]; rfl
        have hSS : Hid (∀ w' : World, w'.heap[g]? = some (.cells #[.int .u32 (s.num : Int), .int .i64 s.e, .bool s.yes, .slice va s.rows.length vc] 93 (0, 0)) → w'.cell? ⟨g, 0, none⟩ = some (.int .u32 (s.num : Int)) ∧ w'.cell? ⟨g, 1, none⟩ = some (.int .i64 s.e) ∧ w'.cell? ⟨g, 2, none⟩ = some (.bool s.yes) ∧ w'.cell? ⟨g, 3, none⟩ = some (.slice va s.rows.length vc)) := Lib.hid (fun w' h => ⟨by rw [cell_of_row _ _ 0 _ 93 (0, 0) h]; rfl, by rw [cell_of_row _ _ 1 _ 93 (0, 0) h]; rfl, by rw [cell_of_row _ _ 2 _ 93 (0, 0) h]; rfl, by rw [cell_of_row _ _ 3 _ 93 (0, 0) h]; rfl⟩)
        have hrw4' := Lib.hid hrw4
        have hs4 := hE4.size
        have hown' := Lib.hid hown4
        clear c0 c1 c2 c3 hrw4 hi hix' hown4
        go_region_held3 (fun w' => w'.cell? ⟨g, 0, none⟩ = some (.int .u32 (s.num : Int)) ∧ w'.cell? ⟨g, 1, none⟩ = some (.int .i64 s.e) ∧ w'.cell? ⟨g, 2, none⟩ = some (.bool s.yes) ∧ w'.cell? ⟨g, 3, none⟩ = some (.slice va s.rows.length vc)) (first | exact hSS.out _ ((Ext.refl W4).drew.row hrw4'.out) | exact hSS.out _ (hX2.row hrw4'.out) | exact hSS.out _ ((hX2.alloc _).row hrw4'.out) | exact hS3) (first | (go_at_call 43; refine (twin_litG _ s.e s.yes s.rows va vc (hvr.out _ (hE4.trans (Ext.refl W4).drew)) hsn).mono ?_; rintro e w2 ⟨a2, c2, rfl, ho2, hE2⟩; have hX2 := (Ext.refl W4).drew.trans hE2; have hown2 := hown'.out.ext hX2; have hs2 := Nat.le_trans hs4 hX2.size; have ho2' := Lib.hid ho2; clear ho2) | ((refine step_append_c rfl (.tmp 19) (.tmp 28) 23 87 rfl Tryz.underlying23 el_said w2 w.heap.size n _ (.slice oa n oc) (by rfl) hown2 #[.int .u8 (k : Int), .int .u32 (s.num : Int), .int .i64 s.e, .bool s.yes, .slice a2 s.rows.length c2] (by rfl) (by rfl) (by simp [Value.oneCell']) (by omega) (by omega) hs2 ?_); (intro v' w3 hA3); (have hgr3 := hA3.grown); (have hS3 := hSS.out _ (row_kept_ty hown2 hgr3 (hX2.row hrw4'.out) (by decide))); (have hE3 : Ext w w3 := Below.trans (hE4.trans hX2) hA3.below); (have hgr3' := Lib.hid hgr3); (have ho3 := Lib.hid hA3.own); (clear hgr3 hA3)) | fail)
        all_goals
          obtain ⟨oa', oc', rfl, _⟩ := ho3.out.form
          have hfin : saG (S.take (k + 1)) = saG (S.take k) ++ [s] := by rw [hsl.out, if_pos hnum]
          have hn2 : Hid (n + 1 = (saG (S.take (k + 1))).length ∧ n + 1 ≤ k + 1 ∧ (sd' ++ [(⟨k, s.num, s.e, s.yes, s.rows, .slice a2 s.rows.length c2⟩ : Sa)]).map Sa.bare = (saG (S.take (k + 1))).map Sa.bare) := Lib.hid (by
            refine ⟨by rw [hfin, List.length_append, ← hn.out.1]; rfl, by omega, ?_⟩
            rw [hfin, List.map_append, List.map_append, hn.out.2.2]
            show _ ++ [_] = _ ++ [_]
            rw [show s.bare = ⟨k, s.num, s.e, s.yes, s.rows, .slice none 0 0⟩ by unfold Sa.bare; rw [hck.out]]
            rfl)
          have hvs3 : Hid (SaOwn w3 w.heap.size (sd' ++ [(⟨k, s.num, s.e, s.yes, s.rows, .slice a2 s.rows.length c2⟩ : Sa)]) ∧ SaSep (sd' ++ [(⟨k, s.num, s.e, s.yes, s.rows, .slice a2 s.rows.length c2⟩ : Sa)])) := Lib.hid (by
            have h1 : SaOwn w2 w.heap.size sd' := hvs4.out.1.ext hX2
            refine ⟨SaOwn.snoc (fun p hp => own_kept_ty (by decide) (h1 p hp) hown2 hgr3'.out) (own_kept_ty (by decide) (ho2'.out.weak hs4) hown2 hgr3'.out), ?_⟩
            exact SaSep.snoc hvs4.out.2 hvs4.out.1 (fun b hb => (ho2'.out.lt b hb).1))
          have ho7 : Hid (OwnC w3 w.heap.size 87 5 (.slice oa' (n + 1) oc') (n + 1) ((sd' ++ [(⟨k, s.num, s.e, s.yes, s.rows, .slice a2 s.rows.length c2⟩ : Sa)]).flatMap Sa.cells)) := Lib.hid (by rw [List.flatMap_append]; exact ho3.out)
          clear hfin ho3 hS3 hown2 ho2' hgr3' hX2 hE2
          go_wp2_with fail
          go_roundw
          case rel => exact ⟨k + 1, n + 1, oa', oc', _, by omega, by go_num, rfl, hn2, ho7.out, hvs3, hE3⟩
          case measure => simp [intOf]; omega
      · have hni : ¬ (0 : Int) < (s.num : Int) := by omega
        have hfin : saG (S.take (k + 1)) = saG (S.take k) := by rw [hsl.out, if_neg hnum]
        have hn2 : Hid (n = (saG (S.take (k + 1))).length ∧ n ≤ k + 1 ∧ sd'.map Sa.bare = (saG (S.take (k + 1))).map Sa.bare) := Lib.hid (by rw [hfin]; exact ⟨hn.out.1, by omega, hn.out.2.2⟩)
        have hown4 := hown.ext hX4
        have hvs4 := Lib.hid (And.intro (hvs.out.1.ext hX4) hvs.out.2)
        have hE4 := hE.trans hX4
        clear hfin hown hE hX4 hvs
        go_wp2_with fail
        go_roundw
        case rel => exact ⟨k + 1, n, oa, oc, sd', by omega, by go_num, rfl, hn2, hown4, hvs4, hE4⟩
        case measure => simp [intOf]; omega
    · have hli : ¬ (k : Int) < 9 := by omega
      have hkl : S.take k = S := List.take_of_length_le (by rw [h9'.out]; omega)
      rw [hkl] at hn
      clear hkl
      go_wp2_with fail
      go_ret
      have hn2 : n = ((saG S).map Sa.bare).length := by rw [List.length_map]; exact hn.out.1
      exact ⟨sd', oa, oc, by rw [← hn2]; rfl, hn.out.2.2, by rw [← hn2]; exact hown, hvs.out.1, hvs.out.2, hE⟩
end Go.Proofs.YthageoibkeebhaaGreatDoor
