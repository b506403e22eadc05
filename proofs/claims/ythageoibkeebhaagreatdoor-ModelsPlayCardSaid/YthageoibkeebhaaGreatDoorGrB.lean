/- Several texts in one: Mod4 Mod3. No condition. -/
import Derived.Test.YthageoibkeebhaaGreatDoorGrA
import Derived.Test.YthageoibkeebhaaGreatDoorIter
import Derived.Deep.CutRange
import Derived.Deep.RegionWith
import Derived.Deep.RegionHeld3
import Derived.BigRegion
/- A state's Rows. ('Iter': the layings that lay-iter.mjs printed, in plain words; its names hold this dump's numbers.) No condition. -/
namespace Go.Proofs.YthageoibkeebhaaGreatDoor
open Go.RowKit Go.Maps Go.WideMaps
set_option maxRecDepth 100000
set_option maxHeartbeats 2000000
def rwL (r : Rw) : List Value := [.string r.key, .string r.val]
theorem before_le : ∀ {a b : List UInt8}, bytesBefore a b = true → a ≤ b
  | [], [], h => by cases h
  | [], _ :: _, _ => List.nil_le _
  | _ :: _, [], h => by cases h
  | x :: a, y :: b, h => by
    simp only [bytesBefore, Bool.or_eq_true, decide_eq_true_eq, Bool.and_eq_true, beq_iff_eq] at h
    rw [List.cons_le_cons_iff]
    rcases h with h | ⟨h, h2⟩
    · exact .inl h
    · exact .inr ⟨h, before_le h2⟩
/-- The keys of a map's rows rise. -/
theorem MapAt.rise {w : World} {base mb : Nat} {rs : List (Rw × Nat)} (h : MapAt w base mb rs) : rs.Pairwise fun p q => bytesBefore p.1.key.data.toList q.1.key.data.toList = true := by
  obtain ⟨es, he, hp, _⟩ := h.1.canon keyed
  unfold dOf at he
  injection he with he
  rw [← he] at hp
  exact List.pairwise_map.1 hp
theorem sort_keys {rs : List (Rw × Nat)} (hr : rs.Pairwise fun p q => bytesBefore p.1.key.data.toList q.1.key.data.toList = true) {ss : List (List UInt8)} (hp : ss.Perm (strKeys (dOf rs))) : ss.mergeSort (fun x y => decide (x ≤ y)) = rs.map fun p => p.1.key.data.toList := by
  rw [dOf_keys] at hp
  have := mergeSort_of_perm hp
  unfold leB at this
  rw [this]
  refine List.mergeSort_of_pairwise (List.pairwise_map.2 (hr.imp fun h => ?_))
  exact decide_eq_true (before_le h)
theorem find_key {rs : List (Rw × Nat)} (hr : rs.Pairwise fun p q => bytesBefore p.1.key.data.toList q.1.key.data.toList = true) {k : Nat} {p : Rw × Nat} (hk : rs[k]? = some p) : rs.find? (keyIs p.1.key) = some p := by
  obtain ⟨hlt, rfl⟩ := List.getElem?_eq_some_iff.1 hk
  refine List.find?_eq_some_iff_append.2 ⟨by unfold keyIs; simp, rs.take k, rs.drop (k + 1), ?_, fun q hq => ?_⟩
  · rw [← List.drop_eq_getElem_cons hlt, List.take_append_drop]
  · obtain ⟨j, hj, rfl⟩ := List.getElem_of_mem hq
    rw [List.length_take] at hj
    rw [List.getElem_take]
    have := List.pairwise_iff_getElem.1 hr j k (by omega) hlt (by omega)
    unfold keyIs
    rw [Bool.not_eq_true', beq_eq_false_iff_ne]
    intro he
    rw [he, Go.WideAt.bytes_irrefl] at this; cases this
theorem el_row : ElemIs Tryz.prog 84 2 32 := by
  refine ElemIs.mk (z := .agg #[.string ⟨#[]⟩, .string ⟨#[]⟩]) (by kernel_rfl) (by kernel_rfl) (by decide)
theorem info_row : (Tryz.prog.info? 84).map (·.size) = some 2 := by kernel_rfl
theorem rowR_one (r : Rw) : (rowR r).all (·.oneCell') = true := by kernel_rfl
theorem own_slice {w : World} {base : Nat} {e : TypeId} {size : Nat} {v : Value} {n : Nat} {xs : List Value} (h : w.ownsRow base e size v n xs) : ∃ a cap, v = .slice a n cap ∧ n ≤ cap := by
  obtain ⟨_, ⟨h1, h0⟩ | ⟨g, cap, cur, rfl, hb, _, hc, hm, _⟩⟩ := h
  · exact ⟨none, 0, by rw [h1, h0], by omega⟩
  · exact ⟨_, cap, rfl, hc⟩
theorem run_bs_row (r : Rw) (w : World) : (Instr.buildSlice 22 1 #[(0, .agg (rowR r))]).run Tryz.prog w = .ok (.slice (some ⟨w.heap.size, 0, none⟩) 1 1) (w.alloc (.cells (rowR r) 84)) := by kernel_rfl
theorem wpList_bs_row {ops : Array Oper} {rest : List Oper} {o : Oper} {a : Act} {Q : Exit → Act → World → Prop} {w : World} (hgd : o.guard = none) (p : Operand) (ho : o.op = .buildSlice 22 1 #[(0, p)]) (r : Rw) (hp : a.eval p = .agg (rowR r))
    (h : wpList Tryz.prog ops Q rest (a.put o.dst (.slice (some ⟨w.heap.size, 0, none⟩) 1 1)) (w.alloc (.cells (rowR r) 84))) : wpList Tryz.prog ops Q (o :: rest) a w := by
  refine wpList_plain hgd fun K hK => ?_
  unfold Oper.wp execOp
  simp only [ho, hp, List.map_toArray, List.map_cons, List.map_nil, Sem.run_bind, Result.andThen_ok, run_bs_row, Sem.run_pure]
  exact hK _ _ h
theorem row_range {w : World} {b : Nat} {r : Rw} (h : w.heap[b]? = some (.cells (rowR r) 84 (0, 0))) : w.rangeAt b 0 (rowR r).toList := fun j v hv => by
  rw [Nat.zero_add, cell_of_row _ _ j _ 84 (0, 0) h, ← hv]; simp
/-- What Rows tells: all rows, in order, in memory of the call's own. -/
def RowsE (l : List Rw) (w : World) (e : Ending) (w' : World) : Prop := ∃ a cap, e = .returned (.slice a l.length cap) ∧ l.length ≤ cap ∧ w'.ownsRow w.heap.size 84 2 (.slice a l.length cap) l.length (l.flatMap rwL) ∧ Ext w w'
theorem st_rows {w0 w : World} {st : Nat} {rs : List (Rw × Nat)} {sd : List Sv} (hS : StX w0 w st rs sd) (hn : rs.length ≤ 1000000) (hks : ∀ p ∈ rs, p.1.key.size ≤ 140737488351232) : Calls Tryz.prog 15 #[.pointer (some ⟨st, 0, none⟩)] w (RowsE (rs.map Prod.fst) w) := by
  obtain ⟨mb, hM, hc0⟩ := hS.map
  have hr := hM.rise
  have hkeys := fun (W : World) => callsIn_wide.1 (Tryz.maps_Keys_56 (some mb) W)
  have hS' := Lib.hid hS
  have hM' := Lib.hid hM
  have hr' := Lib.hid hr
  have hks' := Lib.hid hks
  have hkeys' := Lib.hid hkeys
  clear hS hM hr hks hkeys
  go_enter Tryz.func15, Tryz.ntmps15
  go_wp2_with fail
  refine (st_there hS'.out).mono ?_
  rintro e w' ⟨rfl, rfl⟩
  go_wp2_with fail
  refine (hkeys'.out _).mono ?_
  rintro e w1 ⟨rfl, rfl⟩
  have hE1 : Ext w (w.alloc (.cells #[.map (some mb)] 91)) := (Ext.refl _).alloc _
  have hsort : Calls Tryz.prog 55 #[.func (.func 118) #[] #[.pointer (some ⟨w.heap.size, 0, none⟩)]] (w.alloc (.cells #[.map (some mb)] 91)) fun e w' => ∃ ka kc, e = .returned (.slice ka rs.length kc) ∧ RowIs w' 1 (.slice ka rs.length kc) rs.length (rs.map fun p => .string p.1.key) ∧ Ext w w' := by
    refine (callsIn_wide.1 (Tryz.slices_Sorted_keys_55_56 mb rs.length (dOf rs) rdP w hM'.out.1 (by rw [dOf_size]; unfold maxLen; omega) (by rw [dOf_size]; omega))).mono ?_
    rintro e w2 ⟨v, ss, rfl, hp, ho, _, hB⟩
    have hlen : ss.length = rs.length := by rw [hp.length_eq, dOf_keys, List.length_map]
    rw [sort_keys hr'.out hp, hlen] at ho
    obtain ⟨ka, kc, rfl, _⟩ := own_slice ho
    refine ⟨ka, kc, rfl, ?_, hE1.trans hB⟩
    have := RowIs.of_own ho
    rw [List.map_map] at this
    exact this
  have hsort' := Lib.hid hsort
  clear hsort
  go_wp2_with fail
  refine hsort'.out.mono ?_
  clear hsort' hE1 hkeys'
  rintro e w2 ⟨ka, kc, rfl, hK, hE2⟩
  have hK' := Lib.hid hK
  clear hK
  go_wp2_with fail
  go_loopw [2, 15] (fun out i wr => ∃ k : Nat, k ≤ rs.length ∧ i = .int .i64 k ∧ wr.ownsRow w2.heap.size 84 2 out k (((rs.take k).map Prod.fst).flatMap rwL) ∧ Ext w2 wr) (fun _ i _ => rs.length - (intOf i).toNat)
  case atStart => exact ⟨0, by omega, rfl, World.ownsRow_nil _ _ _ _, Ext.refl _⟩
  case round =>
    obtain ⟨k, hk, rfl, hown, hE⟩ := hrel
    obtain ⟨oa, ocap, rfl, hoc⟩ := own_slice hown
    by_cases hlt : k < rs.length
    · have hli : (k : Int) < (rs.length : Int) := by omega
      obtain ⟨p, hp⟩ : ∃ p, rs[k]? = some p := ⟨_, List.getElem?_eq_getElem hlt⟩
      have hpm := List.mem_of_getElem? hp
      have hEw := hE2.trans hE
      have hlk := (hM'.out.ext hEw).look p.1.key (hks'.out p hpm)
      rw [find_key hr'.out hp] at hlk
      simp only [Option.map_some] at hlk
      have hrg := row_range (hEw.row (hM'.out.2.2 p hpm).2.2)
      have hc1 := hEw.cell hc0
      obtain ⟨b, off, hat⟩ := (hK'.out.ext hE).at
      obtain ⟨rfl, _, hd⟩ := hat (by omega)
      have hkc := hd k (by omega)
      rw [List.getElem?_map, hp] at hkc
      simp only [Option.map_some] at hkc
      have htk : rs.take (k + 1) = rs.take k ++ [p] := by rw [List.take_add_one, hp]; rfl
      have htk' := Lib.hid htk
      have hsz := hE.size
      have hpk := Lib.hid hp
      clear hat hd hp htk hpm
      go_wp2_with (first | (refine wpList_load_mid (by rfl) 84 (.tmp 26) (by rfl) p.2 0 (by rfl) (rowR p.1).toList _ hrg Tryz.underlying84 rfl (by exact info_row) ?_) | (refine wpList_bs_row (by rfl) (.tmp 27) (by rfl) p.1 (by rfl) ?_) | (at_builtin; refine wpList_append_lit (by rfl) (.tmp 19) (.tmp 28) 22 84 (by rfl) Tryz.underlying22 el_row wr w2.heap.size k _ (.slice oa k ocap) (by rfl) hown (rowR p.1) (by rfl) (by rfl) (fun u hu => Array.all_eq_true_iff_forall_mem.1 (rowR_one p.1) u (by simpa using hu)) (by omega) (by omega) hsz ?_; go_loud (intro v' w3 hown2 hbel; have hX3 : Ext w2 w3 := Below.trans hE hbel)) | fail)
      go_roundw
      case rel =>
        refine ⟨k + 1, by omega, by go_num, ?_, hX3⟩
        rw [htk'.out, List.map_append, List.flatMap_append]
        simpa [rwL, rowR] using hown2
      case measure => simp [intOf]; omega
    · have hli : ¬ (k : Int) < (rs.length : Int) := by omega
      have hkl : rs.take k = rs := List.take_of_length_le (by omega)
      obtain rfl : k = rs.length := by omega
      rw [hkl] at hown
      clear hkl
      go_wp2_with fail
      go_ret
      have hl : (rs.map Prod.fst).length = rs.length := List.length_map ..
      exact ⟨oa, ocap, by rw [hl]; rfl, by rw [hl]; exact hoc, by rw [hl]; exact ownsRow_base_a hown hE2.size, hE2.trans hE⟩
end Go.Proofs.YthageoibkeebhaaGreatDoor

/- What get is answered. No condition. -/
namespace Go.Proofs.YthageoibkeebhaaGreatDoor
open Go.RowKit Go.Maps Go.WideMaps
set_option maxRecDepth 100000
set_option maxHeartbeats 2000000
theorem set_two {w : World} {b : Nat} {t : TypeId} {c0 c1 c2 v1 v2 : Value} (h : w.heap[b]? = some (.cells #[c0, c1, c2] t (0, 0))) : ((w.setCell ⟨b, 1, none⟩ v1).setCell ⟨b, 2, none⟩ v2).heap[b]? = some (.cells #[c0, v1, v2] t (0, 0)) := by
  simp [World.setCell, Array.getElem?_modify, h]
def reL (l : Value) : Array Value := #[.int .i64 0, .bool true, l]
theorem reL_one (a : Option Addr) (n c : Nat) : (reL (.slice a n c)).all (·.oneCell') = true := by kernel_rfl
/-- A reply with these rows. -/
def ReE (yes : Bool) (l : List Rw) (w : World) (e : Ending) (w' : World) : Prop := ∃ a cap, e = .returned (.agg #[.int .i64 0, .bool yes, .slice a l.length cap]) ∧ RowIs w' 2 (.slice a l.length cap) l.length (l.flatMap rwL) ∧ Ext w w'
theorem st_get {w0 w : World} {st : Nat} {rs : List (Rw × Nat)} {sd : List Sv} (hS : StX w0 w st rs sd) (x : Ak) (hx : x.key.size ≤ 140737488351232) (u : Value) : Calls Tryz.prog 148 #[.pointer (some ⟨st, 0, none⟩), .agg (x.row u)] w (ReE (rs.find? (keyIs x.key)).isSome (((rs.find? (keyIs x.key)).map Prod.fst).toList) w) := by
  obtain ⟨W, hW⟩ : ∃ W, W = (w.alloc (.cells (x.row u) 66)).alloc (.cells zRe 74) := ⟨_, rfl⟩
  have hE : Ext w W := by rw [hW]; exact ((Ext.refl _).alloc _).alloc _
  have hX : W.heap[w.heap.size]? = some (.cells (x.row u) 66 (0, 0)) := by rw [hW]; exact ((Ext.refl _).alloc _).row (heap_alloc_new w _)
  have hR : W.heap[w.heap.size + 1]? = some (.cells zRe 74 (0, 0)) := by
    have h1 := heap_alloc_new (w.alloc (.cells (x.row u) 66)) (.cells zRe 74)
    rw [show (w.alloc (.cells (x.row u) 66)).heap.size = w.heap.size + 1 by simp] at h1
    rw [hW]; exact h1
  have hWs : W.heap.size = w.heap.size + 2 := by rw [hW]; simp
  have hT := hS.ext hE
  have hrc := askc hX
  have hW' := Lib.hid hW
  clear hW hX
  unfold Ak.row zRe at hW'
  unfold Ak.row
  go_enter Tryz.func148, Tryz.ntmps148
  obtain ⟨mb, hM, hc0⟩ := hT.map
  have hlk := (hM.ext (Ext.refl W).drew).look x.key hx
  have hrow : ∀ p, rs.find? (keyIs x.key) = some p → W.heap[p.2]? = some (.cells (rowR p.1) 84 (0, 0)) ∧ p.2 < w.heap.size := fun p hp => ⟨(hM.2.2 p (List.mem_of_find?_eq_some hp)).2.2, hS.rlt (List.mem_of_find?_eq_some hp)⟩
  obtain ⟨_, k1, _⟩ := hrc
  generalize (rs.find? (keyIs x.key)) = o at *
  clear hM hT
  cases o with
  | none =>
    clear hrow
    simp only [Option.map_none] at hlk
    go_upto_region 1 with fail
    rw [← hW'.out]
    clear hW'
    go_still (by kernel_rfl)
    rw [show ({ heap := W.heap, tape := W.tape, drawn := W.drawn + 1, os := W.os, output := W.output } : World) = W.drew from rfl]
    clear hlk
    replace hR : W.drew.heap[w.heap.size + 1]? = some (.cells zRe 74 (0, 0)) := hR
    replace hE := hE.drew
    clear k1 hc0
    generalize W.drew = W2 at *
    obtain ⟨r0, r1, r2⟩ := re_cells hR
    go_wp2_with (first | (refine wpList_store_row (by rfl) 74 (.tmp 4) (.tmp 21) (by rfl) (w.heap.size + 1) zRe (by rfl) (by rfl) 74 zRe hR (by exact info_reply) (by rfl) zRe_one ?_) | fail)
    have hset : (W2.setRow (w.heap.size + 1) zRe).heap[w.heap.size + 1]? = some (.cells zRe 74 (0, 0)) := by rw [setRow_heap _ _ _ _ _ _ hR]
    have hEf : Ext w (W2.setRow (w.heap.size + 1) zRe) := hE.setRow (by omega) _
    generalize W2.setRow (w.heap.size + 1) zRe = Wf at *
    obtain ⟨b0, b1, b2⟩ := re_cells hset
    exact bodyPost_ret (v := .agg zRe) (by simp [results, Tryz.results148, go_sem, b0, b1, b2, zRe]) rfl ⟨none, 0, rfl, RowIs.nil _ _ _ _ (fun _ => rfl), hEf⟩
  | some p =>
    obtain ⟨hp, hpl⟩ := hrow p rfl
    clear hrow
    simp only [Option.map_some] at hlk
    go_upto_region 1 with fail
    rw [← hW'.out]
    clear hW'
    go_still (by kernel_rfl)
    rw [show ({ heap := W.heap, tape := W.tape, drawn := W.drawn + 1, os := W.os, output := W.output } : World) = W.drew from rfl]
    clear hlk
    replace hR : W.drew.heap[w.heap.size + 1]? = some (.cells zRe 74 (0, 0)) := hR
    replace hp : W.drew.heap[p.2]? = some (.cells (rowR p.1) 84 (0, 0)) := hp
    replace hWs : W.drew.heap.size = w.heap.size + 2 := hWs
    replace hE := hE.drew
    clear k1 hc0
    generalize W.drew = W2 at *
    obtain ⟨q0, q1⟩ := row_cells hp
    obtain ⟨r0, r1, r2⟩ := re_cells hR
    have f1 : W2.frozen? ⟨w.heap.size + 1, 1, none⟩ = false := by unfold World.frozen?; rw [hR]; simp
    have f2 : W2.frozen? ⟨w.heap.size + 1, 2, none⟩ = false := by unfold World.frozen?; rw [hR]; simp
    have n1 : w.heap.size + 1 ≠ W2.heap.size := by omega
    have n2 : W2.heap.size ≠ w.heap.size + 1 := by omega
    have n3 : p.2 ≠ W2.heap.size := by omega
    have n4 : p.2 ≠ w.heap.size + 1 := by omega
    clear hp
    go_upto_region 3 with fail
    go_region
    have hset : (((W2.setCell ⟨w.heap.size + 1, 1, none⟩ (.bool true)).setCell ⟨w.heap.size + 1, 2, none⟩ (.slice (some ⟨w.heap.size + 2, 0, none⟩) 1 1)).alloc (.cells #[.string p.1.key, .string p.1.val] 84)).drew.heap[w.heap.size + 1]? = some (.cells (reL (.slice (some ⟨w.heap.size + 2, 0, none⟩) 1 1)) 74 (0, 0)) :=
      ((Ext.refl _).alloc _).drew.row (set_two hR)
    have hnew : (((W2.setCell ⟨w.heap.size + 1, 1, none⟩ (.bool true)).setCell ⟨w.heap.size + 1, 2, none⟩ (.slice (some ⟨w.heap.size + 2, 0, none⟩) 1 1)).alloc (.cells #[.string p.1.key, .string p.1.val] 84)).drew.heap[w.heap.size + 2]? = some (.cells (rowR p.1) 84 (0, 0)) := by
      have h1 := heap_alloc_new ((W2.setCell ⟨w.heap.size + 1, 1, none⟩ (.bool true)).setCell ⟨w.heap.size + 1, 2, none⟩ (.slice (some ⟨w.heap.size + 2, 0, none⟩) 1 1)) (.cells #[.string p.1.key, .string p.1.val] 84)
      simp only [show ∀ (X : World) (a : Addr) (v : Value), (X.setCell a v).heap.size = X.heap.size from fun X a v => by simp [World.setCell], hWs] at h1
      exact h1
    have hEf : Ext w (((W2.setCell ⟨w.heap.size + 1, 1, none⟩ (.bool true)).setCell ⟨w.heap.size + 1, 2, none⟩ (.slice (some ⟨w.heap.size + 2, 0, none⟩) 1 1)).alloc (.cells #[.string p.1.key, .string p.1.val] 84)).drew := (((hE.setCell (show w.heap.size ≤ w.heap.size + 1 by omega) _).setCell (show w.heap.size ≤ w.heap.size + 1 by omega) _).alloc _).drew
    clear hR q0 q1 r0 r1 r2 f1 f2 hE hWs n1 n2 n3 n4
    generalize (((W2.setCell ⟨w.heap.size + 1, 1, none⟩ (.bool true)).setCell ⟨w.heap.size + 1, 2, none⟩ (.slice (some ⟨w.heap.size + 2, 0, none⟩) 1 1)).alloc (.cells #[.string p.1.key, .string p.1.val] 84)).drew = W3 at *
    obtain ⟨b0, b1, b2⟩ := re_cells hset
    go_wp2_with (first | (refine wpList_store_row (by rfl) 74 (.tmp 4) (.tmp 21) (by rfl) (w.heap.size + 1) (reL (.slice (some ⟨w.heap.size + 2, 0, none⟩) 1 1)) (by rfl) (by rfl) 74 (reL (.slice (some ⟨w.heap.size + 2, 0, none⟩) 1 1)) hset (by exact info_reply) (by rfl) (reL_one _ _ _) ?_) | fail)
    have hset2 : (W3.setRow (w.heap.size + 1) (reL (.slice (some ⟨w.heap.size + 2, 0, none⟩) 1 1))).heap[w.heap.size + 1]? = some (.cells (reL (.slice (some ⟨w.heap.size + 2, 0, none⟩) 1 1)) 74 (0, 0)) := by rw [setRow_heap _ _ _ _ _ _ hset]
    have hEg : Ext w (W3.setRow (w.heap.size + 1) (reL (.slice (some ⟨w.heap.size + 2, 0, none⟩) 1 1))) := hEf.setRow (by omega) _
    have hn2 : (W3.setRow (w.heap.size + 1) (reL (.slice (some ⟨w.heap.size + 2, 0, none⟩) 1 1))).heap[w.heap.size + 2]? = some (.cells (rowR p.1) 84 (0, 0)) := by rw [setRow_other _ _ _ _ (by omega)]; exact hnew
    generalize W3.setRow (w.heap.size + 1) (reL (.slice (some ⟨w.heap.size + 2, 0, none⟩) 1 1)) = Wf at *
    obtain ⟨c0, c1, c2⟩ := re_cells hset2
    refine bodyPost_ret (v := .agg (reL (.slice (some ⟨w.heap.size + 2, 0, none⟩) 1 1))) (by simp [results, Tryz.results148, go_sem, c0, c1, c2, reL]) rfl ⟨some ⟨w.heap.size + 2, 0, none⟩, 1, rfl, ?_, hEg⟩
    obtain ⟨d0, d1⟩ := row_cells hn2
    refine ⟨rfl, by simp, .inr ⟨_, 0, 1, rfl, by simp, fun i hi => ?_⟩⟩
    have hi : i < 2 := by simpa using hi
    obtain rfl | rfl : i = 0 ∨ i = 1 := by omega
    · exact d0
    · exact d1
end Go.Proofs.YthageoibkeebhaaGreatDoor
