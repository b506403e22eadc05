/- A state's Rows. ('Iter': the layings that lay-iter.mjs printed, in plain words; its names hold this dump's numbers.) No condition. -/
import Derived.Test.YtmjoaiepfipmaaaMod2
import Derived.Test.YtmjoaiepfipmaaaIter
import Derived.Deep.CutRange
namespace Go.Proofs.Ytmjoaiepfipmaaa
open Go.RowKit Go.Maps Go.WideMaps
set_option maxRecDepth 100000
set_option maxHeartbeats 2000000
def rwL (r : Rw) : List Value := [.string r.key, .string r.val]
theorem before_le : ∀ {a b : List UInt8}, bytesBefore a b = true → a ≤ b
  | [], [], h => by cases h
  | [], _ :: _, _ => List.nil_le _
  | _ :: _, [], h => by cases h
  | x :: a, y :: b, h => by
    simp only [bytesBefore, Bool.or_eq_true, decide_eq_true_eq, Bool.and_eq_true, beq_iff_eq] at h
    rw [List.cons_le_cons_iff]
    rcases h with h | ⟨h, h2⟩
    · exact .inl h
    · exact .inr ⟨h, before_le h2⟩
/-- The keys of a map's rows rise. -/
theorem MapAt.rise {w : World} {base mb : Nat} {rs : List (Rw × Nat)} (h : MapAt w base mb rs) : rs.Pairwise fun p q => bytesBefore p.1.key.data.toList q.1.key.data.toList = true := by
  obtain ⟨es, he, hp, _⟩ := h.1.canon keyed
  unfold dOf at he
  injection he with he
  rw [← he] at hp
  exact List.pairwise_map.1 hp
theorem sort_keys {rs : List (Rw × Nat)} (hr : rs.Pairwise fun p q => bytesBefore p.1.key.data.toList q.1.key.data.toList = true) {ss : List (List UInt8)} (hp : ss.Perm (strKeys (dOf rs))) : ss.mergeSort (fun x y => decide (x ≤ y)) = rs.map fun p => p.1.key.data.toList := by
  rw [dOf_keys] at hp
  have := mergeSort_of_perm hp
  unfold leB at this
  rw [this]
  refine List.mergeSort_of_pairwise (List.pairwise_map.2 (hr.imp fun h => ?_))
  exact decide_eq_true (before_le h)
theorem find_key {rs : List (Rw × Nat)} (hr : rs.Pairwise fun p q => bytesBefore p.1.key.data.toList q.1.key.data.toList = true) {k : Nat} {p : Rw × Nat} (hk : rs[k]? = some p) : rs.find? (keyIs p.1.key) = some p := by
  obtain ⟨hlt, rfl⟩ := List.getElem?_eq_some_iff.1 hk
  refine List.find?_eq_some_iff_append.2 ⟨by unfold keyIs; simp, rs.take k, rs.drop (k + 1), ?_, fun q hq => ?_⟩
  · rw [← List.drop_eq_getElem_cons hlt, List.take_append_drop]
  · obtain ⟨j, hj, rfl⟩ := List.getElem_of_mem hq
    rw [List.length_take] at hj
    rw [List.getElem_take]
    have := List.pairwise_iff_getElem.1 hr j k (by omega) hlt (by omega)
    unfold keyIs
    rw [Bool.not_eq_true', beq_eq_false_iff_ne]
    intro he
    rw [he, Go.WideAt.bytes_irrefl] at this; cases this
theorem el_row : ElemIs Try.prog 62 2 32 := by
  refine ElemIs.mk (z := .agg #[.string ⟨#[]⟩, .string ⟨#[]⟩]) (by kernel_rfl) (by kernel_rfl) (by decide)
theorem info_row : (Try.prog.info? 62).map (·.size) = some 2 := by kernel_rfl
theorem rowR_one (r : Rw) : (rowR r).all (·.oneCell') = true := by kernel_rfl
theorem own_slice {w : World} {base : Nat} {e : TypeId} {size : Nat} {v : Value} {n : Nat} {xs : List Value} (h : w.ownsRow base e size v n xs) : ∃ a cap, v = .slice a n cap ∧ n ≤ cap := by
  obtain ⟨_, ⟨h1, h0⟩ | ⟨g, cap, cur, rfl, hb, _, hc, hm, _⟩⟩ := h
  · exact ⟨none, 0, by rw [h1, h0], by omega⟩
  · exact ⟨_, cap, rfl, hc⟩
theorem run_bs_row (r : Rw) (w : World) : (Instr.buildSlice 30 1 #[(0, .agg (rowR r))]).run Try.prog w = .ok (.slice (some ⟨w.heap.size, 0, none⟩) 1 1) (w.alloc (.cells (rowR r) 62)) := by kernel_rfl
theorem wpList_bs_row {ops : Array Oper} {rest : List Oper} {o : Oper} {a : Act} {Q : Exit → Act → World → Prop} {w : World} (hgd : o.guard = none) (p : Operand) (ho : o.op = .buildSlice 30 1 #[(0, p)]) (r : Rw) (hp : a.eval p = .agg (rowR r))
    (h : wpList Try.prog ops Q rest (a.put o.dst (.slice (some ⟨w.heap.size, 0, none⟩) 1 1)) (w.alloc (.cells (rowR r) 62))) : wpList Try.prog ops Q (o :: rest) a w := by
  refine wpList_plain hgd fun K hK => ?_
  unfold Oper.wp execOp
  simp only [ho, hp, List.map_toArray, List.map_cons, List.map_nil, Sem.run_bind, Result.andThen_ok, run_bs_row, Sem.run_pure]
  exact hK _ _ h
theorem row_range {w : World} {b : Nat} {r : Rw} (h : w.heap[b]? = some (.cells (rowR r) 62 (0, 0))) : w.rangeAt b 0 (rowR r).toList := fun j v hv => by
  rw [Nat.zero_add, cell_of_row _ _ j _ 62 (0, 0) h, ← hv]; simp
/-- What Rows tells: all rows, in order, in memory of the call's own. -/
def RowsE (l : List Rw) (w : World) (e : Ending) (w' : World) : Prop := ∃ a cap, e = .returned (.slice a l.length cap) ∧ l.length ≤ cap ∧ w'.ownsRow w.heap.size 62 2 (.slice a l.length cap) l.length (l.flatMap rwL) ∧ Ext w w'
theorem st_rows {w0 w : World} {st : Nat} {rs : List (Rw × Nat)} {sd : List Sv} (hS : StX w0 w st rs sd) (hn : rs.length ≤ 1000000) (hks : ∀ p ∈ rs, p.1.key.size ≤ 140737488351232) : Calls Try.prog 13 #[.pointer (some ⟨st, 0, none⟩)] w (RowsE (rs.map Prod.fst) w) := by
  obtain ⟨mb, hM, hc0⟩ := hS.map
  have hr := hM.rise
  have hkeys := fun (W : World) => callsIn_wide.1 (Try.maps_Keys_38 (some mb) W)
  have hS' := Lib.hid hS
  have hM' := Lib.hid hM
  have hr' := Lib.hid hr
  have hks' := Lib.hid hks
  have hkeys' := Lib.hid hkeys
  clear hS hM hr hks hkeys
  go_enter Try.func13, Try.ntmps13
  go_wp2_with fail
  refine (st_there hS'.out).mono ?_
  rintro e w' ⟨rfl, rfl⟩
  go_wp2_with fail
  refine (hkeys'.out _).mono ?_
  rintro e w1 ⟨rfl, rfl⟩
  have hE1 : Ext w (w.alloc (.cells #[.map (some mb)] 28)) := (Ext.refl _).alloc _
  have hsort : Calls Try.prog 37 #[.func (.func 57) #[] #[.pointer (some ⟨w.heap.size, 0, none⟩)]] (w.alloc (.cells #[.map (some mb)] 28)) fun e w' => ∃ ka kc, e = .returned (.slice ka rs.length kc) ∧ RowIs w' 1 (.slice ka rs.length kc) rs.length (rs.map fun p => .string p.1.key) ∧ Ext w w' := by
    refine (callsIn_wide.1 (Try.slices_Sorted_keys_37_38 mb rs.length (dOf rs) rdP w hM'.out.1 (by rw [dOf_size]; unfold maxLen; omega) (by rw [dOf_size]; omega))).mono ?_
    rintro e w2 ⟨v, ss, rfl, hp, ho, _, hB⟩
    have hlen : ss.length = rs.length := by rw [hp.length_eq, dOf_keys, List.length_map]
    rw [sort_keys hr'.out hp, hlen] at ho
    obtain ⟨ka, kc, rfl, _⟩ := own_slice ho
    refine ⟨ka, kc, rfl, ?_, hE1.trans hB⟩
    have := RowIs.of_own ho
    rw [List.map_map] at this
    exact this
  have hsort' := Lib.hid hsort
  clear hsort
  go_wp2_with fail
  refine hsort'.out.mono ?_
  clear hsort' hE1 hkeys'
  rintro e w2 ⟨ka, kc, rfl, hK, hE2⟩
  have hK' := Lib.hid hK
  clear hK
  go_wp2_with fail
  go_loopw [2, 15] (fun out i wr => ∃ k : Nat, k ≤ rs.length ∧ i = .int .i64 k ∧ wr.ownsRow w2.heap.size 62 2 out k (((rs.take k).map Prod.fst).flatMap rwL) ∧ Ext w2 wr) (fun _ i _ => rs.length - (intOf i).toNat)
  case atStart => exact ⟨0, by omega, rfl, World.ownsRow_nil _ _ _ _, Ext.refl _⟩
  case round =>
    obtain ⟨k, hk, rfl, hown, hE⟩ := hrel
    obtain ⟨oa, ocap, rfl, hoc⟩ := own_slice hown
    by_cases hlt : k < rs.length
    · have hli : (k : Int) < (rs.length : Int) := by omega
      obtain ⟨p, hp⟩ : ∃ p, rs[k]? = some p := ⟨_, List.getElem?_eq_getElem hlt⟩
      have hpm := List.mem_of_getElem? hp
      have hEw := hE2.trans hE
      have hlk := (hM'.out.ext hEw).look p.1.key (hks'.out p hpm)
      rw [find_key hr'.out hp] at hlk
      simp only [Option.map_some] at hlk
      have hrg := row_range (hEw.row (hM'.out.2.2 p hpm).2.2)
      have hc1 := hEw.cell hc0
      obtain ⟨b, off, hat⟩ := (hK'.out.ext hE).at
      obtain ⟨rfl, _, hd⟩ := hat (by omega)
      have hkc := hd k (by omega)
      rw [List.getElem?_map, hp] at hkc
      simp only [Option.map_some] at hkc
      have htk : rs.take (k + 1) = rs.take k ++ [p] := by rw [List.take_add_one, hp]; rfl
      have htk' := Lib.hid htk
      have hsz := hE.size
      have hpk := Lib.hid hp
      clear hat hd hp htk hpm
      go_wp2_with (first | (refine wpList_load_mid (by rfl) 62 (.tmp 26) (by rfl) p.2 0 (by rfl) (rowR p.1).toList _ hrg Try.underlying62 rfl (by exact info_row) ?_) | (refine wpList_bs_row (by rfl) (.tmp 27) (by rfl) p.1 (by rfl) ?_) | (at_builtin; refine wpList_append_lit (by rfl) (.tmp 19) (.tmp 28) 30 62 (by rfl) Try.underlying30 el_row wr w2.heap.size k _ (.slice oa k ocap) (by rfl) hown (rowR p.1) (by rfl) (by rfl) (fun u hu => Array.all_eq_true_iff_forall_mem.1 (rowR_one p.1) u (by simpa using hu)) (by omega) (by omega) hsz ?_; go_loud (intro v' w3 hown2 hbel; have hX3 : Ext w2 w3 := Below.trans hE hbel)) | fail)
      go_roundw
      case rel =>
        refine ⟨k + 1, by omega, by go_num, ?_, hX3⟩
        rw [htk'.out, List.map_append, List.flatMap_append]
        simpa [rwL, rowR] using hown2
      case measure => simp [intOf]; omega
    · have hli : ¬ (k : Int) < (rs.length : Int) := by omega
      have hkl : rs.take k = rs := List.take_of_length_le (by omega)
      obtain rfl : k = rs.length := by omega
      rw [hkl] at hown
      clear hkl
      go_wp2_with fail
      go_ret
      have hl : (rs.map Prod.fst).length = rs.length := List.length_map ..
      exact ⟨oa, ocap, by rw [hl]; rfl, by rw [hl]; exact hoc, by rw [hl]; exact ownsRow_base_a hown hE2.size, hE2.trans hE⟩
end Go.Proofs.Ytmjoaiepfipmaaa
