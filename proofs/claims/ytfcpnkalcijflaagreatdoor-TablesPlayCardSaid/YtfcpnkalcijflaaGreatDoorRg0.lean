/- The document's order: Less, Cmp (over a table's marks). No condition. -/
import Derived.Test.YtfcpnkalcijflaaGreatDoorTab7
import Derived.Deep.CutRange
import Derived.Lib.Strings
namespace Go.Proofs.YtfcpnkalcijflaaGreatDoor
open Go.RowKit
set_option maxRecDepth 100000
set_option maxHeartbeats 2000000
theorem bl_app (p a b : List UInt8) : Op.bytesLess (p ++ a) (p ++ b) = Op.bytesLess a b := by
  induction p with
  | nil => rfl
  | cons x p ih =>
    have h1 : ¬ x < x := UInt8.lt_irrefl x
    simp [Op.bytesLess, h1, ih]
theorem bl_nil (b : List UInt8) : Op.bytesLess [] b = decide (0 < b.length) := by
  cases b <;> simp [Op.bytesLess]
theorem bl_nil2 (a : List UInt8) : Op.bytesLess a [] = false := by
  cases a <;> simp [Op.bytesLess]
theorem bl_ne {x y : UInt8} (a b : List UInt8) (h : x ≠ y) : Op.bytesLess (x :: a) (y :: b) = decide (x < y) := by
  simp [Op.bytesLess, h]
theorem by_at (s : ByteArray) (k : Nat) (h : k < s.size) : s.toList[k]? = some s[k] := by
  rw [Lib.toList_data]
  have h2 : k < s.data.size := h
  rw [Array.getElem?_toList, Array.getElem?_eq_getElem h2]
  rfl
theorem by_len (s : ByteArray) : s.toList.length = s.size := by rw [Lib.toList_data, Array.length_toList]; rfl
theorem by_split (s : ByteArray) (k : Nat) (h : k < s.size) : s.toList = s.toList.take k ++ s[k] :: s.toList.drop (k + 1) := by
  obtain ⟨h1, h2⟩ := List.getElem?_eq_some_iff.1 (by_at s k h)
  have := List.take_append_drop k s.toList
  rw [List.drop_eq_getElem_cons h1, h2] at this
  exact this.symm
theorem by_take (s : ByteArray) (k : Nat) (h : k < s.size) : s.toList.take (k + 1) = s.toList.take k ++ [s[k]] := by
  rw [List.take_add_one, by_at s k h]
  rfl
theorem less_any (w : World) (s t : ByteArray) (hs : s.size ≤ 140737488351232) : Calls Tryz.prog 67 #[.string s, .string t] w fun e w' => e = .returned (.bool (Op.bytesLess s.toList t.toList)) ∧ Ext w w' := by
  obtain ⟨r, hr⟩ : ∃ r, r = Op.bytesLess s.toList t.toList := ⟨_, rfl⟩
  rw [← hr]
  have hr' := Lib.hid hr
  clear hr
  go_enter Tryz.func67, Tryz.ntmps67
  go_wp2_with fail
  go_loopw [5] (fun i wr => ∃ k : Nat, k ≤ s.size ∧ k ≤ t.size ∧ i = .int .i64 k ∧ Hid (s.toList.take k = t.toList.take k) ∧ Ext w wr) (fun i _ => s.size - (intOf i).toNat)
  case atStart => exact ⟨0, by omega, by omega, rfl, Lib.hid rfl, Ext.refl _⟩
  case round =>
    obtain ⟨k, hk1, hk2, rfl, heq, hE⟩ := hrel
    by_cases h1 : k < s.size
    · have h1i : (k : Int) < (s.size : Int) := by omega
      by_cases h2 : k < t.size
      · have h2i : (k : Int) < (t.size : Int) := by omega
        have h0i : 0 ≤ (k : Int) := by omega
        by_cases hxy : s[k] = t[k]
        · have hb : ((s[k].toNat : Int) != (t[k].toNat : Int)) = false := by rw [hxy]; simp
          have hnx : Hid (s.toList.take (k + 1) = t.toList.take (k + 1)) := Lib.hid (by rw [by_take s k h1, by_take t k h2, heq.out, hxy])
          clear hxy
          go_upto_region 4 with fail
          go_quiet (fail)
          go_wp2_with fail
          go_roundw
          case rel => exact ⟨k + 1, by omega, by omega, by go_num, hnx, hE.trans ⟨rfl, rfl, rfl, Nat.le_refl _, fun _ _ => rfl⟩⟩
          case measure => simp [intOf]; omega
        · have hne : ¬ (s[k].toNat : Int) = (t[k].toNat : Int) := fun e => hxy (UInt8.toNat_inj.1 (by omega))
          have hb : ((s[k].toNat : Int) != (t[k].toNat : Int)) = true := by rw [bne_iff_ne]; exact hne
          have hres : Hid (r = decide (s[k].toNat < t[k].toNat)) := Lib.hid (by
            rw [hr'.out, by_split s k h1, by_split t k h2, heq.out, bl_app, bl_ne _ _ hxy]
            by_cases h : s[k] < t[k]
            · rw [decide_eq_true h, decide_eq_true (UInt8.lt_iff_toNat_lt.1 h)]
            · rw [decide_eq_false h, decide_eq_false (fun h' => h (UInt8.lt_iff_toNat_lt.2 h'))])
          clear hxy
          go_upto_region 4 with fail
          go_quiet (fail)
          go_upto_region 5 with fail
          go_quiet (fail)
          go_wp2_with fail
          go_ret
          exact ⟨by rw [hres.out]; rfl, hE.trans ⟨rfl, rfl, rfl, Nat.le_refl _, fun _ _ => rfl⟩⟩
      · have h2i : ¬ (k : Int) < (t.size : Int) := by omega
        have hkt : k = t.size := by omega
        have hres : Hid (r = decide ((s.size : Int) < (t.size : Int))) := Lib.hid (by
          have h3 : t.toList = t.toList.take k := by rw [List.take_of_length_le (by rw [by_len]; omega)]
          rw [hr'.out, h3, by_split s k h1, heq.out]
          conv => lhs; arg 2; rw [← List.append_nil (t.toList.take k)]
          rw [bl_app, bl_nil2, decide_eq_false (by omega)])
        clear hkt
        go_wp2_with fail
        go_ret
        exact ⟨by rw [hres.out]; simp, hE⟩
    · have h1i : ¬ (k : Int) < (s.size : Int) := by omega
      have hres : Hid (r = decide ((s.size : Int) < (t.size : Int))) := Lib.hid (by
        have h3 : s.toList = s.toList.take k := by rw [List.take_of_length_le (by rw [by_len]; omega)]
        have hks : k = s.size := by omega
        have h4 : t.toList = t.toList.take k ++ t.toList.drop k := (List.take_append_drop k t.toList).symm
        rw [hr'.out, h3, h4, heq.out]
        conv => lhs; arg 1; rw [← List.append_nil (t.toList.take k)]
        rw [bl_app, bl_nil, List.length_drop, by_len]
        by_cases h : s.size < t.size
        · rw [decide_eq_true (by omega), decide_eq_true (by omega)]
        · rw [decide_eq_false (by omega), decide_eq_false (by omega)])
      go_wp2_with fail
      go_ret
      exact ⟨by rw [hres.out]; simp, hE⟩
theorem cmpM_eq (x y : Mk) : cmpM x y = if Op.bytesLess x.key.toList y.key.toList = true then -1 else if Op.bytesLess y.key.toList x.key.toList = true then 1 else if y.seq < x.seq then -1 else if x.seq < y.seq then 1 else if x.gone = y.gone then 0 else if x.gone = true then -1 else 1 := by
  unfold cmpM
  by_cases h1 : Op.bytesLess x.key.toList y.key.toList = true
  · rw [if_pos (Mk.lt_iff.2 (.inl h1)), if_pos h1]
  · rw [if_neg h1]
    by_cases h2 : Op.bytesLess y.key.toList x.key.toList = true
    · have h3 : y.ltB x = true := Mk.lt_iff.2 (.inl h2)
      rw [if_neg (by rw [Mk.asymm h3]; simp), if_pos h3, if_pos h2]
    · rw [if_neg h2]
      have hk := bl_tri _ _ (by simpa using h1) (by simpa using h2)
      have e1 : x.ltB y = true ↔ (y.seq < x.seq ∨ (x.seq = y.seq ∧ goneN y.gone < goneN x.gone)) := by rw [Mk.lt_iff, hk, bl_irrefl]; simp
      have e2 : y.ltB x = true ↔ (x.seq < y.seq ∨ (y.seq = x.seq ∧ goneN x.gone < goneN y.gone)) := by rw [Mk.lt_iff, hk, bl_irrefl]; simp
      by_cases h3 : y.seq < x.seq
      · rw [if_pos (e1.2 (.inl h3)), if_pos h3]
      · rw [if_neg h3]
        by_cases h4 : x.seq < y.seq
        · rw [if_neg (fun h => by have := e1.1 h; omega), if_pos (e2.2 (.inl h4)), if_pos h4]
        · rw [if_neg h4]
          have hs : x.seq = y.seq := by omega
          cases hx : x.gone <;> cases hy : y.gone <;> simp only [hx, hy, goneN] at e1 e2
          · rw [if_neg (fun h => by have := e1.1 h; simp at this; omega), if_neg (fun h => by have := e2.1 h; simp at this; omega)]; simp
          · rw [if_neg (fun h => by have := e1.1 h; simp at this; omega), if_pos (e2.2 (.inr ⟨hs.symm, by simp⟩))]; simp
          · rw [if_pos (e1.2 (.inr ⟨hs, by simp⟩))]; simp
          · rw [if_neg (fun h => by have := e1.1 h; simp at this; omega), if_neg (fun h => by have := e2.1 h; simp at this; omega)]; simp
theorem cmpR_any (w : World) (x y : Mk) (hx : x.key.size ≤ 140737488351232) (hy : y.key.size ≤ 140737488351232) : Calls Tryz.prog 23 #[.agg (mkRow x).toArray, .agg (mkRow y).toArray] w fun e w' => e = .returned (.int .i64 (cmpM x y)) ∧ Ext w w' := by
  obtain ⟨c, hc⟩ : ∃ c, c = cmpM x y := ⟨_, rfl⟩
  rw [← hc]
  rw [cmpM_eq] at hc
  obtain ⟨W0, hW0⟩ : ∃ W, W = (w.alloc (.cells #[.string x.key, .int .u64 (x.seq : Int), .bool x.gone] 47)).alloc (.cells #[.string y.key, .int .u64 (y.seq : Int), .bool y.gone] 47) := ⟨_, rfl⟩
  have hE0 : Ext w W0 := by rw [hW0]; exact ((Ext.refl w).alloc _).alloc _
  have hr1 : W0.heap[w.heap.size]? = some (.cells #[.string x.key, .int .u64 (x.seq : Int), .bool x.gone] 47 (0, 0)) := by rw [hW0]; exact ((Ext.refl _).alloc _).row (heap_alloc_new w _)
  have hr2 : W0.heap[w.heap.size + 1]? = some (.cells #[.string y.key, .int .u64 (y.seq : Int), .bool y.gone] 47 (0, 0)) := by
    have := heap_alloc_new (w.alloc (.cells #[.string x.key, .int .u64 (x.seq : Int), .bool x.gone] 47)) (.cells #[.string y.key, .int .u64 (y.seq : Int), .bool y.gone] 47)
    rw [show (w.alloc (.cells #[.string x.key, .int .u64 (x.seq : Int), .bool x.gone] 47)).heap.size = w.heap.size + 1 by simp] at this
    rw [hW0]; exact this
  have hcell : Hid (∀ w', Ext W0 w' → (w'.cell? ⟨w.heap.size, 0, none⟩ = some (.string x.key) ∧ w'.cell? ⟨w.heap.size, 1, none⟩ = some (.int .u64 (x.seq : Int)) ∧ w'.cell? ⟨w.heap.size, 2, none⟩ = some (.bool x.gone)) ∧ w'.cell? ⟨w.heap.size + 1, 0, none⟩ = some (.string y.key) ∧ w'.cell? ⟨w.heap.size + 1, 1, none⟩ = some (.int .u64 (y.seq : Int)) ∧ w'.cell? ⟨w.heap.size + 1, 2, none⟩ = some (.bool y.gone)) := Lib.hid (fun w' hE => by
    have k1 := hE.row hr1
    have k2 := hE.row hr2
    exact ⟨⟨by rw [cell_of_row _ _ _ _ _ _ k1]; rfl, by rw [cell_of_row _ _ _ _ _ _ k1]; rfl, by rw [cell_of_row _ _ _ _ _ _ k1]; rfl⟩, by rw [cell_of_row _ _ _ _ _ _ k2]; rfl, by rw [cell_of_row _ _ _ _ _ _ k2]; rfl, by rw [cell_of_row _ _ _ _ _ _ k2]; rfl⟩)
  have hc' := Lib.hid hc
  have hW0' := Lib.hid hW0
  clear hc hr1 hr2 hW0
  unfold mkRow
  go_enter Tryz.func23, Tryz.ntmps23
  go_wp2_with fail
  rw [← hW0'.out]
  refine (less_any W0 _ _ hx).mono ?_
  rintro e w1 ⟨rfl, hE1⟩
  obtain ⟨⟨a0, a1, a2⟩, b0, b1, b2⟩ := hcell.out w1 hE1
  have hEw1 := hE0.trans hE1
  cases h1 : Op.bytesLess x.key.toList y.key.toList with
  | true =>
    have hv : Hid (c = -1) := Lib.hid (by rw [hc'.out, if_pos h1])
    clear h1
    go_wp2_with fail
    go_ret
    exact ⟨by rw [hv.out]; rfl, hEw1⟩
  | false =>
    have h1' := Lib.hid h1
    clear h1
    go_wp2_with fail
    refine (less_any w1 _ _ hy).mono ?_
    rintro e w2 ⟨rfl, hE2⟩
    obtain ⟨⟨a0, a1, a2⟩, b0, b1, b2⟩ := hcell.out w2 (hE1.trans hE2)
    have hEw2 := hEw1.trans hE2
    cases h2 : Op.bytesLess y.key.toList x.key.toList with
    | true =>
      have hv : Hid (c = 1) := Lib.hid (by rw [hc'.out, if_neg (by rw [h1'.out]; simp), if_pos h2])
      clear h2
      go_wp2_with fail
      go_ret
      exact ⟨by rw [hv.out]; rfl, hEw2⟩
    | false =>
      have hc2 : Hid (c = if y.seq < x.seq then -1 else if x.seq < y.seq then 1 else if x.gone = y.gone then 0 else if x.gone = true then -1 else 1) := Lib.hid (by rw [hc'.out, if_neg (by rw [h1'.out]; simp), if_neg (by rw [h2]; simp)])
      clear h2
      by_cases h3 : y.seq < x.seq
      · have h3i : (y.seq : Int) < (x.seq : Int) := by omega
        have hv : Hid (c = -1) := Lib.hid (by rw [hc2.out, if_pos h3])
        go_wp2_with fail
        go_ret
        exact ⟨by rw [hv.out]; rfl, hEw2⟩
      · have h3i : ¬ (y.seq : Int) < (x.seq : Int) := by omega
        by_cases h4 : x.seq < y.seq
        · have h4i : (x.seq : Int) < (y.seq : Int) := by omega
          have hv : Hid (c = 1) := Lib.hid (by rw [hc2.out, if_neg h3, if_pos h4])
          go_wp2_with fail
          go_ret
          exact ⟨by rw [hv.out]; rfl, hEw2⟩
        · have h4i : ¬ (x.seq : Int) < (y.seq : Int) := by omega
          have hv : Hid (c = if x.gone = y.gone then 0 else if x.gone = true then -1 else 1) := Lib.hid (by rw [hc2.out, if_neg h3, if_neg h4])
          cases hgx : x.gone <;> cases hgy : y.gone <;> rw [hgx, hgy] at hv <;> rw [hgx] at a2 <;> rw [hgy] at b2
          all_goals
            clear hgx hgy
            go_wp2_with fail
            go_ret
            exact ⟨by rw [hv.out]; rfl, hEw2⟩
end Go.Proofs.YtfcpnkalcijflaaGreatDoor
