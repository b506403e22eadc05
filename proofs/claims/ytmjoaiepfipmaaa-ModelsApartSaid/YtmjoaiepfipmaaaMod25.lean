/- Of an ask the keys. No condition. -/
import Derived.Test.YtmjoaiepfipmaaaMod22
namespace Go.Proofs.Ytmjoaiepfipmaaa
open Go.RowKit
set_option maxRecDepth 100000
set_option maxHeartbeats 1000000
theorem el_str : ElemIs Try.prog 9 1 16 := by
  refine ElemIs.mk (z := .string ⟨#[]⟩) (by kernel_rfl) (by kernel_rfl) (by decide)
theorem own_one (w : World) (e : TypeId) (v : Value) : (w.alloc (.cells #[v] e)).ownsRow w.heap.size e 1 (.slice (some ⟨w.heap.size, 0, none⟩) 1 1) 1 [v] :=
  ⟨rfl, .inr ⟨w.heap.size, 1, #[v], rfl, Nat.le_refl _, heap_alloc_new w _, Nat.le_refl _, by decide, rfl, rfl⟩⟩
def keys0 (x : Ak) : List ByteArray := if x.kind = 4 then [] else [x.key]
def keysL (x : Ak) : List ByteArray := keys0 x ++ x.chs.map Ch.key
def KeysE (l : List ByteArray) (w : World) (e : Ending) (w' : World) : Prop := ∃ a cap, e = .returned (.slice a l.length cap) ∧ RowIs w' 1 (.slice a l.length cap) l.length (l.map .string) ∧ Ext w w'
theorem keys_any (w : World) (x : Ak) (a : Option Addr) (cap : Nat) (h : ChsAt w x.chs a cap) (hn : x.chs.length ≤ 1000) : Calls Try.prog 49 #[.agg (x.row (.slice a x.chs.length cap))] w (KeysE (keysL x) w) := by
  obtain ⟨W, hW⟩ : ∃ W, W = w.alloc (.cells (x.row (.slice a x.chs.length cap)) 26) := ⟨_, rfl⟩
  have hE : Ext w W := by rw [hW]; exact (Ext.refl _).alloc _
  have hX : W.heap[w.heap.size]? = some (.cells (x.row (.slice a x.chs.length cap)) 26 (0, 0)) := by rw [hW]; exact heap_alloc_new w _
  obtain ⟨c0, c1, c2, c3, c4, c5, c6, c7⟩ := askc hX
  have hgW : w.heap.size < W.heap.size := (Array.getElem?_eq_some_iff.1 hX).1
  have hW' := Lib.hid hW
  have hC := Lib.hid (h.1.ext hE)
  obtain ⟨xn, hxn⟩ : ∃ xn, xn = x.chs.length := ⟨_, rfl⟩
  rw [← hxn] at hW' hC c7 hn ⊢
  have hxn' := Lib.hid hxn
  clear hW hX hxn c2 c3 c4 c5 c6
  unfold Ak.row at hW'
  unfold Ak.row
  go_enter Try.func49, Try.ntmps49
  go_upto_region 2 with fail
  rw [← hW'.out]
  clear hW'
  by_cases hk : x.kind = 4
  · have hkb : (x.kind != 4) = false := by rw [hk]; rfl
    have hk0 : Hid (keys0 x = []) := Lib.hid (if_pos hk)
    clear hk
    go_wp2_with fail
    go_loopw [3, 4] (fun out i wr => ∃ (k m : Nat) (oa : Option Addr) (oc : Nat), k ≤ xn ∧ m ≤ k + 1 ∧ Hid (m = 0 + k) ∧ i = .int .i64 k ∧ out = .slice oa m oc ∧ wr.ownsRow W.heap.size 9 1 (.slice oa m oc) m ((([] : List ByteArray) ++ (x.chs.take k).map Ch.key).map .string) ∧ Ext W wr) (fun _ i _ => xn - (intOf i).toNat)
    case atStart => exact ⟨0, 0, none, 0, by omega, by omega, Lib.hid rfl, rfl, rfl, World.ownsRow_nil _ _ _ _, Ext.refl _⟩
    case round =>
      obtain ⟨k, m, oa, oc, hk3, hm1, hm, rfl, rfl, hown, hEr⟩ := hrel
      have y7 := hEr.cell c7
      by_cases hlt : k < xn
      · have hli : (k : Int) < (xn : Int) := by omega
        obtain ⟨c, hc⟩ : ∃ c, x.chs[k]? = some c := ⟨_, List.getElem?_eq_getElem (by rw [← hxn'.out]; exact hlt)⟩
        obtain ⟨b, off, hat⟩ := (hC.out.ext hEr).at
        obtain ⟨rfl, _, hd⟩ := hat (by omega)
        have p := ch_range (by rw [← hxn'.out]; exact hd) hc
        have p0 := p 0 _ rfl
        rw [Nat.add_zero] at p0
        have htk : x.chs.take (k + 1) = x.chs.take k ++ [c] := by rw [List.take_add_one, hc]; rfl
        have htk' := Lib.hid htk
        have hsz := hEr.size
        clear hat hd hc htk p
        go_wp2_with (first | (at_builtin; go_loud (refine wpList_append_lit (by rfl) (.tmp 18) (.tmp 25) 87 9 (by rfl) Try.underlying87 el_str wr W.heap.size m _ (.slice oa m oc) (by rfl) hown #[.string c.key] (by rfl) (by rfl) (by simp [Value.oneCell']) (by omega) (by omega) hsz ?_); go_loud (intro v' w3 hown2 hbel; obtain ⟨oa', oc', rfl, _⟩ := own_slice hown2; have hX3 : Ext W w3 := Below.trans hEr hbel)) | fail)
        go_roundw
        case rel =>
          refine ⟨k + 1, m + 1, oa', oc', by omega, by omega, Lib.hid (by rw [hm.out]; omega), by go_num, rfl, ?_, hX3⟩
          have e : ([] : List ByteArray) ++ (x.chs.take (k + 1)).map Ch.key = (([] : List ByteArray) ++ (x.chs.take k).map Ch.key) ++ [c.key] := by rw [htk'.out, List.map_append, List.append_assoc]; rfl
          rw [e, List.map_append]
          exact hown2
        case measure => simp [intOf]; omega
      · have hli : ¬ (k : Int) < (xn : Int) := by omega
        rw [List.take_of_length_le (by rw [← hxn'.out]; omega)] at hown
        have hl : keysL x = ([] : List ByteArray) ++ x.chs.map Ch.key := by unfold keysL; rw [hk0.out]
        have hml : (keysL x).length = m := by rw [hl, List.length_append, List.length_map, ← hxn'.out, hm.out]; simp; omega
        rw [← hl] at hown
        have hl' := Lib.hid hml
        have hown' := Lib.hid hown
        clear hl hml hown
        go_wp2_with fail
        go_ret
        exact ⟨oa, oc, by rw [hl'.out]; rfl, by rw [hl'.out]; exact RowIs.of_own hown'.out, hE.trans hEr⟩
  · have hkb : (x.kind != 4) = true := by rw [bne_iff_ne]; exact hk
    have hk0 : Hid (keys0 x = [x.key]) := Lib.hid (if_neg hk)
    clear hk
    go_wp2_with fail
    go_loopw [3, 4] (fun out i wr => ∃ (k m : Nat) (oa : Option Addr) (oc : Nat), k ≤ xn ∧ m ≤ k + 1 ∧ Hid (m = 1 + k) ∧ i = .int .i64 k ∧ out = .slice oa m oc ∧ wr.ownsRow W.heap.size 9 1 (.slice oa m oc) m (([x.key] ++ (x.chs.take k).map Ch.key).map .string) ∧ Ext W wr) (fun _ i _ => xn - (intOf i).toNat)
    case atStart => exact ⟨0, 1, _, 1, by omega, by omega, Lib.hid rfl, rfl, rfl, own_one W _ _, (Ext.refl W).alloc _⟩
    case round =>
      obtain ⟨k, m, oa, oc, hk3, hm1, hm, rfl, rfl, hown, hEr⟩ := hrel
      have y7 := hEr.cell c7
      by_cases hlt : k < xn
      · have hli : (k : Int) < (xn : Int) := by omega
        obtain ⟨c, hc⟩ : ∃ c, x.chs[k]? = some c := ⟨_, List.getElem?_eq_getElem (by rw [← hxn'.out]; exact hlt)⟩
        obtain ⟨b, off, hat⟩ := (hC.out.ext hEr).at
        obtain ⟨rfl, _, hd⟩ := hat (by omega)
        have p := ch_range (by rw [← hxn'.out]; exact hd) hc
        have p0 := p 0 _ rfl
        rw [Nat.add_zero] at p0
        have htk : x.chs.take (k + 1) = x.chs.take k ++ [c] := by rw [List.take_add_one, hc]; rfl
        have htk' := Lib.hid htk
        have hsz := hEr.size
        clear hat hd hc htk p
        go_wp2_with (first | (at_builtin; go_loud (refine wpList_append_lit (by rfl) (.tmp 18) (.tmp 25) 87 9 (by rfl) Try.underlying87 el_str wr W.heap.size m _ (.slice oa m oc) (by rfl) hown #[.string c.key] (by rfl) (by rfl) (by simp [Value.oneCell']) (by omega) (by omega) hsz ?_); go_loud (intro v' w3 hown2 hbel; obtain ⟨oa', oc', rfl, _⟩ := own_slice hown2; have hX3 : Ext W w3 := Below.trans hEr hbel)) | fail)
        go_roundw
        case rel =>
          refine ⟨k + 1, m + 1, oa', oc', by omega, by omega, Lib.hid (by rw [hm.out]; omega), by go_num, rfl, ?_, hX3⟩
          have e : [x.key] ++ (x.chs.take (k + 1)).map Ch.key = ([x.key] ++ (x.chs.take k).map Ch.key) ++ [c.key] := by rw [htk'.out, List.map_append, List.append_assoc]; rfl
          rw [e, List.map_append]
          exact hown2
        case measure => simp [intOf]; omega
      · have hli : ¬ (k : Int) < (xn : Int) := by omega
        rw [List.take_of_length_le (by rw [← hxn'.out]; omega)] at hown
        have hl : keysL x = [x.key] ++ x.chs.map Ch.key := by unfold keysL; rw [hk0.out]
        have hml : (keysL x).length = m := by rw [hl, List.length_append, List.length_map, ← hxn'.out, hm.out]; simp; omega
        rw [← hl] at hown
        have hl' := Lib.hid hml
        have hown' := Lib.hid hown
        clear hl hml hown
        go_wp2_with fail
        go_ret
        exact ⟨oa, oc, by rw [hl'.out]; rfl, by rw [hl'.out]; exact RowIs.of_own hown'.out, hE.trans hEr⟩
end Go.Proofs.Ytmjoaiepfipmaaa
