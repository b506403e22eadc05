/- A twin of rows: a copy in memory of the call's own. No condition. -/
import Derived.Test.YtmjoaiepfipmaaaMod22
namespace Go.Proofs.Ytmjoaiepfipmaaa
open Go.RowKit
set_option maxRecDepth 100000
theorem own_cut {w : World} {base : Nat} {e : TypeId} {size : Nat} {a : Option Addr} {n m cap : Nat} {xs ys : List Value} (h : w.ownsRow base e size (.slice a (n + m) cap) (n + m) (xs ++ ys)) (hx : xs.length = n * size) (hm : 0 < m) : w.ownsRow base e size (.slice a n cap) n xs := by
  obtain ⟨hl, ⟨he, h0⟩ | ⟨g, c, cur, he, hb, hg, h1, h2, h3, h4⟩⟩ := h
  · omega
  · injection he with e1 e2 e3
    subst e1 e3
    refine ⟨hx, .inr ⟨g, cap, cur, rfl, hb, hg, by omega, h2, h3, ?_⟩⟩
    have : (cur.toList.take ((n + m) * size)).take (n * size) = (xs ++ ys).take (n * size) := by rw [h4]
    rw [List.take_take, Nat.min_eq_left (Nat.mul_le_mul_right _ (by omega))] at this
    rw [this, ← hx, List.take_left]
theorem twin_rows (w : World) (l : List Rw) (a : Option Addr) (cap : Nat) (hr : RowIs w 2 (.slice a l.length cap) l.length (l.flatMap rwL)) (hn : l.length ≤ 50000) :
    Calls Try.prog 31 #[.slice a l.length cap] w fun e w' => ∃ a' cap', e = .returned (.slice a' l.length cap') ∧ w'.ownsRow w.heap.size 62 2 (.slice a' l.length cap') l.length (l.flatMap rwL) ∧ Ext w w' := by
  obtain ⟨rn, hrn⟩ : ∃ rn, rn = l.length := ⟨_, rfl⟩
  rw [← hrn] at hr hn ⊢
  have hrn' := Lib.hid hrn
  have hr' := Lib.hid hr
  clear hrn hr
  obtain ⟨ir, hir, hiz, his, hib⟩ : ∃ i, Try.prog.info? 62 = some i ∧ i.zero = some (.agg #[.string ⟨#[]⟩, .string ⟨#[]⟩]) ∧ i.size = 2 ∧ i.bytes = 32 := by
    have h : (Try.prog.info? 62).map (fun i => (i.zero, i.size, i.bytes)) = some (some (.agg #[.string ⟨#[]⟩, .string ⟨#[]⟩]), 2, 32) := by kernel_rfl
    obtain ⟨i, hi, he⟩ := Option.map_eq_some_iff.1 h
    simp only [Prod.mk.injEq] at he
    exact ⟨i, hi, he.1, he.2.1, he.2.2⟩
  go_enter Try.func31, Try.ntmps31
  go_wp2_with (first | (refine wpList_make_own w (by rfl) (.const (.int .i64 0)) (.tmp 7) 30 (by rfl) w.heap.size 62 ir _ 2 Try.underlying30 hir hiz his .i64 .i64 ((rn : Int) + 1) (rn + 1) (by rfl) (by rfl) (by omega) (by rw [hib]; omega) (by unfold maxLen; omega) (Nat.le_refl _) ?_; go_loud (intro w1 hown1 hgr1; have hE1 : Ext w w1 := Below.grown (Below.refl _ _) hgr1 (Nat.le_refl _) (fun _ h => by cases h))) | fail)
  go_wp2_with fail
  go_loopw [3, 4] (fun out i wr => ∃ (k : Nat) (oa : Option Addr) (oc : Nat), k ≤ rn ∧ i = .int .i64 k ∧ out = .slice oa k oc ∧ wr.ownsRow w.heap.size 62 2 (.slice oa k oc) k ((l.take k).flatMap rwL) ∧ Ext w wr) (fun _ i _ => rn - (intOf i).toNat)
  case atStart => exact ⟨0, _, _, by omega, rfl, rfl, hown1, hE1⟩
  case round =>
    obtain ⟨k, oa, oc, hk, rfl, rfl, hown, hEr⟩ := hrel
    by_cases hlt : k < rn
    · have hli : (k : Int) < (rn : Int) := by omega
      obtain ⟨r, hr⟩ : ∃ r, l[k]? = some r := ⟨_, List.getElem?_eq_getElem (by rw [← hrn'.out]; exact hlt)⟩
      obtain ⟨b, off, hat⟩ := (hr'.out.ext hEr).at
      obtain ⟨rfl, _, hd⟩ := hat (by omega)
      have hrg := rws_range (by rw [← hrn'.out]; exact hd) hr
      have htk : l.take (k + 1) = l.take k ++ [r] := by rw [List.take_add_one, hr]; rfl
      have htk' := Lib.hid htk
      have hsz := hEr.size
      clear hat hd hr htk
      go_wp2_with (first | (refine wpList_load_mid (by rfl) 62 (.tmp 18) (by rfl) b (off + k * 2) (by rfl) (rowR r).toList _ hrg Try.underlying62 rfl (by exact info_row) ?_) | (refine wpList_bs_row (by rfl) (.tmp 19) (by rfl) r (by rfl) ?_) | (at_builtin; refine wpList_append_lit (by rfl) (.tmp 15) (.tmp 20) 30 62 (by rfl) Try.underlying30 el_row wr w.heap.size k _ (.slice oa k oc) (by rfl) hown (rowR r) (by rfl) (by rfl) (fun u hu => Array.all_eq_true_iff_forall_mem.1 (rowR_one r) u (by simpa using hu)) (by omega) (by omega) hsz ?_; go_loud (intro v' w3 hown2 hbel; obtain ⟨oa', oc', rfl, _⟩ := own_slice hown2; have hX3 : Ext w w3 := Below.trans hEr hbel)) | fail)
      go_roundw
      case rel =>
        refine ⟨k + 1, oa', oc', by omega, by go_num, rfl, ?_, hX3⟩
        rw [htk'.out, List.flatMap_append]
        simpa [rwL, rowR] using hown2
      case measure => simp [intOf]; omega
    · have hli : ¬ (k : Int) < (rn : Int) := by omega
      obtain rfl : k = rn := by omega
      rw [List.take_of_length_le (by rw [← hrn'.out]; exact Nat.le_refl _)] at hown
      have hxl : (l.flatMap rwL).length = k * 2 := hown.1
      clear hrn' hr' hown1
      have hsz := hEr.size
      go_wp2_with (first | (at_builtin; go_loud (refine wpList_append_lit (by rfl) (.tmp 22) (.tmp 24) 30 62 (by rfl) Try.underlying30 el_row wr w.heap.size k _ (.slice oa k oc) (by rfl) hown #[.string ⟨#[115, 112, 97, 114, 101]⟩, .string ⟨#[]⟩] (by rfl) (by rfl) (by simp [Value.oneCell']) (by omega) (by omega) hsz ?_); go_loud (intro v' w3 hown2 hbel); go_loud (obtain ⟨oa', oc', rfl, hoc⟩ := own_slice hown2); go_loud (have hX3 : Ext w w3 := Below.trans hEr hbel); go_loud (have hkc : (k : Int) ≤ (oc' : Int) := by omega); go_loud (have hown2 := own_cut hown2 hxl (by omega))) | fail)
      go_ret
      exact ⟨oa', oc', rfl, hown2, hX3⟩
end Go.Proofs.Ytmjoaiepfipmaaa
