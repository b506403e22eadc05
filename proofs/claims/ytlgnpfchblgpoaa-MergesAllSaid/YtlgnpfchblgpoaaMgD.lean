/- 'alive' of bucketlinelaw12: what its calls tell. No condition. -/
import Derived.Test.YtlgnpfchblgpoaaMgB
import Derived.Test.YtlgnpfchblgpoaaMgC
namespace Go.Proofs.Ytlgnpfchblgpoaa
open Go.RowKit
set_option maxRecDepth 100000
set_option maxHeartbeats 1000000
def E0 : En := ⟨⟨⟨#[97]⟩, 9, true⟩, ⟨#[]⟩⟩
def E1 : En := ⟨⟨⟨#[97]⟩, 5, false⟩, ⟨#[120]⟩⟩
def E2 : En := ⟨⟨⟨#[97]⟩, 2, false⟩, ⟨#[121]⟩⟩
def E3 : En := ⟨⟨⟨#[98]⟩, 7, true⟩, ⟨#[]⟩⟩
def F1 : En := ⟨⟨⟨#[97]⟩, 1, false⟩, ⟨#[120]⟩⟩
def F2 : En := ⟨⟨⟨#[97]⟩, 1, false⟩, ⟨#[121]⟩⟩
def G1 : En := ⟨⟨⟨#[98]⟩, 1, false⟩, ⟨#[120]⟩⟩
def aL : List En := [E0, E1, E2, E3]
theorem al_key : keyG aL = [[E0, E1, E2], [E3]] := by
  have k1 : sk E0 E1 = true := by kernel_rfl
  have k2 : sk E0 E2 = true := by kernel_rfl
  have k3 : sk E0 E3 = false := by kernel_rfl
  unfold aL
  rw [keyG_cons, List.takeWhile_cons, List.dropWhile_cons, k1, if_pos rfl, if_pos rfl, List.takeWhile_cons, List.dropWhile_cons, k2, if_pos rfl, if_pos rfl, List.takeWhile_cons, List.dropWhile_cons, k3, if_neg (by decide), if_neg (by decide), keyG_cons, List.takeWhile_nil, List.dropWhile_nil, keyG_nil]
theorem al_t1 : thinL aL [] false = [E0, E3] := by unfold thinL; rw [al_key]; kernel_rfl
theorem al_t2 : thinL aL [] true = [] := by unfold thinL; rw [al_key]; kernel_rfl
theorem al_t3 : thinL aL [6] true = [E0, E1] := by unfold thinL; rw [al_key]; kernel_rfl
theorem al_t4 : thinL aL [3, 1] false = [E0, E2, E3] := by unfold thinL; rw [al_key]; kernel_rfl
theorem al_s1 : seeL aL 9 = [] := by unfold seeL; rw [al_key]; kernel_rfl
theorem al_s2 : seeL aL 5 = [⟨⟨#[97]⟩, ⟨#[120]⟩⟩] := by unfold seeL; rw [al_key]; kernel_rfl
theorem al_s3 : seeL aL 4 = [⟨⟨#[97]⟩, ⟨#[121]⟩⟩] := by unfold seeL; rw [al_key]; kernel_rfl
theorem al_r : risesB aL = true := by kernel_rfl
theorem al_r1 : risesB [E0, E3] = true := by kernel_rfl
theorem al_r2 : risesB [E1, E2] = true := by kernel_rfl
theorem al_r3 : risesB [F1] = true := rfl
theorem al_r4 : risesB [F2] = true := rfl
theorem al_r5 : risesB [G1, F1] = false := by kernel_rfl
theorem al_sq : ∀ e ∈ aL, e.mark.seq ≤ 18446744073709551615 := by
  intro e he
  simp only [aL, List.mem_cons, List.not_mem_nil, or_false] at he
  rcases he with rfl | rfl | rfl | rfl <;> decide
theorem enl_len (l : List En) : (l.flatMap enL).length = l.length * 4 := by
  induction l with
  | nil => rfl
  | cons x l ih =>
    rw [List.flatMap_cons, List.length_append, List.length_cons, ih, show (enL x).length = 4 from rfl]
    omega
/-- A literal slice of entries. -/
theorem sl_lit (w : World) (l : List En) (n : Nat) (cs : Array Value) (h : cs.toList = l.flatMap enL) (hn : n = l.length) (hb : l.length ≤ 1000) : SlIs (w.alloc (.cells cs 31)) (.slice (some ⟨w.heap.size, 0, none⟩) n n) l := by
  subst hn
  refine ⟨_, _, rfl, ?_⟩
  have hl := enl_len l
  have := RowIs.lit w 4 l.length cs 31 (0, 0) (by rw [← Array.length_toList, h, hl]) (by omega)
  rw [h] at this
  exact this
theorem nu_lit (w : World) (l : List Nat) (n : Nat) (cs : Array Value) (h : cs.toList = nuL l) (hn : n = l.length) (hb : l.length ≤ 1000) : RowIs (w.alloc (.cells cs 27)) 1 (.slice (some ⟨w.heap.size, 0, none⟩) n n) l.length (nuL l) := by
  subst hn
  have := RowIs.lit w 1 l.length cs 27 (0, 0) (by rw [← Array.length_toList, h]; simp [nuL]) (by omega)
  rw [h] at this
  exact this
theorem nu_nil (w : World) : RowIs w 1 (.slice none 0 0) 0 (nuL []) := RowIs.nil _ _ _ _ (fun _ => rfl)
theorem en_lit (w : World) (_ : En) (k v : ByteArray) (s : Nat) (cs : Array Value) (h : enRow (mkEn k s v) = cs) : Calls Try.prog 19 #[.string k, .int .u64 (s : Int), .string v] w fun e w' => e = .returned (.agg cs) ∧ Ext w w' := by
  rw [← h]; exact entry_any w k s v
theorem en_E0 (w : World) : Calls Try.prog 19 #[.string ⟨#[97]⟩, .int .u64 9, .string ⟨#[]⟩] w fun e w' => e = .returned (.agg #[.string ⟨#[97]⟩, .int .u64 9, .bool true, .string ⟨#[]⟩]) ∧ Ext w w' := en_lit w E0 ⟨#[97]⟩ ⟨#[]⟩ 9 _ (by kernel_rfl)
theorem en_E1 (w : World) : Calls Try.prog 19 #[.string ⟨#[97]⟩, .int .u64 5, .string ⟨#[120]⟩] w fun e w' => e = .returned (.agg #[.string ⟨#[97]⟩, .int .u64 5, .bool false, .string ⟨#[120]⟩]) ∧ Ext w w' := en_lit w E1 ⟨#[97]⟩ ⟨#[120]⟩ 5 _ (by kernel_rfl)
theorem en_E2 (w : World) : Calls Try.prog 19 #[.string ⟨#[97]⟩, .int .u64 2, .string ⟨#[121]⟩] w fun e w' => e = .returned (.agg #[.string ⟨#[97]⟩, .int .u64 2, .bool false, .string ⟨#[121]⟩]) ∧ Ext w w' := en_lit w E2 ⟨#[97]⟩ ⟨#[121]⟩ 2 _ (by kernel_rfl)
theorem en_E3 (w : World) : Calls Try.prog 19 #[.string ⟨#[98]⟩, .int .u64 7, .string ⟨#[]⟩] w fun e w' => e = .returned (.agg #[.string ⟨#[98]⟩, .int .u64 7, .bool true, .string ⟨#[]⟩]) ∧ Ext w w' := en_lit w E3 ⟨#[98]⟩ ⟨#[]⟩ 7 _ (by kernel_rfl)
theorem en_F1 (w : World) : Calls Try.prog 19 #[.string ⟨#[97]⟩, .int .u64 1, .string ⟨#[120]⟩] w fun e w' => e = .returned (.agg #[.string ⟨#[97]⟩, .int .u64 1, .bool false, .string ⟨#[120]⟩]) ∧ Ext w w' := en_lit w F1 ⟨#[97]⟩ ⟨#[120]⟩ 1 _ (by kernel_rfl)
theorem en_F2 (w : World) : Calls Try.prog 19 #[.string ⟨#[97]⟩, .int .u64 1, .string ⟨#[121]⟩] w fun e w' => e = .returned (.agg #[.string ⟨#[97]⟩, .int .u64 1, .bool false, .string ⟨#[121]⟩]) ∧ Ext w w' := en_lit w F2 ⟨#[97]⟩ ⟨#[121]⟩ 1 _ (by kernel_rfl)
theorem en_G1 (w : World) : Calls Try.prog 19 #[.string ⟨#[98]⟩, .int .u64 1, .string ⟨#[120]⟩] w fun e w' => e = .returned (.agg #[.string ⟨#[98]⟩, .int .u64 1, .bool false, .string ⟨#[120]⟩]) ∧ Ext w w' := en_lit w G1 ⟨#[98]⟩ ⟨#[120]⟩ 1 _ (by kernel_rfl)
/-- SameEntries of the same. -/
theorem al_same (w : World) (l : List En) (v v' : Value) (h : SlIs w v l) (h' : SlIs w v' l) : Calls Try.prog 14 #[v, v'] w fun e w' => e = .returned (.bool true) ∧ Ext w w' := by
  obtain ⟨a, c, rfl, h1⟩ := h
  obtain ⟨a', c', rfl, h2⟩ := h'
  have := same_any w l l a a' c c' h1 h2
  rwa [decide_eq_true rfl] at this
/-- A slice of rows. -/
def RwIs (w : World) (v : Value) (l : List Rw) : Prop := ∃ a cap, v = .slice a l.length cap ∧ RowIs w 2 v l.length (l.flatMap rwL)
theorem RwIs.ext {w w' : World} {v : Value} {l : List Rw} (h : RwIs w v l) (he : Ext w w') : RwIs w' v l := by
  obtain ⟨a, c, h1, h2⟩ := h
  exact ⟨a, c, h1, h2.ext he⟩
theorem al_sameR (w : World) (l : List Rw) (v v' : Value) (h : RwIs w v l) (h' : RwIs w v' l) : Calls Try.prog 18 #[v, v'] w fun e w' => e = .returned (.bool true) ∧ Ext w w' := by
  obtain ⟨a, c, rfl, h1⟩ := h
  obtain ⟨a', c', rfl, h2⟩ := h'
  have := srows_any w l l a a' c c' h1 h2
  rwa [decide_eq_true rfl] at this
theorem rw_row {w : World} {b : Nat} (r : Rw) (cs : Array Value) (hw : w.heap[b]? = some (.cells cs 46 (0, 0))) (h : cs.toList = rwL r) : RwIs w (.slice (some ⟨b, 0, none⟩) 1 1) [r] := by
  refine ⟨_, _, rfl, rfl, by show 1 ≤ 9223372036854775807; decide, .inr ⟨b, 0, _, rfl, Nat.le_refl _, fun i hi => ?_⟩⟩
  rw [Nat.zero_add, cell_of_row _ _ i cs 46 (0, 0) hw, List.flatMap_singleton, ← h]
  simp
theorem rw_lit (w : World) (r : Rw) (cs : Array Value) (h : cs.toList = rwL r) : RwIs (w.alloc (.cells cs 46)) (.slice (some ⟨w.heap.size, 0, none⟩) 1 1) [r] := by
  refine ⟨_, _, rfl, ?_⟩
  have := RowIs.lit w 2 1 cs 46 (0, 0) (by rw [← Array.length_toList, h]; rfl) (by omega)
  rw [h] at this
  simpa using this
def LfE (w : World) (l : List En) (n : Nat) (e : Ending) (w' : World) : Prop := ∃ a cap, e = .returned (.slice a n cap) ∧ SlIs w' (.slice a n cap) l ∧ Ext w w'
theorem al_left (w : World) (looks : List Nat) (last : Bool) (ks : List En) (n kn : Nat) (v : Value) (ka : Option Addr) (kc : Nat) (hS : SlIs w v aL) (hk : kn = looks.length) (hkb : looks.length ≤ 1000) (hK : RowIs w 1 (.slice ka kn kc) looks.length (nuL looks)) (ht : thinL aL looks last = ks) (hn : n = ks.length) : Calls Try.prog 20 #[v, .bool last, .slice ka kn kc] w (LfE w ks n) := by
  obtain ⟨a, c, rfl, h1⟩ := hS
  subst hk
  refine (left_any w aL looks last a ka c kc ⟨a, c, rfl, h1⟩ hK (by decide) (by omega) al_sq al_r).mono ?_
  rintro e w' ⟨hE, h2⟩
  obtain ⟨a', c', rfl, hown⟩ := h2 al_r
  rw [ht] at hown ⊢
  subst hn
  exact ⟨a', c', rfl, ⟨a', c', rfl, hown.row⟩, hE⟩
theorem al_see (w : World) (s : Nat) (rs : List Rw) (n : Nat) (v : Value) (hS : SlIs w v aL) (ht : seeL aL s = rs) (hn : n = rs.length) : Calls Try.prog 17 #[v, .int .u64 (s : Int)] w fun e w' => ∃ a cap, e = .returned (.tuple #[.slice a n cap, .int .i64 0]) ∧ RwIs w' (.slice a n cap) rs ∧ Ext w w' := by
  obtain ⟨a, c, rfl, h1⟩ := hS
  refine (see_any w aL s a c ⟨a, c, rfl, h1⟩ (by decide)).mono ?_
  rintro e w' ⟨hE, _, h2⟩
  obtain ⟨a', c', rfl, hown⟩ := h2 al_r
  rw [ht] at hown ⊢
  subst hn
  exact ⟨a', c', rfl, ⟨a', c', rfl, hown.row⟩, hE⟩
theorem al_see5 (w : World) (v : Value) (hS : SlIs w v [G1, F1]) : Calls Try.prog 17 #[v, .int .u64 5] w fun e w' => e = .returned (.tuple #[.slice none 0 0, .int .i64 1]) ∧ Ext w w' := by
  obtain ⟨a, c, rfl, h1⟩ := hS
  refine (see_any w [G1, F1] 5 a c ⟨a, c, rfl, h1⟩ (by decide)).mono ?_
  rintro e w' ⟨hE, h2, _⟩
  exact ⟨h2 al_r5, hE⟩
/-- A literal slice of entries, by its block. -/
theorem sl_row {w : World} {b : Nat} (l : List En) (n : Nat) (cs : Array Value) (hw : w.heap[b]? = some (.cells cs 31 (0, 0))) (h : cs.toList = l.flatMap enL) (hn : n = l.length) (h0 : 0 < n) (hb : l.length ≤ 1000) : SlIs w (.slice (some ⟨b, 0, none⟩) n n) l := by
  subst hn
  refine ⟨_, _, rfl, by rw [enl_len], by omega, .inr ⟨b, 0, _, rfl, Nat.le_refl _, fun i hi => ?_⟩⟩
  rw [Nat.zero_add, cell_of_row _ _ i cs 31 (0, 0) hw, ← h]
  simp
theorem nu_row {w : World} {b : Nat} (l : List Nat) (n : Nat) (cs : Array Value) (hw : w.heap[b]? = some (.cells cs 27 (0, 0))) (h : cs.toList = nuL l) (hn : n = l.length) (hb : l.length ≤ 1000) : RowIs w 1 (.slice (some ⟨b, 0, none⟩) n n) l.length (nuL l) := by
  subst hn
  refine ⟨by simp [nuL], by omega, .inr ⟨b, 0, _, rfl, Nat.le_refl _, fun i hi => ?_⟩⟩
  rw [Nat.zero_add, cell_of_row _ _ i cs 27 (0, 0) hw, ← h]
  simp
theorem al_merge (w : World) (b : Nat) (v1 v2 : Value) (hw : w.heap[b]? = some (.cells #[v1, v2] 22 (0, 0))) (h1 : SlIs w v1 [E0, E3]) (h2 : SlIs w v2 [E1, E2]) : Calls Try.prog 13 #[.slice (some ⟨b, 0, none⟩) 2 2] w fun e w' => ∃ a cap, e = .returned (.tuple #[.slice a 4 cap, .int .i64 0]) ∧ SlIs w' (.slice a 4 cap) aL ∧ Ext w w' := by
  refine (merge_any _ [(v1, [E0, E3]), (v2, [E1, E2])] (some ⟨b, 0, none⟩) 2 ⟨rfl, by show 2 ≤ 9223372036854775807; decide, .inr ⟨b, 0, _, rfl, Nat.le_refl _, fun i hi => by rw [Nat.zero_add, cell_of_row _ _ i _ 22 (0, 0) hw]; simp⟩⟩ (fun p hp => ?_) (by show 2 ≤ 1000; decide) (by simp)).mono ?_
  · rcases List.mem_cons.1 hp with rfl | hp
    · exact h1
    · rw [List.mem_singleton.1 hp]
      exact h2
  · rintro e w' ⟨hE2, _, h3⟩
    obtain ⟨out, hm, _, h4⟩ := h3 (by simp [al_r1, al_r2])
    have ho : out = aL := hm.rises ((risesB_iff _).1 al_r) (by
      show ([E0, E3] ++ ([E1, E2] ++ [])).Perm [E0, E1, E2, E3]
      simp only [List.cons_append, List.nil_append, List.append_nil]
      refine List.Perm.cons _ ?_
      exact (List.Perm.swap _ _ _).trans (List.Perm.cons _ (List.Perm.swap _ _ _)))
    subst ho
    obtain ⟨a, cap, rfl, hown⟩ := h4 al_r
    exact ⟨a, cap, rfl, ⟨a, cap, rfl, hown.row⟩, hE2⟩
theorem al_merge2 (w : World) (b : Nat) (v1 v2 : Value) (hw : w.heap[b]? = some (.cells #[v1, v2] 22 (0, 0))) (h1 : SlIs w v1 [F1]) (h2 : SlIs w v2 [F2]) : Calls Try.prog 13 #[.slice (some ⟨b, 0, none⟩) 2 2] w fun e w' => e = .returned (.tuple #[.slice none 0 0, .int .i64 1]) ∧ Ext w w' := by
  refine (merge_any _ [(v1, [F1]), (v2, [F2])] (some ⟨b, 0, none⟩) 2 ⟨rfl, by show 2 ≤ 9223372036854775807; decide, .inr ⟨b, 0, _, rfl, Nat.le_refl _, fun i hi => by rw [Nat.zero_add, cell_of_row _ _ i _ 22 (0, 0) hw]; simp⟩⟩ (fun p hp => ?_) (by show 2 ≤ 1000; decide) (by simp)).mono ?_
  · rcases List.mem_cons.1 hp with rfl | hp
    · exact h1
    · rw [List.mem_singleton.1 hp]
      exact h2
  · rintro e w' ⟨hE2, _, h3⟩
    obtain ⟨out, hm, h4, _⟩ := h3 (by simp [al_r3, al_r4])
    exact ⟨h4 (not_rises hm.perm (by
      intro h
      have h5 : ([F1.mark, F2.mark]).Nodup := h
      rw [List.nodup_cons] at h5
      exact h5.1 (List.mem_singleton.2 rfl))), hE2⟩
end Go.Proofs.Ytlgnpfchblgpoaa
