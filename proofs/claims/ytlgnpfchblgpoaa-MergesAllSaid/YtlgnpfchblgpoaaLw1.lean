/- What the laws of bucketlinelaw12 call of Merge, told in short. No condition. -/
import Derived.Test.YtlgnpfchblgpoaaLw0
namespace Go.Proofs.Ytlgnpfchblgpoaa
open Go.RowKit
theorem merge_ok (w : World) (ls : List Ls) (L : List En) (n N : Nat) (a : Option Addr) (cap : Nat) (hn : n = ls.length) (hN : N = L.length) (hR : RowIs w 1 (.slice a n cap) n (ls.map (·.1))) (hls : ∀ p ∈ ls, SlIs w p.1 p.2) (hb : ls.length ≤ 1000) (hr : ∀ p ∈ ls, Rises p.2) (hL : Rises L) (hp : (ls.map (·.2)).flatten.Perm L) (hT : L.length ≤ 1000000) :
    Calls Try.prog 13 #[.slice a n cap] w fun e w' => ∃ a' cap', e = .returned (.tuple #[.slice a' N cap', .int .i64 0]) ∧ OwnC w' w.heap.size 31 4 (.slice a' N cap') N (L.flatMap enL) ∧ Ext w w' := by
  subst hn hN
  refine (merge_any w ls a cap hR hls hb (by rw [hp.length_eq]; exact hT)).mono ?_
  rintro e w' ⟨hE, _, h3⟩
  obtain ⟨out, hm, _, h4⟩ := h3 (List.all_eq_true.2 fun p hp => (risesB_iff _).2 (hr p hp))
  obtain rfl : out = L := hm.rises hL hp
  obtain ⟨a', cap', rfl, hown⟩ := h4 ((risesB_iff _).2 hL)
  exact ⟨a', cap', rfl, hown, hE⟩
theorem merge_no (w : World) (ls : List Ls) (n : Nat) (a : Option Addr) (cap : Nat) (hn : n = ls.length) (hR : RowIs w 1 (.slice a n cap) n (ls.map (·.1))) (hls : ∀ p ∈ ls, SlIs w p.1 p.2) (hb : ls.length ≤ 1000) (hr : ∀ p ∈ ls, Rises p.2) (hd : ¬ ((ls.map (·.2)).flatten.map En.mark).Nodup) (hT : (ls.map (·.2)).flatten.length ≤ 1000000) :
    Calls Try.prog 13 #[.slice a n cap] w fun e w' => e = .returned (.tuple #[.slice none 0 0, .int .i64 1]) ∧ Ext w w' := by
  subst hn
  refine (merge_any w ls a cap hR hls hb hT).mono ?_
  rintro e w' ⟨hE, _, h3⟩
  obtain ⟨out, hm, h5, _⟩ := h3 (List.all_eq_true.2 fun p hp => (risesB_iff _).2 (hr p hp))
  exact ⟨h5 (not_rises hm.perm hd), hE⟩
/-- See, the rows in memory of its own. -/
def SeeW (W : World) (L : List En) (s : Nat) (e : Ending) (w' : World) : Prop := ∃ a cap n, e = .returned (.tuple #[.slice a n cap, .int .i64 0]) ∧ Hid (n = (seeL L s).length) ∧ Hid (OwnC w' W.heap.size 46 2 (.slice a n cap) n ((seeL L s).flatMap rwL)) ∧ Ext W w'
theorem see_own (W : World) (L : List En) (s : Nat) (v : Value) (hS : SlIs W v L) (hr : risesB L = true) (hn : L.length ≤ 1000) : Calls Try.prog 17 #[v, .int .u64 (s : Int)] W (SeeW W L s) := by
  obtain ⟨a, c, rfl, h1⟩ := hS
  refine (see_any W L s a c ⟨a, c, rfl, h1⟩ (by omega)).mono ?_
  rintro e w' ⟨hE, _, h2⟩
  obtain ⟨a', c', rfl, hown⟩ := h2 hr
  exact ⟨a', c', _, rfl, Lib.hid rfl, Lib.hid hown, hE⟩
theorem see_len (L : List En) (s : Nat) : (seeL L s).length ≤ L.length := by
  have h1 : (seeL L s).length ≤ (keyG L).length := List.length_filterMap_le _ _
  exact Nat.le_trans h1 (keyG_len L)
theorem rwl_one (l : List Rw) : ∀ u ∈ l.flatMap rwL, u.oneCell' = true := fun u hu => by
  obtain ⟨r, _, hr⟩ := List.mem_flatMap.1 hu
  simp only [rwL, List.mem_cons, List.not_mem_nil, or_false] at hr
  rcases hr with rfl | rfl <;> rfl
/-- A literal slice of two slices. -/
theorem two_row {w : World} {b : Nat} (v1 v2 : Value) (hw : w.heap[b]? = some (.cells #[v1, v2] 22 (0, 0))) : RowIs w 1 (.slice (some ⟨b, 0, none⟩) 2 2) 2 [v1, v2] :=
  ⟨rfl, by decide, .inr ⟨b, 0, _, rfl, Nat.le_refl _, fun i hi => by rw [Nat.zero_add, cell_of_row _ _ i _ 22 (0, 0) hw]; simp⟩⟩
end Go.Proofs.Ytlgnpfchblgpoaa
