/- slices.Clone of changes at a seat without clients. No condition. -/
import Derived.Test.YtmjoaiepfipmaaaMod8
import Derived.Test.YtmjoaiepfipmaaaChk2
namespace Go.Proofs.Ytmjoaiepfipmaaa
open Go.RowKit
set_option maxRecDepth 100000
theorem ch_eql_nil (w : World) (a : Option Addr) (n c n' c' : Nat) : (binOp .eql 24 (.slice a n c) (.slice none n' c')).run Try.prog w = .ok (.bool a.isNone) w := Lib.run_eql_slice_nil w _ _ a n c n' c' Try.underlying24
theorem made_row (w : World) (e : TypeId) (size : Nat) : (w.alloc (.cells #[] e)).ownsRow w.heap.size e size (.slice (some ⟨w.heap.size, 0, none⟩) 0 0) 0 [] := World.ownsRow_made w #[] 0 (Nat.le_refl _) (Nat.zero_le _) (by simp)
/-- What Clone of n changes tells: a slice of the call's own. -/
def Cloned (w : World) (n : Nat) (xs : List Value) (e : Ending) (w' : World) : Prop := ∃ a cap, e = .returned (.slice a n cap) ∧ n ≤ cap ∧ w'.ownsRow w.heap.size 79 3 (.slice a n cap) n xs ∧ Ext w w'
/-- slices.Clone of changes, its block the call's own. -/
theorem clone_ch (w : World) (l : List Ch) (a : Option Addr) (cap : Nat) (h : ChsAt w l a cap) :
    Calls Try.prog 39 #[.slice a l.length cap] w (Cloned w l.length (l.flatMap Ch.cells)) := by
  obtain ⟨hr, hn, _⟩ := h
  have h1 := ch_one l
  generalize l.flatMap Ch.cells = xs at *
  generalize l.length = n at *
  have q30 := ch_eql_nil
  cases a with
  | none =>
    obtain ⟨hl, _, ⟨rfl, a', cap', he, hc⟩ | ⟨b, off, cap', he, _⟩⟩ := hr
    · injection he with e1 _ e3
      subst e1 e3
      obtain rfl := hc rfl
      obtain rfl : xs = [] := List.eq_nil_of_length_eq_zero (by simpa using hl)
      go_enter Try.func39, Try.ntmps39
      go_wp2
      go_ret
      exact ⟨none, 0, rfl, Nat.le_refl _, World.ownsRow_nil _ _ _ _, Ext.refl _⟩
    · injection he with e1; cases e1
  | some ad =>
    have hl := hr.2.1
    go_enter Try.func39, Try.ntmps39
    go_wp2_with (at_builtin; refine wpList_append_row rfl (.tmp 5) (.tmp 6) 24 79 rfl Try.underlying24 el_ch (w.alloc (.cells #[] 79)) w.heap.size 0 [] _ (by rfl) (made_row w 79 3) (.slice (some ad) n cap) n xs rfl (hr.ext ((Ext.refl w).alloc _)) h1 (by omega) (by omega) (by simp) ?_; intro v' w' hown hb)
    go_ret
    rw [Nat.zero_add, List.nil_append] at hown
    obtain ⟨a', cap', rfl, hc⟩ := own_slice hown
    exact ⟨a', cap', rfl, hc, hown, Below.trans ((Ext.refl w).alloc _) hb⟩
end Go.Proofs.Ytmjoaiepfipmaaa
