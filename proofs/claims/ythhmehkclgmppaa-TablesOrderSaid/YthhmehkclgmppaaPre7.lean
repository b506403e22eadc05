/- What the laws of bucketlinelaw07 begin with. No condition. -/
import Derived.Test.YthhmehkclgmppaaLaw7f
import Derived.Test.YthhmehkclgmppaaAlive
import Derived.Test.YthhmehkclgmppaaEn
namespace Go.Proofs.Ythhmehkclgmppaa
open Go.RowKit
theorem putl_nil (w : World) (l : List En) (a : Option Addr) (cap : Nat) (hg : ∀ x ∈ l, x.small) (hl : l.length ≤ 4096) (h1 : RowIs w 4 (.slice a l.length cap) l.length (l.flatMap enL)) :
    Calls Try.prog 17 #[.slice a l.length cap, .slice none 0 0] w fun e w' => e = .returned (.pointer (some ⟨w.heap.size + 1, 0, none⟩)) ∧ TabX w w' (w.heap.size + 1) (tabL l) :=
  putl_any w l a cap hg hl h1 [] none 0 (fun _ h => by cases h) (RowIs.nil _ _ _ _ (fun _ => rfl))
/-- The entries of a table, all. -/
theorem tx_all {w0 w : World} {tb : Nat} {L : List En} (h : TabX w0 w tb L) (hl : L.length ≤ 1000) (hf : ∀ e ∈ L, fineB e = true) : Calls Try.prog 12 #[.pointer (some ⟨tb, 0, none⟩), .agg #[.string ⟨#[]⟩, .int .u64 0, .bool false], .int .i64 1000] w fun e w' => ∃ a cap, e = .returned (.slice a L.length cap) ∧ RowIs w' 4 (.slice a L.length cap) L.length (L.flatMap enL) ∧ Ext w w' := by
  have := tx_from h (by omega) zMk 1000
  rw [show (1000 : Int).toNat = 1000 from rfl, rest_zero hf, List.take_of_length_le hl] at this
  exact this.mono fun _ _ h => from_row h
theorem many_false {l : List En} (h : manyB l = false) : l.length ≤ 200 := by
  unfold manyB at h
  rw [Bool.or_eq_false_iff, decide_eq_false_iff_not] at h
  omega
end Go.Proofs.Ythhmehkclgmppaa
