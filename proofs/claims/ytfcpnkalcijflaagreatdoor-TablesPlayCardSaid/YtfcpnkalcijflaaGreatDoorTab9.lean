/- A table's Put, whatever comes. No condition. -/
import Derived.Test.YtfcpnkalcijflaaGreatDoorTab8
namespace Go.Proofs.YtfcpnkalcijflaaGreatDoor
open Go.RowKit
theorem put_any (w : World) (tb hd : Nat) (ns : List Nd) (x : En) (tall : Int) (hS : SkAt w tb hd ns) (hlen : ns.length ≤ 4096) (hs : x.small) :
    Calls Tryz.prog 6 #[.pointer (some ⟨tb, 0, none⟩), .agg (enRow x), .int .i64 tall] w (PutE w tb hd ns x tall) := by
  cases hok : okB x tall with
  | false =>
    refine (put_arg w tb hd ns x tall hS hs hok).mono ?_
    rintro e w' ⟨rfl, hE⟩
    exact put_same (hS.ext hE) hE (by unfold putC; rw [hok]; rfl) (by unfold putL; rw [hok]; rfl)
  | true =>
    have h0 := hok
    unfold okB fineB at h0
    simp only [Bool.and_eq_true, decide_eq_true_eq, Bool.or_eq_true, Bool.not_eq_true'] at h0
    obtain ⟨⟨hk, hv, hg⟩, ht1, ht8⟩ := h0
    obtain ⟨t, rfl⟩ := Int.eq_ofNat_of_zero_le (by omega : 0 ≤ tall)
    obtain ⟨⟨xk, xs, xg⟩, xv⟩ := x
    simp only at hk hv hg
    cases xg with
    | false => exact put_mainF w tb hd ns xk xs xv t hS hlen hk hv (by omega) (by omega) hok hs.1
    | true =>
      have he : xv.toList.isEmpty = true := by rcases hg with h | h; cases h; exact h
      have hxv : xv = ⟨#[]⟩ := ba_ext (by rw [List.isEmpty_iff.1 he, Lib.toList_data])
      subst hxv
      exact put_mainT w tb hd ns xk xs t hS hlen hk (by omega) (by omega) hok hs.1
end Go.Proofs.YtfcpnkalcijflaaGreatDoor
