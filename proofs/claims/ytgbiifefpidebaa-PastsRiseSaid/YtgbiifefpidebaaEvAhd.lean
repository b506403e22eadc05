/- pasts.Ahead: was one answered ahead of another one's being asked? No condition. -/
import Derived.Test.YtgbiifefpidebaaEvAh1
namespace Go.Proofs.Ytgbiifefpidebaa
open Go.RowKit
set_option maxRecDepth 100000
set_option maxHeartbeats 1000000
/-- What the closure captures. -/
structure CapAt (w : World) (y : Ev) (g1 g2 : Nat) : Prop where
  out : ∃ b off k n cap : Nat, w.cell? ⟨g1, 0, none⟩ = some (.slice (some ⟨b, off, none⟩) n cap) ∧ w.cell? ⟨g2, 0, none⟩ = some (.int .i64 (k : Int)) ∧ w.rangeAt b (off + k * 17) y.cells ∧ k < n
theorem CapAt.ext {w w' : World} {y : Ev} {g1 g2 : Nat} (h : CapAt w y g1 g2) (he : Ext w w') : CapAt w' y g1 g2 := by
  obtain ⟨b, off, k, n, cap, h1, h2, h3, h4⟩ := h.out
  exact ⟨b, off, k, n, cap, he.cell h1, he.cell h2, fun r u hu => he.cell (h3 r u hu), h4⟩
theorem ahead1_cap (w : World) (x y : Ev) (g1 g2 : Nat) (h : CapAt w y g1 g2) : Calls Try.prog 18 #[.agg x.cells.toArray, .pointer (some ⟨g1, 0, none⟩), .pointer (some ⟨g2, 0, none⟩)] w fun e w' => e = .returned (.bool (y.asks x)) ∧ Ext w w' := by
  obtain ⟨b, off, k, n, cap, h1, h2, h3, h4⟩ := h.out
  exact ahead1_any w x y g1 g2 b off k n cap h1 h2 h3 h4
def IxE (w : World) (y : Ev) (l : List Ev) (e : Ending) (w' : World) : Prop := ∃ r : Int, e = .returned (.int .i64 r) ∧ ((r = -1 ∧ l.any y.asks = false) ∨ (0 ≤ r ∧ l.any y.asks = true)) ∧ Ext w w'
theorem ixf_ev (w : World) (y : Ev) (l : List Ev) (a : Option Addr) (cap : Nat) (hR : RowIs w 17 (.slice a l.length cap) l.length (l.flatMap Ev.cells)) (hn : l.length ≤ 120) (g1 g2 : Nat) (hc : CapAt w y g1 g2) : Calls Try.prog 26 #[.slice a l.length cap, .func (.func 18) #[] #[.pointer (some ⟨g1, 0, none⟩), .pointer (some ⟨g2, 0, none⟩)]] w (IxE w y l) := by
  obtain ⟨ln, hln⟩ : ∃ n, n = l.length := ⟨_, rfl⟩
  rw [← hln] at hR hn ⊢
  have hR' := Lib.hid hR
  have hln' := Lib.hid hln
  have hc' := Lib.hid hc
  clear hR hln hc
  go_enter Try.func26, Try.ntmps26
  go_wp2_with fail
  go_loopw [8] (fun i wr => ∃ k : Nat, k ≤ ln ∧ i = .int .i64 k ∧ Hid ((l.take k).any y.asks = false) ∧ Ext w wr) (fun i _ => ln - (intOf i).toNat)
  case atStart => exact ⟨0, by omega, rfl, Lib.hid rfl, Ext.refl _⟩
  case round =>
    obtain ⟨k, hk, rfl, hno, hE⟩ := hrel
    by_cases hlt : k < ln
    · have hli : (k : Int) < (ln : Int) := by omega
      obtain ⟨c, hcc⟩ : ∃ c, l[k]? = some c := ⟨_, List.getElem?_eq_getElem (by rw [← hln'.out]; exact hlt)⟩
      obtain ⟨b, off, hat⟩ := (hR'.out.ext hE).at
      obtain ⟨rfl, _, hd⟩ := hat (by omega)
      have hrg := ev_range (by rw [← hln'.out]; exact hd) hcc
      have htk : l.take (k + 1) = l.take k ++ [c] := by rw [List.take_add_one, hcc]; rfl
      have htk' := Lib.hid htk
      have hcm := Lib.hid (List.mem_of_getElem? hcc)
      clear hd hat htk hcc
      obtain ⟨B, hB⟩ : ∃ B, B = y.asks c := ⟨_, rfl⟩
      have h1 := ahead1_cap wr c y g1 g2 (hc'.out.ext hE)
      rw [← hB] at h1
      have h1' := Lib.hid h1
      have hB' := Lib.hid hB
      clear h1 hB
      cases B with
      | false =>
        go_wp2_with (first | (refine wpList_load_mid (by rfl) 40 (.tmp 14) (by rfl) b (off + k * 17) (by rfl) c.cells _ hrg Try.underlying40 rfl (by exact ev_inf) ?_) | fail)
        refine h1'.out.mono ?_
        rintro e w2 ⟨rfl, hE2⟩
        go_wp2_with fail
        go_roundw
        case rel => exact ⟨k + 1, by omega, by go_num, Lib.hid (by rw [htk'.out, List.any_append, hno.out]; simp [← hB'.out]), hE.trans hE2⟩
        case measure => simp [intOf]; omega
      | true =>
        go_wp2_with (first | (refine wpList_load_mid (by rfl) 40 (.tmp 14) (by rfl) b (off + k * 17) (by rfl) c.cells _ hrg Try.underlying40 rfl (by exact ev_inf) ?_) | fail)
        refine h1'.out.mono ?_
        rintro e w2 ⟨rfl, hE2⟩
        go_wp2_with fail
        go_ret
        exact ⟨k, rfl, .inr ⟨by omega, List.any_eq_true.2 ⟨c, hcm.out, hB'.out.symm⟩⟩, hE.trans hE2⟩
    · have hli : ¬ (k : Int) < (ln : Int) := by omega
      have hall : Hid (l.any y.asks = false) := Lib.hid (by have := hno.out; rw [List.take_of_length_le (by rw [← hln'.out]; omega)] at this; exact this)
      go_wp2_with fail
      go_ret
      exact ⟨-1, rfl, .inl ⟨rfl, hall.out⟩, hE⟩
def CtE (w : World) (b : Bool) (e : Ending) (w' : World) : Prop := e = .returned (.bool b) ∧ Ext w w'
theorem ctf_ev (w : World) (y : Ev) (l : List Ev) (a : Option Addr) (cap : Nat) (hR : RowIs w 17 (.slice a l.length cap) l.length (l.flatMap Ev.cells)) (hn : l.length ≤ 120) (g1 g2 : Nat) (hc : CapAt w y g1 g2) : Calls Try.prog 17 #[.slice a l.length cap, .func (.func 18) #[] #[.pointer (some ⟨g1, 0, none⟩), .pointer (some ⟨g2, 0, none⟩)]] w (CtE w (l.any y.asks)) := by
  have h1 := Lib.hid (ixf_ev w y l a cap hR hn g1 g2 hc)
  clear hR hn hc
  go_enter Try.func17, Try.ntmps17
  go_wp2_with fail
  refine h1.out.mono ?_
  rintro e w' ⟨r, rfl, hf, hE⟩
  rcases hf with ⟨rfl, hb⟩ | ⟨h0, hb⟩
  · have hb' := Lib.hid hb
    clear hb
    go_wp2_with fail
    go_ret
    exact ⟨by rw [hb'.out]; rfl, hE⟩
  · have hb' := Lib.hid hb
    clear hb
    have d0 : decide (0 ≤ r) = true := decide_eq_true h0
    go_wp2_with fail
    go_ret
    exact ⟨by rw [hb'.out]; rfl, hE⟩
end Go.Proofs.Ytgbiifefpidebaa
