/- PastsAhead: the walk. No condition. -/
import Derived.Test.YtgbiifefpidebaaPaI
import Derived.Test.YtgbiifefpidebaaPaA
namespace Go.Proofs.Ytgbiifefpidebaa
open Go.RowKit
set_option maxRecDepth 100000
set_option maxHeartbeats 4000000
theorem pastsAhead_walk (w : World) (v : Value) (o0 : ∃ n, OKC Try.prog w n 22 [v]) : Calls Try.prog 3 #[v] w fun e w' => e = .returned (.bool true) ∧ Ext w w' := by
  obtain ⟨l, a, cap, rfl, hev⟩ := okc_events o0
  have hgr := great_ev w l a cap hev
  obtain ⟨ln, hln⟩ : ∃ n, n = l.length := ⟨_, rfl⟩
  rw [← hln] at hgr ⊢
  have hln' := Lib.hid hln
  have hev' := Lib.hid hev
  clear hln hev o0
  go_enter Try.func3, Try.ntmps3
  go_wp2_with fail
  refine hgr.mono ?_
  clear hgr
  rintro e w1 ⟨b, rfl, hb, hE1⟩
  cases b with
  | true =>
    go_wp2_with fail
    refine (lives_any w1).mono ?_
    rintro e w2 ⟨rfl, hE2⟩
    go_wp2_with fail
    go_ret
    exact ⟨rfl, hE1.trans hE2⟩
  | false =>
    have hn : ln ≤ 120 := hb rfl
    clear hb
    by_cases h40 : 40 < ln
    case pos =>
      have h40i : (40 : Int) < (ln : Int) := by omega
      have d40 : decide ((40 : Int) < (ln : Int)) = true := decide_eq_true h40i
      go_wp2_with fail
      refine (lives_any w1).mono ?_
      rintro e w2 ⟨rfl, hE2⟩
      go_wp2_with fail
      go_ret
      exact ⟨rfl, hE1.trans hE2⟩
    have h40i : ¬ (40 : Int) < (ln : Int) := by omega
    have d40 : decide ((40 : Int) < (ln : Int)) = false := decide_eq_false h40i
    have hck := pcheck_any w1 l a cap (hev'.out.1.ext hE1) (by rw [← hln'.out]; omega) (fun x hx => (hev'.out.2.2 x hx).ext hE1)
    unfold CkE at hck
    obtain ⟨C, hC⟩ : ∃ C, C = (ckL l).isSome := ⟨_, rfl⟩
    rw [← hC, ← hln'.out] at hck
    have hC' := Lib.hid hC
    clear hC
    go_wp2_with fail
    refine hck.mono ?_
    clear hck
    rintro e w2 ⟨rfl, hE2⟩
    have hE := hE1.trans hE2
    clear hE1 hE2
    cases C with
    | false =>
      go_wp2_with fail
      refine (lives_any w2).mono ?_
      rintro e w3 ⟨rfl, hE3⟩
      go_wp2_with fail
      go_ret
      exact ⟨rfl, hE.trans hE3⟩
    | true =>
      have hah : ∀ (W : World), Ext w W → ∀ (i j : Nat), i ≤ ln → j ≤ ln → Calls Try.prog 10 #[.slice a ln cap, .int .i64 (i : Int), .int .i64 (j : Int)] W (CtE W (aheadB l i j)) := fun W hW i j hi hj => by
        have := ahead_ev W l a cap (hev'.out.1.ext hW) (by rw [← hln'.out]; omega) i j (by omega) (by omega)
        rwa [← hln'.out] at this
      have hah' := Lib.hid hah
      clear hah
      have hl1 : l.length ≤ 1000 := by rw [← hln'.out]; omega
      have hl1' := Lib.hid hl1
      clear hl1
      go_wp2_with fail
      go_loopw [3, 4, 5] (fun i _ _ wr => ∃ k : Nat, k ≤ ln ∧ i = .int .i64 k ∧ Ext w wr) (fun i _ _ _ => ln - (intOf i).toNat)
      case atStart => exact ⟨0, by omega, rfl, hE⟩
      case round =>
        obtain ⟨k, hk, rfl, hEr⟩ := hrel
        clear hE
        by_cases hlt : k < ln
        · have hli : (k : Int) < (ln : Int) := by omega
          go_wp2_with fail
          go_loopw [4, 5] (fun i _ wr => ∃ j : Nat, j ≤ ln ∧ i = .int .i64 j ∧ Ext w wr) (fun i _ _ => ln - (intOf i).toNat)
          case atStart => exact ⟨0, by omega, rfl, hEr⟩
          case round =>
            obtain ⟨j, hj, rfl, hEj⟩ := hrel
            clear hEr
            by_cases hlt2 : j < ln
            · have hlj : (j : Int) < (ln : Int) := by omega
              go_wp2_with fail
              have hc := hah'.out _ hEj k j (by omega) (by omega)
              obtain ⟨B, hB⟩ : ∃ B, B = aheadB l k j := ⟨_, rfl⟩
              rw [← hB] at hc
              refine hc.mono ?_
              clear hc
              rintro e w3 ⟨rfl, hE3⟩
              have hEk := hEj.trans hE3
              have hB' := Lib.hid hB
              clear hB hEj hE3
              cases B with
              | false =>
                go_wp2_with fail
                go_roundw
                case rel => exact ⟨j + 1, by omega, by go_num, hEk⟩
                case measure => simp [intOf]; omega
              | true =>
                have hkj : k < j := ahead_lt hl1'.out hC'.out.symm hB'.out.symm
                have hge : ¬ (j : Int) ≤ (k : Int) := by omega
                have dge : decide ((j : Int) ≤ (k : Int)) = false := decide_eq_false hge
                have dge2 : decide (j ≤ k) = false := decide_eq_false (by omega)
                go_wp2_with fail
                go_loopw [5] (fun i wr => ∃ c : Nat, c ≤ ln ∧ i = .int .i64 c ∧ Ext w wr) (fun i _ => ln - (intOf i).toNat)
                case atStart => exact ⟨0, by omega, rfl, hEk⟩
                case round =>
                  obtain ⟨c, hcl, rfl, hEc⟩ := hrel
                  clear hEk
                  by_cases hlt3 : c < ln
                  · have hlc : (c : Int) < (ln : Int) := by omega
                    go_wp2_with fail
                    have hc2 := hah'.out _ hEc j c (by omega) (by omega)
                    obtain ⟨B2, hB2⟩ : ∃ B, B = aheadB l j c := ⟨_, rfl⟩
                    rw [← hB2] at hc2
                    refine hc2.mono ?_
                    clear hc2
                    rintro e w4 ⟨rfl, hE4⟩
                    have hEd := hEc.trans hE4
                    have hB2' := Lib.hid hB2
                    clear hB2 hEc hE4
                    cases B2 with
                    | false =>
                      go_wp2_with fail
                      go_roundw
                      case rel => exact ⟨c + 1, by omega, by go_num, hEd⟩
                      case measure => simp [intOf]; omega
                    | true =>
                      have hc3 := hah'.out _ hEd k c (by omega) (by omega)
                      rw [ahead_trans hl1'.out hC'.out.symm hB'.out.symm hB2'.out.symm] at hc3
                      go_wp2_with fail
                      refine hc3.mono ?_
                      clear hc3
                      rintro e w5 ⟨rfl, hE5⟩
                      go_wp2_with fail
                      go_roundw
                      case rel => exact ⟨c + 1, by omega, by go_num, hEd.trans hE5⟩
                      case measure => simp [intOf]; omega
                  · have hlc : ¬ (c : Int) < (ln : Int) := by omega
                    go_wp2_with fail
                    go_roundw
                    case rel => exact ⟨j + 1, by omega, by go_num, hEc⟩
                    case measure => simp [intOf]; omega
            · have hlj : ¬ (j : Int) < (ln : Int) := by omega
              go_wp2_with fail
              go_roundw
              case rel => exact ⟨k + 1, by omega, by go_num, hEj⟩
              case measure => simp [intOf]; omega
        · have hli : ¬ (k : Int) < (ln : Int) := by omega
          go_wp2_with fail
          refine (lives_any wr).mono ?_
          rintro e w7 ⟨rfl, hE7⟩
          go_wp2_with fail
          go_ret
          exact ⟨rfl, hEr.trans hE7⟩
end Go.Proofs.Ytgbiifefpidebaa
