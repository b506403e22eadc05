/- PastsBegin: the plain law, the walk. No condition. -/
import Derived.Test.YtgbiifefpidebaaPaI
namespace Go.Proofs.Ytgbiifefpidebaa
open Go.RowKit
set_option maxRecDepth 100000
set_option maxHeartbeats 4000000
theorem take_some {l : List Ev} (h : (ckL l).isSome = true) (k : Nat) : (ckL (l.take k)).isSome = true := by
  cases hc : ckL (l.take k) with
  | none =>
    have := ckL_none (l.take k) (l.drop k) hc
    rw [List.take_append_drop] at this
    rw [this] at h; cases h
  | some s => rfl
theorem begin_log {l : List Ev} {k : Nat} (h : (l.drop k).any isCI = false) : logP (l.take k) = logP l := by
  have h0 : fewL (l.drop k) = [] := by
    unfold fewL
    rw [List.filter_eq_nil_iff]
    intro x hx hc
    rw [List.any_eq_false] at h
    exact h x hx hc
  have h1 : fewL l = fewL (l.take k) := by
    have : fewL (l.take k ++ l.drop k) = fewL (l.take k) ++ fewL (l.drop k) := by unfold fewL; rw [List.filter_append]
    rw [List.take_append_drop, h0, List.append_nil] at this
    exact this
  rw [← few_log l, h1, few_log]
theorem cut_step {l : List Ev} {k i : Nat} {x : Ev} (hk : k ≤ i) (hx : l[i]? = some x) : ((l.take (i + 1)).drop k).any isCI = (((l.take i).drop k).any isCI || isCI x) := by
  have hi : i < l.length := (List.getElem?_eq_some_iff.1 hx).1
  rw [List.take_add_one, hx, List.drop_append_of_le_length (by rw [List.length_take]; omega), List.any_append]
  simp
theorem pastsBegin_walk (w : World) (v : Value) (o0 : ∃ n, OKC Try.prog w n 22 [v]) (i : Int) (o1 : ∃ n, OKC Try.prog w n 5 [.int .u8 i]) : Calls Try.prog 5 #[v, .int .u8 i] w fun e w' => e = .returned (.bool true) ∧ Ext w w' := by
  obtain ⟨ip, rfl, hip⟩ := okc_nat (top := 256) Try.underlying5 (fun _ h => wf_u8 h) o1
  obtain ⟨l, a, cap, rfl, hev⟩ := okc_events o0
  have hgr := great_ev w l a cap hev
  obtain ⟨ln, hln⟩ : ∃ n, n = l.length := ⟨_, rfl⟩
  rw [← hln] at hgr ⊢
  have hln' := Lib.hid hln
  have hev' := Lib.hid hev
  clear hln hev o0 o1
  go_enter Try.func5, Try.ntmps5
  go_wp2_with fail
  refine hgr.mono ?_
  clear hgr
  rintro e w1 ⟨b, rfl, hb, hE1⟩
  cases b with
  | true =>
    go_wp2_with fail
    refine (lives_any w1).mono ?_
    rintro e w2 ⟨rfl, hE2⟩
    go_wp2_with fail
    go_ret
    exact ⟨rfl, hE1.trans hE2⟩
  | false =>
    have hn : ln ≤ 120 := hb rfl
    clear hb
    have hck := pcheck_any w1 l a cap (hev'.out.1.ext hE1) (by rw [← hln'.out]; omega) (fun x hx => (hev'.out.2.2 x hx).ext hE1)
    unfold CkE at hck
    obtain ⟨C, hC⟩ : ∃ C, C = (ckL l).isSome := ⟨_, rfl⟩
    rw [← hC, ← hln'.out] at hck
    have hC' := Lib.hid hC
    clear hC
    go_wp2_with fail
    refine hck.mono ?_
    clear hck
    rintro e w2 ⟨rfl, hE2⟩
    have hE := hE1.trans hE2
    clear hE1 hE2
    cases C with
    | false =>
      go_wp2_with fail
      refine (lives_any w2).mono ?_
      rintro e w3 ⟨rfl, hE3⟩
      go_wp2_with fail
      go_ret
      exact ⟨rfl, hE.trans hE3⟩
    | true =>
      have hwl : IntKind.i64.wrap ((ln : Int) + 1) = (ln : Int) + 1 := by rw [IntKind.wrap_i64]; omega
      have hwp : IntKind.i64.wrap (ip : Int) = (ip : Int) := by rw [IntKind.wrap_i64]; omega
      have hl0 : ¬ (ln : Int) + 1 = 0 := by omega
      go_upto_region 4 with fail
      obtain ⟨k, hk⟩ : ∃ k, k = ip % (ln + 1) := ⟨_, rfl⟩
      have hkl : k ≤ ln := by have := Nat.mod_lt ip (show 0 < ln + 1 by omega); omega
      have hki : (ip : Int) % ((ln : Int) + 1) = (k : Int) := by rw [hk]; simp
      rw [hki]
      clear hki hk hwl hl0
      have hcp : ln ≤ cap ∨ ln = 0 := by
        have := hev'.out.1
        rw [← hln'.out] at this
        obtain ⟨b, off, hat⟩ := this.at
        by_cases h0 : ln = 0
        · exact .inr h0
        · exact .inl (hat (by omega)).2.1
      have hkc : (k : Int) ≤ (cap : Int) := by omega
      have hk0 : 0 ≤ (k : Int) := by omega
      have htk := (hev'.out.1).take (k := k) (by rw [← hln'.out]; exact hkl)
      rw [(flatMap_cut Ev.cells 17 (fun _ => rfl) l k).2] at htk
      have hlk : (l.take k).length = k := by rw [List.length_take, ← hln'.out]; omega
      have hgk : ∀ x ∈ l.take k, x.good w := fun x hx => hev'.out.2.2 x (List.mem_of_mem_take hx)
      have hckk := pcheck_any w2 (l.take k) a cap (by rw [hlk]; exact htk.ext hE) (by rw [hlk]; omega) (fun x hx => (hgk x hx).ext hE)
      unfold CkE at hckk
      rw [take_some hC'.out.symm, hlk] at hckk
      have htk' := Lib.hid htk
      have hlk' := Lib.hid hlk
      have hgk' := Lib.hid hgk
      clear htk hlk hgk hcp
      go_wp2_with fail
      refine hckk.mono ?_
      clear hckk
      rintro e w3 ⟨rfl, hE3⟩
      have hEx := hE.trans hE3
      clear hE hE3
      go_wp2_with fail
      go_loopw [6, 7] (fun c i wr => ∃ (j : Nat) (cb : Bool), k ≤ j ∧ j ≤ ln ∧ i = .int .i64 j ∧ c = .bool cb ∧ Hid (cb = ((l.take j).drop k).any isCI) ∧ Ext w wr) (fun _ i _ => ln - (intOf i).toNat)
      case atStart => exact ⟨k, false, by omega, hkl, rfl, rfl, Lib.hid (by rw [List.drop_of_length_le (by rw [List.length_take]; omega)]; rfl), hEx⟩
      case round =>
        obtain ⟨j, cb, hkj, hj, rfl, rfl, hcb, hEr⟩ := hrel
        by_cases hlt : j < ln
        · have hli : (j : Int) < (ln : Int) := by omega
          obtain ⟨x, hx⟩ : ∃ c, l[j]? = some c := ⟨_, List.getElem?_eq_getElem (by rw [← hln'.out]; exact hlt)⟩
          have hR := hev'.out.1.ext hEr
          rw [← hln'.out] at hR
          obtain ⟨b, off, hat⟩ := hR.at
          obtain ⟨rfl, _, hd⟩ := hat (by omega)
          have hrg := ev_range (by rw [← hln'.out]; exact hd) hx
          have hst := Lib.hid (cut_step hkj hx)
          have x0 := hrg 0 _ rfl
          rw [Nat.add_zero] at x0
          clear hat hd hx hR hrg
          cases cb with
          | true =>
            have hf : Hid (true = ((l.take (j + 1)).drop k).any isCI) := Lib.hid (by rw [hst.out, ← hcb.out]; rfl)
            go_wp2_with fail
            go_roundw
            case rel => exact ⟨j + 1, true, by omega, by omega, by go_num, rfl, hf, hEr⟩
            case measure => simp [intOf]; omega
          | false =>
            by_cases h3 : x.kind = 3
            · have k3 : (x.kind == 3) = true := by rw [h3]; rfl
              have hf : Hid (true = ((l.take (j + 1)).drop k).any isCI) := Lib.hid (by rw [hst.out]; unfold isCI; rw [decide_eq_true h3]; simp)
              clear h3
              go_wp2_with fail
              go_roundw
              case rel => exact ⟨j + 1, true, by omega, by omega, by go_num, rfl, hf, hEr⟩
              case measure => simp [intOf]; omega
            · have k3 : (x.kind == 3) = false := by simp [h3]
              by_cases h5 : x.kind = 5
              · have k5 : (x.kind == 5) = true := by rw [h5]; rfl
                have hf : Hid (true = ((l.take (j + 1)).drop k).any isCI) := Lib.hid (by rw [hst.out]; unfold isCI; rw [decide_eq_true h5]; simp)
                clear h3 h5
                go_wp2_with fail
                go_roundw
                case rel => exact ⟨j + 1, true, by omega, by omega, by go_num, rfl, hf, hEr⟩
                case measure => simp [intOf]; omega
              · have k5 : (x.kind == 5) = false := by simp [h5]
                have hf : Hid (false = ((l.take (j + 1)).drop k).any isCI) := Lib.hid (by rw [hst.out, ← hcb.out]; unfold isCI; rw [decide_eq_false h3, decide_eq_false h5]; rfl)
                clear h3 h5
                go_wp2_with fail
                go_roundw
                case rel => exact ⟨j + 1, false, by omega, by omega, by go_num, rfl, hf, hEr⟩
                case measure => simp [intOf]; omega
        · have hli : ¬ (j : Int) < (ln : Int) := by omega
          have htl : l.take j = l := List.take_of_length_le (by rw [← hln'.out]; omega)
          rw [htl] at hcb
          clear htl hlt
          cases cb with
          | true =>
            clear hcb
            go_wp2_with fail
            refine (lives_any wr).mono ?_
            rintro e w7 ⟨rfl, hE7⟩
            go_wp2_with fail
            go_ret
            exact ⟨rfl, hEr.trans hE7⟩
          | false =>
            have hl1 := log_any wr (l.take k) a cap (by rw [hlk'.out]; exact htk'.out.ext hEr) (by rw [hlk'.out]; omega) (fun x hx => (hgk'.out x hx).ext hEr) (take_some hC'.out.symm k)
            rw [hlk'.out] at hl1
            go_wp2_with fail
            refine hl1.mono ?_
            clear hl1
            rintro e w4 ⟨os1, a1, rfl, hL1⟩
            have hl2 := log_any w4 l a cap (hev'.out.1.ext (hEr.trans hL1.ext)) (by rw [← hln'.out]; omega) (fun x hx => (hev'.out.2.2 x hx).ext (hEr.trans hL1.ext)) hC'.out.symm
            rw [← hln'.out] at hl2
            go_wp2_with fail
            refine hl2.mono ?_
            clear hl2
            rintro e w5 ⟨os2, a2, rfl, hL2⟩
            have hs := sitems_true w5 os1 os2 a1 a2 _ _ (by rw [hL1.same, hL2.same, begin_log hcb.out.symm]) (hL1.row.ext hL2.ext) hL2.row (fun y hy => ⟨((hL1.ok y hy).chs).ext hL2.ext, (hL1.ok y hy).good⟩) hL2.ok
            have hE5 := hEr.trans (hL1.ext.trans hL2.ext)
            clear hL1 hL2
            go_wp2_with fail
            refine hs.mono ?_
            rintro e w6 ⟨rfl, hE6⟩
            go_wp2_with fail
            refine (lives_any w6).mono ?_
            rintro e w7 ⟨rfl, hE7⟩
            go_wp2_with fail
            go_ret
            exact ⟨rfl, hE5.trans (hE6.trans hE7)⟩
end Go.Proofs.Ytgbiifefpidebaa
