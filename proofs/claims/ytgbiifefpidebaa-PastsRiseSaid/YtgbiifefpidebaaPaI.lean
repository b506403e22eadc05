/- PastsItems: the plain law, the walk. No condition. -/
import Derived.Test.YtgbiifefpidebaaLives
namespace Go.Proofs.Ytgbiifefpidebaa
open Go.RowKit
set_option maxRecDepth 100000
set_option maxHeartbeats 4000000
def isCI (x : Ev) : Bool := decide (x.kind = 3) || decide (x.kind = 5)
def fewL (l : List Ev) : List Ev := l.filter isCI
theorem few_ck : ∀ (l : List Ev) (s t s' : Cks), l.foldlM ckS s = some s' → t.ep = s.ep → ∃ t', (fewL l).foldlM ckS t = some t' ∧ t'.ep = s'.ep
  | [], s, t, s', h, he => by
    have : s = s' := by simpa using h
    subst this
    exact ⟨t, rfl, he⟩
  | x :: l, s, t, s', h, he => by
    rw [List.foldlM_cons] at h
    simp only [Option.bind_eq_bind] at h
    obtain ⟨s1, h1, h2⟩ := Option.bind_eq_some_iff.1 h
    by_cases hx : isCI x = true
    · have hf : fewL (x :: l) = x :: fewL l := by unfold fewL; rw [List.filter_cons_of_pos hx]
      have hst : ∃ t1, ckS t x = some t1 ∧ t1.ep = s1.ep := by
        unfold isCI at hx
        rw [Bool.or_eq_true, decide_eq_true_eq, decide_eq_true_eq] at hx
        unfold ckS at h1 ⊢
        by_cases hm : x.mayB = false
        · rw [if_pos hm] at h1; cases h1
        · rw [if_neg hm] at h1 ⊢
          rw [if_neg (by omega), if_neg (by omega)] at h1 ⊢
          by_cases h3 : x.kind = 3
          · rw [if_pos h3] at h1 ⊢
            rw [he]
            by_cases hle : x.ep ≤ s.ep
            · rw [if_pos hle] at h1; cases h1
            · rw [if_neg hle] at h1 ⊢
              injection h1 with h1
              exact ⟨_, rfl, by rw [← h1]⟩
          · rw [if_neg h3] at h1 ⊢
            injection h1 with h1
            exact ⟨_, rfl, by rw [← h1]; exact he⟩
      obtain ⟨t1, ht1, he1⟩ := hst
      obtain ⟨t', ht', he'⟩ := few_ck l s1 t1 s' h2 he1
      refine ⟨t', ?_, he'⟩
      rw [hf, List.foldlM_cons, ht1]
      exact ht'
    · have hf : fewL (x :: l) = fewL l := by unfold fewL; rw [List.filter_cons_of_neg hx]
      rw [hf]
      refine few_ck l s1 t s' h2 ?_
      rw [he]
      unfold isCI at hx
      simp only [Bool.or_eq_true, decide_eq_true_eq, not_or] at hx
      unfold ckS at h1
      split at h1
      · cases h1
      · split at h1
        · split at h1
          · injection h1 with h1; rw [← h1]
          · cases h1
        · split at h1
          · split at h1
            · injection h1 with h1; rw [← h1]
            · cases h1
          · rw [if_neg hx.1] at h1
            injection h1 with h1; rw [← h1]
theorem few_some {l : List Ev} (h : (ckL l).isSome = true) : (ckL (fewL l)).isSome = true := by
  obtain ⟨s, hs⟩ := Option.isSome_iff_exists.1 h
  obtain ⟨t, ht, _⟩ := few_ck l _ ⟨fun _ => 0, fun _ => 0, 0⟩ s hs rfl
  rw [show ckL (fewL l) = some t from ht]; rfl
theorem few_items (l : List Ev) (e : Int) : itemsOf ((fewL l).map Ev.strip) e = itemsOf (l.map Ev.strip) e := by
  unfold itemsOf fewL
  rw [List.filter_map, List.filter_map, List.filter_filter]
  congr 1
  refine List.filter_congr fun x _ => ?_
  unfold isCI
  simp only [Function.comp]
  show (decide (x.kind = 5) && decide (x.ep = e) && (decide (x.kind = 3) || decide (x.kind = 5))) = (decide (x.kind = 5) && decide (x.ep = e))
  cases decide (x.kind = 5) <;> cases decide (x.ep = e) <;> simp
theorem few_fold (L : List Ev) : ∀ (l os : List Ev), (fewL l).foldl (logS L) os = l.foldl (logS L) os
  | [], _ => rfl
  | x :: l, os => by
    by_cases hx : isCI x = true
    · have hf : fewL (x :: l) = x :: fewL l := by unfold fewL; rw [List.filter_cons_of_pos hx]
      rw [hf, List.foldl_cons, List.foldl_cons, few_fold L l]
    · have hf : fewL (x :: l) = fewL l := by unfold fewL; rw [List.filter_cons_of_neg hx]
      rw [hf, few_fold L l, List.foldl_cons]
      have : logS L os x = os := by
        unfold logS
        rw [if_neg]
        intro h3
        unfold isCI at hx
        rw [decide_eq_true h3] at hx
        exact hx rfl
      rw [this]
theorem logS_congr {L M : List Ev} (h : ∀ e, itemsOf L e = itemsOf M e) : logS L = logS M := by
  funext os x
  unfold logS
  rw [h]
theorem few_log (l : List Ev) : logP (fewL l) = logP l := by
  unfold logP logL
  rw [logS_congr (few_items l)]
  exact few_fold _ l []
theorem fewL_snoc (p : List Ev) (x : Ev) : fewL (p ++ [x]) = if isCI x = true then fewL p ++ [x] else fewL p := by
  unfold fewL
  rw [List.filter_append]
  cases h : isCI x <;> simp [h]
theorem el_event : ElemIs Try.prog 40 17 (Try.prog.bytesOf 40) := by
  refine ElemIs.mk (z := .agg #[.int .u8 0, .int .u32 0, .int .u8 0, .int .u32 0, .int .u8 0, .string ⟨#[]⟩, .string ⟨#[]⟩, .string ⟨#[]⟩, .bool false, .string ⟨#[]⟩, .int .i64 0, .slice none 0 0, .int .u8 0, .int .i64 0, .bool false, .slice none 0 0, .int .u64 0]) (by kernel_rfl) (by rfl) (by decide)
theorem event_bytes : Try.prog.bytesOf 40 ≤ 400 := by
  have : Nat.ble (Try.prog.bytesOf 40) 400 = true := by kernel_rfl
  exact Nat.le_of_ble_eq_true this
theorem ev_all (x : Ev) : ∀ u ∈ x.row.toList, u.oneCell' = true := fun u hu => Array.all_eq_true_iff_forall_mem.1 (ev_one x) u (by simpa using hu)
theorem run_bs_event (x : Ev) (w : World) : (Instr.buildSlice 22 1 #[(0, .agg x.row)]).run Try.prog w = .ok (.slice (some ⟨w.heap.size, 0, none⟩) 1 1) (w.alloc (.cells x.row 40)) := by kernel_rfl
theorem wpList_bs_event {ops : Array Oper} {rest : List Oper} {o : Oper} {a : Act} {Q : Exit → Act → World → Prop} {w : World} (hgd : o.guard = none) (p : Operand) (ho : o.op = .buildSlice 22 1 #[(0, p)]) (r : Ev) (hp : a.eval p = .agg r.row)
    (h : wpList Try.prog ops Q rest (a.put o.dst (.slice (some ⟨w.heap.size, 0, none⟩) 1 1)) (w.alloc (.cells r.row 40))) : wpList Try.prog ops Q (o :: rest) a w := by
  refine wpList_plain hgd fun K hK => ?_
  unfold Oper.wp execOp
  simp only [ho, hp, List.map_toArray, List.map_cons, List.map_nil, Sem.run_bind, Result.andThen_ok, run_bs_event, Sem.run_pure]
  exact hK _ _ h
theorem pastsItems_walk (w : World) (v : Value) (o0 : ∃ n, OKC Try.prog w n 22 [v]) : Calls Try.prog 6 #[v] w fun e w' => e = .returned (.bool true) ∧ Ext w w' := by
  obtain ⟨l, a, cap, rfl, hev⟩ := okc_events o0
  have hgr := great_ev w l a cap hev
  obtain ⟨ln, hln⟩ : ∃ n, n = l.length := ⟨_, rfl⟩
  rw [← hln] at hgr ⊢
  have hln' := Lib.hid hln
  have hev' := Lib.hid hev
  clear hln hev o0
  go_enter Try.func6, Try.ntmps6
  go_wp2_with fail
  refine hgr.mono ?_
  clear hgr
  rintro e w1 ⟨b, rfl, hb, hE1⟩
  cases b with
  | true =>
    go_wp2_with fail
    refine (lives_any w1).mono ?_
    rintro e w2 ⟨rfl, hE2⟩
    go_wp2_with fail
    go_ret
    exact ⟨rfl, hE1.trans hE2⟩
  | false =>
    have hn : ln ≤ 120 := hb rfl
    clear hb
    have hck := pcheck_any w1 l a cap (hev'.out.1.ext hE1) (by rw [← hln'.out]; omega) (fun x hx => (hev'.out.2.2 x hx).ext hE1)
    unfold CkE at hck
    obtain ⟨C, hC⟩ : ∃ C, C = (ckL l).isSome := ⟨_, rfl⟩
    rw [← hC, ← hln'.out] at hck
    have hC' := Lib.hid hC
    clear hC
    go_wp2_with fail
    refine hck.mono ?_
    clear hck
    rintro e w2 ⟨rfl, hE2⟩
    have hE := hE1.trans hE2
    clear hE1 hE2
    cases C with
    | false =>
      go_wp2_with fail
      refine (lives_any w2).mono ?_
      rintro e w3 ⟨rfl, hE3⟩
      go_wp2_with fail
      go_ret
      exact ⟨rfl, hE.trans hE3⟩
    | true =>
      go_wp2_with fail
      go_loopw [3, 4] (fun f i wr => ∃ (k m : Nat) (fa : Option Addr) (fc : Nat), k ≤ ln ∧ i = .int .i64 k ∧ f = .slice fa m fc ∧ Hid (m = (fewL (l.take k)).length) ∧ OwnC wr w2.heap.size 40 17 (.slice fa m fc) m ((fewL (l.take k)).flatMap Ev.cells) ∧ m ≤ k ∧ Ext w2 wr) (fun _ i _ => ln - (intOf i).toNat)
      case atStart => exact ⟨0, 0, none, 0, by omega, rfl, rfl, Lib.hid rfl, OwnC.nil _ _ _ _, by omega, Ext.refl _⟩
      case round =>
        obtain ⟨k, m, fa, fc, hk, rfl, rfl, hm, hown, hmk, hEr⟩ := hrel
        by_cases hlt : k < ln
        · have hli : (k : Int) < (ln : Int) := by omega
          obtain ⟨x, hx⟩ : ∃ c, l[k]? = some c := ⟨_, List.getElem?_eq_getElem (by rw [← hln'.out]; exact hlt)⟩
          have hR := ((hev'.out.1.ext hE).ext hEr)
          rw [← hln'.out] at hR
          obtain ⟨b, off, hat⟩ := hR.at
          obtain ⟨rfl, _, hd⟩ := hat (by omega)
          have hrg := ev_range (by rw [← hln'.out]; exact hd) hx
          have htk : l.take (k + 1) = l.take k ++ [x] := by rw [List.take_add_one, hx]; rfl
          have hfw : Hid (fewL (l.take (k + 1)) = if isCI x = true then fewL (l.take k) ++ [x] else fewL (l.take k)) := Lib.hid (by rw [htk, fewL_snoc])
          have x0 := hrg 0 _ rfl
          rw [Nat.add_zero] at x0
          have hrg' := Lib.hid hrg
          have hown' := Lib.hid hown
          have hsz := hEr.size
          clear hat hd hx htk hR hrg hown
          have hby : (m + 1) * Try.prog.bytesOf 40 ≤ 140737488355328 := by
            have h1 := event_bytes
            have h2 := Nat.mul_le_mul (show m + 1 ≤ 200 by omega) h1
            omega
          have hm63 : m < 9223372036854775807 := by omega
          have hcond : ∀ t : Bool, isCI x = t → (x.kind == 3 || x.kind == 5) = t := fun t h => by
            rw [← h]; unfold isCI
            by_cases h3 : x.kind = 3 <;> by_cases h5 : x.kind = 5 <;> simp [h3, h5]
          by_cases h3 : x.kind = 3
          · have k3 : (x.kind == 3) = true := by rw [h3]; rfl
            have hci : isCI x = true := by unfold isCI; rw [decide_eq_true h3]; rfl
            have hf : Hid (fewL (l.take (k + 1)) = fewL (l.take k) ++ [x]) := Lib.hid (by rw [hfw.out, if_pos hci])
            clear h3 hci hcond
            go_wp2_with (first | (refine wpList_load_mid (by rfl) 40 (.tmp 36) (by rfl) b (off + k * 17) (by rfl) x.cells _ hrg'.out Try.underlying40 rfl (by exact ev_inf) ?_) | (refine wpList_bs_event (by rfl) (.tmp 37) (by rfl) x (by rfl) ?_) | (at_builtin; go_loud (refine wpList_append_c (by rfl) (.tmp 33) (.tmp 38) 22 40 (by rfl) Try.underlying22 el_event wr w2.heap.size m _ (.slice fa m fc) (by rfl) hown'.out x.row (by rfl) (by rfl) (ev_all x) hm63 hby hsz ?_); go_loud (intro v' w6 hA; obtain ⟨oa4, oc4, rfl, _⟩ := hA.own.form; have hO7 := hA.own; have hE7 : Ext w2 w6 := Below.trans hEr hA.below; clear hA)) | fail)
            go_roundw
            case rel => exact ⟨k + 1, m + 1, oa4, oc4, by omega, by go_num, rfl, Lib.hid (by rw [hf.out, List.length_append, ← hm.out]; rfl), by rw [hf.out, List.flatMap_append]; simpa [Ev.cells] using hO7, by omega, hE7⟩
            case measure => simp [intOf]; omega
          · by_cases h5 : x.kind = 5
            · have k3 : (x.kind == 3) = false := by simp [h3]
              have k5 : (x.kind == 5) = true := by rw [h5]; rfl
              have hci : isCI x = true := by unfold isCI; rw [decide_eq_true h5, Bool.or_true]
              have hf : Hid (fewL (l.take (k + 1)) = fewL (l.take k) ++ [x]) := Lib.hid (by rw [hfw.out, if_pos hci])
              clear h3 h5 hci hcond
              go_wp2_with (first | (refine wpList_load_mid (by rfl) 40 (.tmp 36) (by rfl) b (off + k * 17) (by rfl) x.cells _ hrg'.out Try.underlying40 rfl (by exact ev_inf) ?_) | (refine wpList_bs_event (by rfl) (.tmp 37) (by rfl) x (by rfl) ?_) | (at_builtin; go_loud (refine wpList_append_c (by rfl) (.tmp 33) (.tmp 38) 22 40 (by rfl) Try.underlying22 el_event wr w2.heap.size m _ (.slice fa m fc) (by rfl) hown'.out x.row (by rfl) (by rfl) (ev_all x) hm63 hby hsz ?_); go_loud (intro v' w6 hA; obtain ⟨oa4, oc4, rfl, _⟩ := hA.own.form; have hO7 := hA.own; have hE7 : Ext w2 w6 := Below.trans hEr hA.below; clear hA)) | fail)
              go_roundw
              case rel => exact ⟨k + 1, m + 1, oa4, oc4, by omega, by go_num, rfl, Lib.hid (by rw [hf.out, List.length_append, ← hm.out]; rfl), by rw [hf.out, List.flatMap_append]; simpa [Ev.cells] using hO7, by omega, hE7⟩
              case measure => simp [intOf]; omega
            · have k3 : (x.kind == 3) = false := by simp [h3]
              have k5 : (x.kind == 5) = false := by simp [h5]
              have hci : isCI x = false := by unfold isCI; rw [decide_eq_false h3, decide_eq_false h5]; rfl
              have hf : Hid (fewL (l.take (k + 1)) = fewL (l.take k)) := Lib.hid (by rw [hfw.out, if_neg (by rw [hci]; decide)])
              clear h3 h5 hci hcond
              go_wp2_with fail
              go_roundw
              case rel => exact ⟨k + 1, m, fa, fc, by omega, by go_num, rfl, Lib.hid (by rw [hf.out, ← hm.out]), by rw [hf.out]; exact hown'.out, by omega, hEr⟩
              case measure => simp [intOf]; omega
        · have hli : ¬ (k : Int) < (ln : Int) := by omega
          have htl : l.take k = l := List.take_of_length_le (by rw [← hln'.out]; omega)
          rw [htl] at hm hown
          have hEw := hE.trans hEr
          have hrF := hown.row
          have hgF : ∀ x ∈ fewL l, x.good wr := fun x hx => (hev'.out.2.2 x ((List.mem_filter.1 hx).1)).ext hEw
          have hmm := hm.out
          have hckF := pcheck_any wr (fewL l) fa fc (by rw [← hmm]; exact hrF) (by rw [← hmm]; omega) hgF
          have hfs := few_some hC'.out.symm
          unfold CkE at hckF
          rw [hfs, ← hmm] at hckF
          have hm' := Lib.hid hmm
          have hrF' := Lib.hid hrF
          have hgF' := Lib.hid hgF
          have hfs' := Lib.hid hfs
          clear htl hown hm hrF hgF hmm hfs hlt
          go_wp2_with fail
          refine hckF.mono ?_
          clear hckF
          rintro e w3 ⟨rfl, hE3⟩
          have hl1 := log_any w3 l a cap ((hev'.out.1.ext hEw).ext hE3) (by rw [← hln'.out]; omega) (fun x hx => (hev'.out.2.2 x hx).ext (hEw.trans hE3)) hC'.out.symm
          rw [← hln'.out] at hl1
          go_wp2_with fail
          refine hl1.mono ?_
          clear hl1
          rintro e w4 ⟨os1, a1, rfl, hL1⟩
          have hl2 := log_any w4 (fewL l) fa fc (by rw [← hm'.out]; exact hrF'.out.ext (hE3.trans hL1.ext)) (by rw [← hm'.out]; omega) (fun x hx => (hgF'.out x hx).ext (hE3.trans hL1.ext)) hfs'.out
          rw [← hm'.out] at hl2
          go_wp2_with fail
          refine hl2.mono ?_
          clear hl2
          rintro e w5 ⟨os2, a2, rfl, hL2⟩
          have hs := sitems_true w5 os1 os2 a1 a2 _ _ (by rw [hL1.same, hL2.same, few_log]) (hL1.row.ext hL2.ext) hL2.row (fun y hy => ⟨((hL1.ok y hy).chs).ext hL2.ext, (hL1.ok y hy).good⟩) hL2.ok
          have hE5 := (hEw.trans hE3).trans (hL1.ext.trans hL2.ext)
          clear hL1 hL2
          go_wp2_with fail
          refine hs.mono ?_
          rintro e w6 ⟨rfl, hE6⟩
          go_wp2_with fail
          refine (lives_any w6).mono ?_
          rintro e w7 ⟨rfl, hE7⟩
          go_wp2_with fail
          go_ret
          exact ⟨rfl, hE5.trans (hE6.trans hE7)⟩
end Go.Proofs.Ytgbiifefpidebaa
