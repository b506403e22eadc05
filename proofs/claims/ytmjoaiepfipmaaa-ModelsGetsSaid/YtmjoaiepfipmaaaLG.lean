/- The law ModelsGets. (Printed by wip/tools/glaw.py.) No condition. -/
import Derived.Test.YtmjoaiepfipmaaaMod24
import Derived.StillTailTactics
namespace Go.Proofs.Ytmjoaiepfipmaaa
open Go.RowKit
set_option maxRecDepth 100000
set_option maxHeartbeats 4000000
theorem okc_string {w : World} {s : ByteArray} (hu : Try.prog.underlying 9 = some .string) (h : ∃ n, OKC Try.prog w n 9 [.string s]) : s.size ≤ 140737488351232 := by
  obtain ⟨n, h⟩ := h
  obtain ⟨s', e, hs⟩ := okc_str hu h
  injection e with e; injection e with e
  rw [e]; exact hs
theorem Out.mono {B B' : Nat → Prop} {v : Value} (h : Out B v) (hb : ∀ k, B' k → B k) : Out B' v := fun a n c hv hB => h a n c hv (hb _ hB)
theorem okc_row {w : World} {cs : List Value} (h : ∃ n, OKC Try.prog w n 62 cs) : ∃ s0 s1 : ByteArray, cs = [.string s0, .string s1] ∧ s0.size ≤ 140737488351232 ∧ s1.size ≤ 140737488351232 := by
  obtain ⟨n, h⟩ := h
  have c2 : Try.prog.cellsOf 62 = 2 := by kernel_rfl
  cases n with
  | zero => exact h.elim
  | succ n =>
    unfold OKC at h
    rw [Try.underlying62] at h
    simp only [c2] at h
    obtain ⟨hl, hi⟩ := h
    match cs, hl with
    | [v0, v1], _ =>
      simp [show Try.prog.cellsOf 9 = 1 by kernel_rfl] at hi
      obtain ⟨y0, y1⟩ := hi
      obtain ⟨s0, e0, h0⟩ := okc_str Try.underlying9 y0
      obtain ⟨s1, e1, h1⟩ := okc_str Try.underlying9 y1
      simp at e0 e1
      exact ⟨s0, s1, by rw [e0, e1], h0, h1⟩
def wasW (o : Option Rw) : ByteArray := match o with
  | none => ⟨#[]⟩
  | some r => r.val
theorem gets_step {R : List Rw} (hs : sortR R) {k : Nat} {r : Rw} (hr : R[k]? = some r) (K : ByteArray) :
    ((r.key.toList == K.toList) = true → findW (R.take (k + 1)) K = some r ∧ delW (R.take (k + 1)) K = delW (R.take k) K) ∧
    ((r.key.toList == K.toList) = false → findW (R.take (k + 1)) K = findW (R.take k) K ∧ delW (R.take (k + 1)) K = delW (R.take k) K ++ [r]) := by
  have htk : R.take (k + 1) = R.take k ++ [r] := by rw [List.take_add_one, hr]; rfl
  have hk : k < R.length := (List.getElem?_eq_some_iff.1 hr).1
  have hlt : ∀ q ∈ R.take k, ltK q.key r.key := by
    intro q hq
    have h2 : (R.take k ++ R.drop k).Pairwise fun p q => bytesBefore p.key.data.toList q.key.data.toList = true := by rw [List.take_append_drop]; exact hs
    have hm : r ∈ R.drop k := by
      refine List.mem_of_getElem? (i := 0) ?_
      rw [List.getElem?_drop]; exact hr
    exact (List.pairwise_append.1 h2).2.2 q hq r hm
  unfold findW delW
  rw [htk, List.find?_append, List.filter_append]
  constructor
  · intro hq
    obtain hq := eqK.1 hq
    have hn : (R.take k).find? (isK K) = none := by
      rw [List.find?_eq_none]
      intro q hq' he
      have := isK_iff.1 he
      have h3 := hlt q hq'
      rw [this, hq] at h3
      exact ltK_irr _ h3
    rw [hn]
    have h1 : isK K r = true := isK_iff.2 hq
    simp [h1, hq]
  · intro hq
    have hne : r.key ≠ K := fun e => by rw [eqK.2 e] at hq; exact Bool.noConfusion hq
    have h1 : isK K r = false := isK_false.2 hne
    have h3 : ¬ r.key.data = K.data := fun e => hne (ByteArray.ext e)
    simp [h1, h3]
theorem modelsGets_walk (w : World) (v : Value) (o0 : ∃ n, OKC Try.prog w n 46 [v]) (cs : Array Value) (o1 : ∃ n, OKC Try.prog w n 62 cs.toList) (O : ByteArray) (o2 : ∃ n, OKC Try.prog w n 9 [.string O]) :
    Calls Try.prog 8 #[v, .agg cs, .string O] w fun e w' => e = .returned (.bool true) ∧ Ext w w' := by
  obtain ⟨l, a, cap, rfl, hg, h1, hll⟩ := okc_acts o0
  obtain ⟨K, V, hcs, hsK, hsV⟩ := okc_row o1
  obtain rfl : cs = #[.string K, .string V] := by rw [← Array.toList_inj]; exact hcs
  have hsO := okc_string Try.underlying9 o2
  have hg' := Lib.hid hg
  have h1' := Lib.hid h1
  clear o0 o1 o2 hg h1 hcs
  have hG := heap_alloc_new w (.cells #[.string K, .string V] 62)
  have hE := (Ext.refl w).alloc (.cells #[.string K, .string V] 62)
  go_enter Try.func8, Try.ntmps8
  go_upto_region 1 with fail
  generalize w.alloc _ = W at *
  generalize w.heap.size = g at *
  go_wp2_with fail
  refine (alive_any W).mono ?_
  rintro e wa ⟨rfl, hEa⟩
  replace hE := hE.trans hEa
  replace hG := hEa.row hG
  clear hEa
  go_wp2_with fail
  refine (great_any wa l a cap (fun x hx => (hg'.out x hx).ext hE) hll (h1'.out.ext hE)).mono ?_
  rintro e wg ⟨rfl, hEg⟩
  replace hE := hE.trans hEg
  replace hG := hEg.row hG
  clear hEg
  cases hm : greatB l
  case true =>
    go_wp2_with fail
    refine (alive_end w wg hE).mono ?_
    rintro e wz ⟨rfl, hEz⟩
    go_wp2_with fail
    go_ret
    exact ⟨rfl, hEz⟩
  have hl150 := great_len hm
  have hm' := Lib.hid hm
  clear hm
  obtain ⟨p0, p1⟩ : wg.cell? ⟨g, 0, none⟩ = some (.string K) ∧ wg.cell? ⟨g, 1, none⟩ = some (.string V) := by
    refine ⟨?_, ?_⟩ <;> (rw [cell_of_row _ _ _ _ 62 (0, 0) hG]; rfl)
  go_wp2_with fail
  refine (put_mk wg K V).mono ?_
  rintro e wp ⟨rfl, hEp⟩
  replace hE := hE.trans hEp
  replace hG := hEp.row hG
  have hck := check_any wp (askPut K V) none 0 (chs_nil wp) (askPut_small hsK hsV)
  clear hEp p0 p1
  rw [show (askPut K V).row (.slice none (askPut K V).chs.length 0) = (askPut K V).nil from rfl, ok_put] at hck
  have hck' := Lib.hid hck
  unfold askPut Ak.nil Ak.row at hck' ⊢
  simp only at hck' ⊢
  clear hck
  go_wp2_with fail
  refine hck'.out.mono ?_
  rintro e wg ⟨rfl, hEp⟩
  replace hE := hE.trans hEp
  replace hG := hEp.row hG
  clear hEp hck'
  cases hok : (keyB K && valB V)
  case false =>
    go_wp2_with fail
    refine (alive_end w wg hE).mono ?_
    rintro e wz ⟨rfl, hEz⟩
    go_wp2_with fail
    go_ret
    exact ⟨rfl, hEz⟩
  have hkv : keyB K = true ∧ valB V = true := by simpa using hok
  by_cases h256 : 256 < O.size
  · have h8i : (256 : Int) < (O.size : Int) := by omega
    go_wp2_with fail
    refine (alive_end w wg hE).mono ?_
    rintro e wz ⟨rfl, hEz⟩
    go_wp2_with fail
    go_ret
    exact ⟨rfl, hEz⟩
  have h8i : ¬ (256 : Int) < (O.size : Int) := by omega
  have h8d : decide ((256 : Int) < (O.size : Int)) = false := decide_eq_false h8i
  have hvo : valB O = true := decide_eq_true (by omega)
  have hspan : ∀ w', Ext wg w' → w'.cell? ⟨g, 0, none⟩ = some (.string K) ∧ w'.cell? ⟨g, 1, none⟩ = some (.string V) := fun w' he => by
    refine ⟨?_, ?_⟩ <;> (rw [cell_of_row _ _ _ _ 62 (0, 0) (he.row hG)]; rfl)
  have hspan' := Lib.hid hspan
  have hgw : g < wg.heap.size := (Array.getElem?_eq_some_iff.1 hG).1
  clear hspan hG
  go_wp2_with fail
  refine (done_any wg l a cap (fun x hx => (hg'.out x hx).ext hE) (by omega) (h1'.out.ext hE)).mono ?_
  rintro e w5 ⟨st0, mb0, rfl, hS0⟩
  obtain ⟨R, hR⟩ : ∃ R, R = (doneM l).rows := ⟨_, rfl⟩
  have hRs := sortS hS0 hR
  have hRk : smallR R := by rw [hR]; exact done_small l
  have hRl : R.length ≤ 2400 := by rw [hR]; have := done_length l; omega
  have hrows := rowsM_any hS0 (by rw [← hR]; exact hRk) (by rw [← hR]; omega)
  rw [← hR] at hrows
  have hrows' := Lib.hid hrows
  have hRs' := Lib.hid hRs
  have hRk' := Lib.hid hRk
  have hE5 := hS0.ground
  clear hS0 hrows hR hRs hRk
  go_wp2_with fail
  refine hrows'.out.mono ?_
  clear hrows'
  rintro e w6 ⟨ra, rc, rfl, _, hown, hE6⟩
  have hmk := mk_rows w6 R ra rc (RowIs.of_own hown) (by omega) hRs'.out hRk'.out
  replace hE5 := hE5.trans hE6
  have hmk' := Lib.hid hmk
  clear hown hmk hE6
  go_wp2_with fail
  refine hmk'.out.mono ?_
  clear hmk'
  rintro e w7 ⟨st, mb, rfl, hS⟩
  replace hS := hS.past hE5
  clear hE5
  have hrows : Calls Try.prog 13 #[.pointer (some ⟨st, 0, none⟩)] w7 (RowsE R w7) := rowsM_any hS hRk'.out (show R.length ≤ 50000 by omega)
  have hrows' := Lib.hid hrows
  clear hrows
  go_wp2_with fail
  refine hrows'.out.mono ?_
  clear hrows'
  rintro e w8 ⟨qa, qc, rfl, _, hown, hE8⟩
  replace hS := hS.ext hE8
  have hS' := Lib.hid hS
  obtain ⟨rn, hrn⟩ : ∃ rn, rn = R.length := ⟨_, rfl⟩
  have hrw := RowIs.of_own hown
  rw [← hrn] at hrw hRl ⊢
  have hrn' := Lib.hid hrn
  have hrw' := Lib.hid hrw
  have hspan0 := hspan'
  replace hspan' := Lib.hid (fun (w' : World) (he : Ext w8 w') => hspan'.out w' (hS.ground.trans he))
  have hlt8 := hS.lt
  clear hS hown hrn hrw hE8
  go_wp2_with fail
  go_loopw [9, 11, 12, 13] (fun out was there i wr => ∃ (k m : Nat) (oa : Option Addr) (oc : Nat) (W0 : ByteArray) (T0 : Bool), k ≤ rn ∧ m ≤ k ∧ Hid (m = (delW (R.take k) K).length) ∧ i = .int .i64 k ∧ out = .slice oa m oc ∧ was = .string W0 ∧ there = .bool T0 ∧ Hid (T0 = (findW (R.take k) K).isSome ∧ W0 = wasW (findW (R.take k) K)) ∧ wr.ownsRow w8.heap.size 62 2 (.slice oa m oc) m ((delW (R.take k) K).flatMap rwL) ∧ Ext w8 wr) (fun _ _ _ i _ => rn - (intOf i).toNat)
  case atStart => exact ⟨0, 0, none, 0, ⟨#[]⟩, false, by omega, by omega, Lib.hid (by simp [delW]), rfl, rfl, rfl, rfl, Lib.hid ⟨rfl, rfl⟩, by simpa [delW] using World.ownsRow_nil _ _ _ _, Ext.refl _⟩
  case round =>
    obtain ⟨k, m, oa, oc, W0, T0, hk, hm2, hml, rfl, rfl, rfl, rfl, hTW, hown, hEr⟩ := hrel
    by_cases hlt : k < rn
    · have hli : (k : Int) < (rn : Int) := by omega
      obtain ⟨r, hr⟩ : ∃ r, R[k]? = some r := ⟨_, List.getElem?_eq_getElem (by rw [← hrn'.out]; exact hlt)⟩
      obtain ⟨b, off, hat⟩ := (hrw'.out.ext hEr).at
      obtain ⟨rfl, _, hd⟩ := hat (by omega)
      have hrg := rws_range (by rw [← hrn'.out]; exact hd) hr
      obtain ⟨p0, p1⟩ := hspan'.out _ hEr
      have y0 := hrg 0 _ rfl
      have y1 := hrg 1 _ rfl
      rw [Nat.add_zero] at y0
      have hsz := hEr.size
      have hst := gets_step hRs'.out hr K
      have hst' := Lib.hid hst
      clear hat hd hr hst
      have hEd := hEr.trans (Ext.refl wr).drew
      have hownd := hown.kept (grown_of_ext (Ext.refl wr).drew) (Classical.em _)
      have hszd := hEd.size
      have hrgd : wr.drew.rangeAt b (off + k * 2) (rowR r).toList := fun j v hv => (Ext.refl wr).drew.cell (hrg j v hv)
      have z1 := hrgd 1 _ rfl
      have hd' := Lib.hid (And.intro hEd (And.intro hownd (And.intro hszd (And.intro hrgd z1))))
      clear y1 hsz hrg hEd hownd hszd hrgd z1 hown
      cases hq : (r.key.toList == K.toList) with
      | true =>
        obtain ⟨hf1, hf2⟩ := hst'.out.1 hq
        have hf1' := Lib.hid hf1
        have hf2' := Lib.hid hf2
        clear hf1 hf2
        go_upto_region 13 with fail
        go_region
        obtain ⟨hEd, hownd, hszd, hrgd, z1⟩ := hd'.out
        clear p0 p1 y0 hd'
        generalize wr.drew = wd at *
        go_wp2_with fail
        go_roundw
        case rel => exact ⟨k + 1, m, oa, oc, r.val, true, by omega, by omega, Lib.hid (by rw [hf2'.out]; exact hml.out), by go_num, rfl, rfl, rfl, Lib.hid ⟨by rw [hf1'.out]; rfl, by rw [hf1'.out]; rfl⟩, by rw [hf2'.out]; exact hownd, hEd⟩
        case measure => simp [intOf]; omega
      | false =>
        obtain ⟨hf1, hf2⟩ := hst'.out.2 hq
        have hf1' := Lib.hid hf1
        have hf2' := Lib.hid hf2
        clear hf1 hf2
        go_upto_region 13 with fail
        go_region
        obtain ⟨hEd, hownd, hszd, hrgd, z1⟩ := hd'.out
        clear p0 p1 y0 hd' z1
        generalize wr.drew = wd at *
        go_wp2_with (first | (refine wpList_load_mid (by rfl) 62 (.tmp 72) (by rfl) b (off + k * 2) (by rfl) (rowR r).toList _ hrgd Try.underlying62 rfl (by exact info_row) ?_) | (refine wpList_bs_row (by rfl) (.tmp 73) (by rfl) r (by rfl) ?_) | (at_builtin; refine wpList_append_lit (by rfl) (.tmp 69) (.tmp 74) 30 62 (by rfl) Try.underlying30 el_row wd w8.heap.size m _ (.slice oa m oc) (by rfl) hownd (rowR r) (by rfl) (by rfl) (fun u hu => Array.all_eq_true_iff_forall_mem.1 (rowR_one r) u (by simpa using hu)) (by omega) (by omega) hszd ?_; go_loud (intro v' w3 hown5 hbel; obtain ⟨oa', oc', rfl, _⟩ := own_slice hown5; have hX3 : Ext w8 w3 := Below.trans hEd hbel)) | fail)
        go_roundw
        case rel =>
          refine ⟨k + 1, m + 1, oa', oc', W0, T0, by omega, by omega, Lib.hid (by rw [hf2'.out, List.length_append, ← hml.out]; rfl), by go_num, rfl, rfl, rfl, Lib.hid (by rw [hf1'.out]; exact hTW.out), ?_, hX3⟩
          rw [hf2'.out, List.flatMap_append]
          simpa [rwL, rowR] using hown5
        case measure => simp [intOf]; omega
    · have hli : ¬ (k : Int) < (rn : Int) := by omega
      rw [List.take_of_length_le (by rw [← hrn'.out]; omega)] at hown hml hTW
      have hS := hS'.out.ext hEr
      obtain ⟨T1, hT1, hW1⟩ : ∃ o, T0 = Option.isSome o ∧ W0 = wasW o := ⟨_, hTW.out⟩
      obtain ⟨made, m1, m2, m3, m4, m5, m6, m7, R1, R2, R3, R4, R5, R7, hmade, e1, q1, g1, e2, q2, g2, e3, q3, e4, q4, e5, q5, e6, q6, g6, e7, q7, hlen⟩ := gets_law hkv.1 hkv.2 hvo hRk'.out (by rw [← hrn'.out]; omega : R.length ≤ 2400)
      have hR5 : R.length ≤ 50000 := by rw [← hrn'.out]; omega
      have hot := RowIs.of_own hown
      have hoo : Out (fun i => i = st ∨ i = mb) (.slice oa m oc) := Out.of_own hown (fun k hk => by rcases hk with hk | hk <;> omega)
      obtain ⟨rfl, rfl⟩ : T0 = (findW R K).isSome ∧ W0 = wasW (findW R K) := hTW.out
      have hlen' := Lib.hid hlen
      clear hown hTW hT1 hW1 hspan' hrw' hS' hEr hlen
      generalize hff : findW R K = ff at *
      rcases ff with _ | r
      · simp only [Option.isSome_none, wasW, madeB, Option.map_none, Option.toList_none] at hmade g1 ⊢
        obtain rfl := hmade
        obtain ⟨p0, p1⟩ := hspan0.out _ hS.ground
        go_wp2_with fail
        refine (cas_mk wr K O V).mono ?_
        rintro e x1 ⟨rfl, hX⟩
        replace hS := hS.ext hX
        replace hot := hot.ext hX
        clear hX p0 p1
        have hy := yes_b (c := 1) (n := 1) hS hRk'.out hR5 (chs_nil x1) (askCas_small hsK hsO hsV) e1 (b := false) rfl (ci := 1) (ni := 1) (v := (askCas K O V).nil) rfl rfl rfl
        have hy' := Lib.hid hy
        obtain ⟨p0, p1⟩ := hspan0.out _ hS.ground
        clear hy hS
        go_wp2_with fail
        refine hy'.out.mono ?_
        clear hy' p0 p1
        rintro e x2 ⟨rfl, hS, hO⟩
        replace hot := hot.off hoo hO
        clear hO
        obtain ⟨p0, p1⟩ := hspan0.out _ hS.ground
        go_wp2_with fail
        refine (get_mk x2 K).mono ?_
        rintro e x3 ⟨rfl, hX⟩
        replace hS := hS.ext hX
        replace hot := hot.ext hX
        clear hX p0 p1
        have hlt9 := hS.lt
        have hy := do_b (c := 1) (n := 9) hS q1.small (Nat.le_trans q1.le (by decide)) (chs_nil x3) (askGet_small hsK) g1 (ci := 1) (ni := 9) (v := (askGet K).nil) rfl rfl rfl
        have hy' := Lib.hid hy
        obtain ⟨p0, p1⟩ := hspan0.out _ hS.ground
        clear hy hS
        go_wp2_with fail
        refine hy'.out.mono ?_
        clear hy' p0 p1
        rintro e x4 ⟨ea, ec, rfl, hLr, _, hS, hO⟩
        replace hot := hot.off hoo hO
        simp only [List.length_nil] at hLr ⊢
        have hb := heap_alloc_new x4 (.cells #[.int .i64 0, .bool false, .slice ea 0 ec] 32)
        have hEb := (Ext.refl x4).alloc (.cells #[.int .i64 0, .bool false, .slice ea 0 ec] 32)
        replace hS := hS.ext hEb
        replace hot := hot.ext hEb
        replace hLr := hLr.ext hEb
        clear hO hEb
        go_upto_region 19 with fail
        generalize x4.alloc _ = u1 at *
        generalize x4.heap.size = gb at *
        obtain ⟨y0, y1, y2⟩ := re_cells hb
        obtain ⟨p0, p1⟩ := hspan0.out _ hS.ground
        clear hLr hb
        go_upto_region 24 with fail
        clear y0 y1 y2 p0 p1
        obtain ⟨p0, p1⟩ := hspan0.out _ hS.ground
        go_wp2_with fail
        refine (put_mk u1 K V).mono ?_
        rintro e x5 ⟨rfl, hX⟩
        replace hS := hS.ext hX
        replace hot := hot.ext hX
        clear hX p0 p1
        have hy := yes_b (c := 1) (n := 2) hS q1.small (Nat.le_trans q1.le (by decide)) (chs_nil x5) (askPut_small hsK hsV) e2 (b := true) rfl (ci := 1) (ni := 2) (v := (askPut K V).nil) rfl rfl rfl
        have hy' := Lib.hid hy
        obtain ⟨p0, p1⟩ := hspan0.out _ hS.ground
        clear hy hS
        go_wp2_with fail
        refine hy'.out.mono ?_
        clear hy' p0 p1
        rintro e x6 ⟨rfl, hS, hO⟩
        replace hot := hot.off hoo hO
        clear hO
        obtain ⟨p0, p1⟩ := hspan0.out _ hS.ground
        go_wp2_with fail
        refine (get_mk x6 K).mono ?_
        rintro e x7 ⟨rfl, hX⟩
        replace hS := hS.ext hX
        replace hot := hot.ext hX
        clear hX p0 p1
        have hy := yes_b (c := 1) (n := 9) hS q2.small (Nat.le_trans q2.le (by decide)) (chs_nil x7) (askGet_small hsK) g2 (b := true) rfl (ci := 1) (ni := 9) (v := (askGet K).nil) rfl rfl rfl
        have hy' := Lib.hid hy
        obtain ⟨p0, p1⟩ := hspan0.out _ hS.ground
        clear hy hS
        go_wp2_with fail
        refine hy'.out.mono ?_
        clear hy' p0 p1
        rintro e x8 ⟨rfl, hS, hO⟩
        replace hot := hot.off hoo hO
        clear hO
        have hy := yes_b (c := 1) (n := 3) hS q2.small (Nat.le_trans q2.le (by decide)) (chs_nil x8) (askNew_small hsK e_sz) e3 (b := false) rfl (ci := 1) (ni := 3) (v := (askNew K ⟨#[]⟩).nil) rfl rfl rfl
        unfold askNew Ak.nil Ak.row at hy
        simp only at hy
        have hy' := Lib.hid hy
        obtain ⟨p0, p1⟩ := hspan0.out _ hS.ground
        clear hy hS
        go_wp2_with fail
        refine hy'.out.mono ?_
        clear hy' p0 p1
        rintro e x9 ⟨rfl, hS, hO⟩
        replace hot := hot.off hoo hO
        clear hO
        obtain ⟨p0, p1⟩ := hspan0.out _ hS.ground
        go_wp2_with fail
        refine (cas_mk x9 K V O).mono ?_
        rintro e x10 ⟨rfl, hX⟩
        replace hS := hS.ext hX
        replace hot := hot.ext hX
        clear hX p0 p1
        have hy := yes_b (c := 1) (n := 4) hS q3.small (Nat.le_trans q3.le (by decide)) (chs_nil x10) (askCas_small hsK hsV hsO) e4 (b := true) rfl (ci := 1) (ni := 4) (v := (askCas K V O).nil) rfl rfl rfl
        have hy' := Lib.hid hy
        obtain ⟨p0, p1⟩ := hspan0.out _ hS.ground
        clear hy hS
        go_wp2_with fail
        refine hy'.out.mono ?_
        clear hy' p0 p1
        rintro e x11 ⟨rfl, hS, hO⟩
        replace hot := hot.off hoo hO
        clear hO
        obtain ⟨p0, p1⟩ := hspan0.out _ hS.ground
        go_wp2_with fail
        refine (del_mk x11 K).mono ?_
        rintro e x12 ⟨rfl, hX⟩
        replace hS := hS.ext hX
        replace hot := hot.ext hX
        clear hX p0 p1
        have hy := yes_b (c := 1) (n := 5) hS q4.small (Nat.le_trans q4.le (by decide)) (chs_nil x12) (askDel_small hsK) e5 (b := true) rfl (ci := 1) (ni := 5) (v := (askDel K).nil) rfl rfl rfl
        have hy' := Lib.hid hy
        obtain ⟨p0, p1⟩ := hspan0.out _ hS.ground
        clear hy hS
        go_wp2_with fail
        refine hy'.out.mono ?_
        clear hy' p0 p1
        rintro e x13 ⟨rfl, hS, hO⟩
        replace hot := hot.off hoo hO
        clear hO
        obtain ⟨p0, p1⟩ := hspan0.out _ hS.ground
        go_wp2_with fail
        refine (del_mk x13 K).mono ?_
        rintro e x14 ⟨rfl, hX⟩
        replace hS := hS.ext hX
        replace hot := hot.ext hX
        clear hX p0 p1
        have hy := yes_b (c := 1) (n := 6) hS q5.small (Nat.le_trans q5.le (by decide)) (chs_nil x14) (askDel_small hsK) e6 (b := false) rfl (ci := 1) (ni := 6) (v := (askDel K).nil) rfl rfl rfl
        have hy' := Lib.hid hy
        obtain ⟨p0, p1⟩ := hspan0.out _ hS.ground
        clear hy hS
        go_wp2_with fail
        refine hy'.out.mono ?_
        clear hy' p0 p1
        rintro e x15 ⟨rfl, hS, hO⟩
        replace hot := hot.off hoo hO
        clear hO
        obtain ⟨p0, p1⟩ := hspan0.out _ hS.ground
        go_wp2_with fail
        refine (get_mk x15 K).mono ?_
        rintro e x16 ⟨rfl, hX⟩
        replace hS := hS.ext hX
        replace hot := hot.ext hX
        clear hX p0 p1
        have hy := yes_b (c := 1) (n := 9) hS q6.small (Nat.le_trans q6.le (by decide)) (chs_nil x16) (askGet_small hsK) g6 (b := false) rfl (ci := 1) (ni := 9) (v := (askGet K).nil) rfl rfl rfl
        have hy' := Lib.hid hy
        obtain ⟨p0, p1⟩ := hspan0.out _ hS.ground
        clear hy hS
        go_wp2_with fail
        refine hy'.out.mono ?_
        clear hy' p0 p1
        rintro e x17 ⟨rfl, hS, hO⟩
        replace hot := hot.off hoo hO
        clear hO
        have hrows : Calls Try.prog 13 #[.pointer (some ⟨st, 0, none⟩)] x17 (RowsE (delW R K) x17) := by
          have := rowsM_any hS q6.small (Nat.le_trans q6.le (by decide))
          rw [q6.rows] at this
          exact this
        have hrows' := Lib.hid hrows
        clear hrows
        go_wp2_with fail
        refine hrows'.out.mono ?_
        clear hrows'
        rintro e x18 ⟨ra, rc, rfl, _, hownr, hX⟩
        replace hS := hS.ext hX
        replace hot := hot.ext hX
        clear hX
        have hsr := srows_any x18 (delW R K) (delW R K) ra oa rc oc (RowIs.of_own hownr) (by rw [← hml.out]; exact hot)
        rw [decide_eq_true rfl, ← hml.out] at hsr
        rw [← hml.out]
        have hsr' := Lib.hid hsr
        clear hsr hownr
        go_wp2_with fail
        refine hsr'.out.mono ?_
        clear hsr'
        rintro e x19 ⟨rfl, hX⟩
        replace hS := hS.ext hX
        replace hot := hot.ext hX
        clear hX
        have hy := yes_b (c := 1) (n := 7) hS q6.small (Nat.le_trans q6.le (by decide)) (chs_nil x19) (askNew_small hsK e_sz) e7 (b := true) rfl (ci := 1) (ni := 7) (v := (askNew K ⟨#[]⟩).nil) rfl rfl rfl
        unfold askNew Ak.nil Ak.row at hy
        simp only at hy
        have hy' := Lib.hid hy
        obtain ⟨p0, p1⟩ := hspan0.out _ hS.ground
        clear hy hS
        go_wp2_with fail
        refine hy'.out.mono ?_
        clear hy' p0 p1
        rintro e x20 ⟨rfl, hS, hO⟩
        replace hot := hot.off hoo hO
        clear hO
        have hrows : Calls Try.prog 13 #[.pointer (some ⟨st, 0, none⟩)] x20 (RowsE R7 x20) := by
          have := rowsM_any hS q7.small (Nat.le_trans q7.le (by decide))
          rw [q7.rows] at this
          exact this
        have hrows' := Lib.hid hrows
        clear hrows
        go_wp2_with fail
        refine hrows'.out.mono ?_
        clear hrows'
        rintro e x21 ⟨sa, sc, rfl, _, howns, hX⟩
        replace hS := hS.ext hX
        replace hot := hot.ext hX
        clear hX
        obtain ⟨n7, hn7⟩ : ∃ n7, n7 = R7.length := ⟨_, rfl⟩
        rw [← hn7]
        have h7 : n7 = m + 1 := by rw [hn7, hlen'.out, ← hml.out]
        have h7i : (n7 : Int) = (m : Int) + 1 := by omega
        have hEf := hE.trans hS.ground
        clear howns hn7
        go_wp2_with fail
        go_ret
        exact ⟨rfl, hEf⟩
      · cases hro : (r.val.toList == O.toList)
        · simp only [Option.isSome_some, wasW, madeB, Option.map_some, Option.toList_some] at hmade g1 ⊢
          rw [hro] at hmade
          obtain rfl := hmade
          rw [if_neg (by decide : ¬ (false = true))] at g1
          obtain ⟨p0, p1⟩ := hspan0.out _ hS.ground
          go_wp2_with fail
          refine (cas_mk wr K O V).mono ?_
          rintro e x1 ⟨rfl, hX⟩
          replace hS := hS.ext hX
          replace hot := hot.ext hX
          clear hX p0 p1
          have hy := yes_b (c := 1) (n := 1) hS hRk'.out hR5 (chs_nil x1) (askCas_small hsK hsO hsV) e1 (b := false) rfl (ci := 1) (ni := 1) (v := (askCas K O V).nil) rfl rfl rfl
          have hy' := Lib.hid hy
          obtain ⟨p0, p1⟩ := hspan0.out _ hS.ground
          clear hy hS
          go_wp2_with fail
          refine hy'.out.mono ?_
          clear hy' p0 p1
          rintro e x2 ⟨rfl, hS, hO⟩
          replace hot := hot.off hoo hO
          clear hO
          obtain ⟨p0, p1⟩ := hspan0.out _ hS.ground
          go_wp2_with fail
          refine (get_mk x2 K).mono ?_
          rintro e x3 ⟨rfl, hX⟩
          replace hS := hS.ext hX
          replace hot := hot.ext hX
          clear hX p0 p1
          have hlt9 := hS.lt
          have hy := do_b (c := 1) (n := 9) hS q1.small (Nat.le_trans q1.le (by decide)) (chs_nil x3) (askGet_small hsK) g1 (ci := 1) (ni := 9) (v := (askGet K).nil) rfl rfl rfl
          have hy' := Lib.hid hy
          obtain ⟨p0, p1⟩ := hspan0.out _ hS.ground
          clear hy hS
          go_wp2_with fail
          refine hy'.out.mono ?_
          clear hy' p0 p1
          rintro e x4 ⟨ea, ec, rfl, hLr, _, hS, hO⟩
          replace hot := hot.off hoo hO
          simp only [List.length_cons, List.length_nil, Nat.zero_add] at hLr ⊢
          have hb := heap_alloc_new x4 (.cells #[.int .i64 0, .bool true, .slice ea 1 ec] 32)
          have hEb := (Ext.refl x4).alloc (.cells #[.int .i64 0, .bool true, .slice ea 1 ec] 32)
          replace hS := hS.ext hEb
          replace hot := hot.ext hEb
          replace hLr := hLr.ext hEb
          clear hO hEb
          go_upto_region 19 with fail
          generalize x4.alloc _ = u1 at *
          generalize x4.heap.size = gb at *
          obtain ⟨y0, y1, y2⟩ := re_cells hb
          obtain ⟨p0, p1⟩ := hspan0.out _ hS.ground
          obtain ⟨rb, ro, hat⟩ := hLr.at
          obtain ⟨rfl, _, hd⟩ := hat (by decide)
          have z1 := hd 1 (by decide)
          simp only [List.flatMap_cons, List.flatMap_nil, rwL, List.append_nil] at z1
          replace z1 : u1.cell? ⟨rb, ro + 1, none⟩ = some (.string r.val) := z1
          have hvv : (!(r.val.toList == r.val.toList)) = false := by simp
          clear hat hd
          clear hLr hb
          go_upto_region 24 with fail
          clear y0 y1 y2 z1 hvv p0 p1
          obtain ⟨p0, p1⟩ := hspan0.out _ hS.ground
          go_wp2_with fail
          refine (put_mk u1 K V).mono ?_
          rintro e x5 ⟨rfl, hX⟩
          replace hS := hS.ext hX
          replace hot := hot.ext hX
          clear hX p0 p1
          have hy := yes_b (c := 1) (n := 2) hS q1.small (Nat.le_trans q1.le (by decide)) (chs_nil x5) (askPut_small hsK hsV) e2 (b := true) rfl (ci := 1) (ni := 2) (v := (askPut K V).nil) rfl rfl rfl
          have hy' := Lib.hid hy
          obtain ⟨p0, p1⟩ := hspan0.out _ hS.ground
          clear hy hS
          go_wp2_with fail
          refine hy'.out.mono ?_
          clear hy' p0 p1
          rintro e x6 ⟨rfl, hS, hO⟩
          replace hot := hot.off hoo hO
          clear hO
          obtain ⟨p0, p1⟩ := hspan0.out _ hS.ground
          go_wp2_with fail
          refine (get_mk x6 K).mono ?_
          rintro e x7 ⟨rfl, hX⟩
          replace hS := hS.ext hX
          replace hot := hot.ext hX
          clear hX p0 p1
          have hy := yes_b (c := 1) (n := 9) hS q2.small (Nat.le_trans q2.le (by decide)) (chs_nil x7) (askGet_small hsK) g2 (b := true) rfl (ci := 1) (ni := 9) (v := (askGet K).nil) rfl rfl rfl
          have hy' := Lib.hid hy
          obtain ⟨p0, p1⟩ := hspan0.out _ hS.ground
          clear hy hS
          go_wp2_with fail
          refine hy'.out.mono ?_
          clear hy' p0 p1
          rintro e x8 ⟨rfl, hS, hO⟩
          replace hot := hot.off hoo hO
          clear hO
          have hy := yes_b (c := 1) (n := 3) hS q2.small (Nat.le_trans q2.le (by decide)) (chs_nil x8) (askNew_small hsK e_sz) e3 (b := false) rfl (ci := 1) (ni := 3) (v := (askNew K ⟨#[]⟩).nil) rfl rfl rfl
          unfold askNew Ak.nil Ak.row at hy
          simp only at hy
          have hy' := Lib.hid hy
          obtain ⟨p0, p1⟩ := hspan0.out _ hS.ground
          clear hy hS
          go_wp2_with fail
          refine hy'.out.mono ?_
          clear hy' p0 p1
          rintro e x9 ⟨rfl, hS, hO⟩
          replace hot := hot.off hoo hO
          clear hO
          obtain ⟨p0, p1⟩ := hspan0.out _ hS.ground
          go_wp2_with fail
          refine (cas_mk x9 K V O).mono ?_
          rintro e x10 ⟨rfl, hX⟩
          replace hS := hS.ext hX
          replace hot := hot.ext hX
          clear hX p0 p1
          have hy := yes_b (c := 1) (n := 4) hS q3.small (Nat.le_trans q3.le (by decide)) (chs_nil x10) (askCas_small hsK hsV hsO) e4 (b := true) rfl (ci := 1) (ni := 4) (v := (askCas K V O).nil) rfl rfl rfl
          have hy' := Lib.hid hy
          obtain ⟨p0, p1⟩ := hspan0.out _ hS.ground
          clear hy hS
          go_wp2_with fail
          refine hy'.out.mono ?_
          clear hy' p0 p1
          rintro e x11 ⟨rfl, hS, hO⟩
          replace hot := hot.off hoo hO
          clear hO
          obtain ⟨p0, p1⟩ := hspan0.out _ hS.ground
          go_wp2_with fail
          refine (del_mk x11 K).mono ?_
          rintro e x12 ⟨rfl, hX⟩
          replace hS := hS.ext hX
          replace hot := hot.ext hX
          clear hX p0 p1
          have hy := yes_b (c := 1) (n := 5) hS q4.small (Nat.le_trans q4.le (by decide)) (chs_nil x12) (askDel_small hsK) e5 (b := true) rfl (ci := 1) (ni := 5) (v := (askDel K).nil) rfl rfl rfl
          have hy' := Lib.hid hy
          obtain ⟨p0, p1⟩ := hspan0.out _ hS.ground
          clear hy hS
          go_wp2_with fail
          refine hy'.out.mono ?_
          clear hy' p0 p1
          rintro e x13 ⟨rfl, hS, hO⟩
          replace hot := hot.off hoo hO
          clear hO
          obtain ⟨p0, p1⟩ := hspan0.out _ hS.ground
          go_wp2_with fail
          refine (del_mk x13 K).mono ?_
          rintro e x14 ⟨rfl, hX⟩
          replace hS := hS.ext hX
          replace hot := hot.ext hX
          clear hX p0 p1
          have hy := yes_b (c := 1) (n := 6) hS q5.small (Nat.le_trans q5.le (by decide)) (chs_nil x14) (askDel_small hsK) e6 (b := false) rfl (ci := 1) (ni := 6) (v := (askDel K).nil) rfl rfl rfl
          have hy' := Lib.hid hy
          obtain ⟨p0, p1⟩ := hspan0.out _ hS.ground
          clear hy hS
          go_wp2_with fail
          refine hy'.out.mono ?_
          clear hy' p0 p1
          rintro e x15 ⟨rfl, hS, hO⟩
          replace hot := hot.off hoo hO
          clear hO
          obtain ⟨p0, p1⟩ := hspan0.out _ hS.ground
          go_wp2_with fail
          refine (get_mk x15 K).mono ?_
          rintro e x16 ⟨rfl, hX⟩
          replace hS := hS.ext hX
          replace hot := hot.ext hX
          clear hX p0 p1
          have hy := yes_b (c := 1) (n := 9) hS q6.small (Nat.le_trans q6.le (by decide)) (chs_nil x16) (askGet_small hsK) g6 (b := false) rfl (ci := 1) (ni := 9) (v := (askGet K).nil) rfl rfl rfl
          have hy' := Lib.hid hy
          obtain ⟨p0, p1⟩ := hspan0.out _ hS.ground
          clear hy hS
          go_wp2_with fail
          refine hy'.out.mono ?_
          clear hy' p0 p1
          rintro e x17 ⟨rfl, hS, hO⟩
          replace hot := hot.off hoo hO
          clear hO
          have hrows : Calls Try.prog 13 #[.pointer (some ⟨st, 0, none⟩)] x17 (RowsE (delW R K) x17) := by
            have := rowsM_any hS q6.small (Nat.le_trans q6.le (by decide))
            rw [q6.rows] at this
            exact this
          have hrows' := Lib.hid hrows
          clear hrows
          go_wp2_with fail
          refine hrows'.out.mono ?_
          clear hrows'
          rintro e x18 ⟨ra, rc, rfl, _, hownr, hX⟩
          replace hS := hS.ext hX
          replace hot := hot.ext hX
          clear hX
          have hsr := srows_any x18 (delW R K) (delW R K) ra oa rc oc (RowIs.of_own hownr) (by rw [← hml.out]; exact hot)
          rw [decide_eq_true rfl, ← hml.out] at hsr
          rw [← hml.out]
          have hsr' := Lib.hid hsr
          clear hsr hownr
          go_wp2_with fail
          refine hsr'.out.mono ?_
          clear hsr'
          rintro e x19 ⟨rfl, hX⟩
          replace hS := hS.ext hX
          replace hot := hot.ext hX
          clear hX
          have hy := yes_b (c := 1) (n := 7) hS q6.small (Nat.le_trans q6.le (by decide)) (chs_nil x19) (askNew_small hsK e_sz) e7 (b := true) rfl (ci := 1) (ni := 7) (v := (askNew K ⟨#[]⟩).nil) rfl rfl rfl
          unfold askNew Ak.nil Ak.row at hy
          simp only at hy
          have hy' := Lib.hid hy
          obtain ⟨p0, p1⟩ := hspan0.out _ hS.ground
          clear hy hS
          go_wp2_with fail
          refine hy'.out.mono ?_
          clear hy' p0 p1
          rintro e x20 ⟨rfl, hS, hO⟩
          replace hot := hot.off hoo hO
          clear hO
          have hrows : Calls Try.prog 13 #[.pointer (some ⟨st, 0, none⟩)] x20 (RowsE R7 x20) := by
            have := rowsM_any hS q7.small (Nat.le_trans q7.le (by decide))
            rw [q7.rows] at this
            exact this
          have hrows' := Lib.hid hrows
          clear hrows
          go_wp2_with fail
          refine hrows'.out.mono ?_
          clear hrows'
          rintro e x21 ⟨sa, sc, rfl, _, howns, hX⟩
          replace hS := hS.ext hX
          replace hot := hot.ext hX
          clear hX
          obtain ⟨n7, hn7⟩ : ∃ n7, n7 = R7.length := ⟨_, rfl⟩
          rw [← hn7]
          have h7 : n7 = m + 1 := by rw [hn7, hlen'.out, ← hml.out]
          have h7i : (n7 : Int) = (m : Int) + 1 := by omega
          have hEf := hE.trans hS.ground
          clear howns hn7
          go_wp2_with fail
          go_ret
          exact ⟨rfl, hEf⟩
        · simp only [Option.isSome_some, wasW, madeB, Option.map_some, Option.toList_some] at hmade g1 ⊢
          rw [hro] at hmade
          obtain rfl := hmade
          simp only [if_true] at g1
          obtain ⟨p0, p1⟩ := hspan0.out _ hS.ground
          go_wp2_with fail
          refine (cas_mk wr K O V).mono ?_
          rintro e x1 ⟨rfl, hX⟩
          replace hS := hS.ext hX
          replace hot := hot.ext hX
          clear hX p0 p1
          have hy := yes_b (c := 1) (n := 1) hS hRk'.out hR5 (chs_nil x1) (askCas_small hsK hsO hsV) e1 (b := true) rfl (ci := 1) (ni := 1) (v := (askCas K O V).nil) rfl rfl rfl
          have hy' := Lib.hid hy
          obtain ⟨p0, p1⟩ := hspan0.out _ hS.ground
          clear hy hS
          go_wp2_with fail
          refine hy'.out.mono ?_
          clear hy' p0 p1
          rintro e x2 ⟨rfl, hS, hO⟩
          replace hot := hot.off hoo hO
          clear hO
          obtain ⟨p0, p1⟩ := hspan0.out _ hS.ground
          go_wp2_with fail
          refine (get_mk x2 K).mono ?_
          rintro e x3 ⟨rfl, hX⟩
          replace hS := hS.ext hX
          replace hot := hot.ext hX
          clear hX p0 p1
          have hlt9 := hS.lt
          have hy := do_b (c := 1) (n := 9) hS q1.small (Nat.le_trans q1.le (by decide)) (chs_nil x3) (askGet_small hsK) g1 (ci := 1) (ni := 9) (v := (askGet K).nil) rfl rfl rfl
          have hy' := Lib.hid hy
          obtain ⟨p0, p1⟩ := hspan0.out _ hS.ground
          clear hy hS
          go_wp2_with fail
          refine hy'.out.mono ?_
          clear hy' p0 p1
          rintro e x4 ⟨ea, ec, rfl, hLr, _, hS, hO⟩
          replace hot := hot.off hoo hO
          simp only [List.length_cons, List.length_nil, Nat.zero_add] at hLr ⊢
          have hb := heap_alloc_new x4 (.cells #[.int .i64 0, .bool true, .slice ea 1 ec] 32)
          have hEb := (Ext.refl x4).alloc (.cells #[.int .i64 0, .bool true, .slice ea 1 ec] 32)
          replace hS := hS.ext hEb
          replace hot := hot.ext hEb
          replace hLr := hLr.ext hEb
          clear hO hEb
          go_upto_region 19 with fail
          generalize x4.alloc _ = u1 at *
          generalize x4.heap.size = gb at *
          obtain ⟨y0, y1, y2⟩ := re_cells hb
          obtain ⟨p0, p1⟩ := hspan0.out _ hS.ground
          obtain ⟨rb, ro, hat⟩ := hLr.at
          obtain ⟨rfl, _, hd⟩ := hat (by decide)
          have z1 := hd 1 (by decide)
          simp only [List.flatMap_cons, List.flatMap_nil, rwL, List.append_nil] at z1
          replace z1 : u1.cell? ⟨rb, ro + 1, none⟩ = some (.string V) := z1
          have hvv : (!(V.toList == V.toList)) = false := by simp
          clear hat hd
          clear hLr hb
          go_upto_region 24 with fail
          clear y0 y1 y2 z1 hvv p0 p1
          obtain ⟨p0, p1⟩ := hspan0.out _ hS.ground
          go_wp2_with fail
          refine (put_mk u1 K V).mono ?_
          rintro e x5 ⟨rfl, hX⟩
          replace hS := hS.ext hX
          replace hot := hot.ext hX
          clear hX p0 p1
          have hy := yes_b (c := 1) (n := 2) hS q1.small (Nat.le_trans q1.le (by decide)) (chs_nil x5) (askPut_small hsK hsV) e2 (b := true) rfl (ci := 1) (ni := 2) (v := (askPut K V).nil) rfl rfl rfl
          have hy' := Lib.hid hy
          obtain ⟨p0, p1⟩ := hspan0.out _ hS.ground
          clear hy hS
          go_wp2_with fail
          refine hy'.out.mono ?_
          clear hy' p0 p1
          rintro e x6 ⟨rfl, hS, hO⟩
          replace hot := hot.off hoo hO
          clear hO
          obtain ⟨p0, p1⟩ := hspan0.out _ hS.ground
          go_wp2_with fail
          refine (get_mk x6 K).mono ?_
          rintro e x7 ⟨rfl, hX⟩
          replace hS := hS.ext hX
          replace hot := hot.ext hX
          clear hX p0 p1
          have hy := yes_b (c := 1) (n := 9) hS q2.small (Nat.le_trans q2.le (by decide)) (chs_nil x7) (askGet_small hsK) g2 (b := true) rfl (ci := 1) (ni := 9) (v := (askGet K).nil) rfl rfl rfl
          have hy' := Lib.hid hy
          obtain ⟨p0, p1⟩ := hspan0.out _ hS.ground
          clear hy hS
          go_wp2_with fail
          refine hy'.out.mono ?_
          clear hy' p0 p1
          rintro e x8 ⟨rfl, hS, hO⟩
          replace hot := hot.off hoo hO
          clear hO
          have hy := yes_b (c := 1) (n := 3) hS q2.small (Nat.le_trans q2.le (by decide)) (chs_nil x8) (askNew_small hsK e_sz) e3 (b := false) rfl (ci := 1) (ni := 3) (v := (askNew K ⟨#[]⟩).nil) rfl rfl rfl
          unfold askNew Ak.nil Ak.row at hy
          simp only at hy
          have hy' := Lib.hid hy
          obtain ⟨p0, p1⟩ := hspan0.out _ hS.ground
          clear hy hS
          go_wp2_with fail
          refine hy'.out.mono ?_
          clear hy' p0 p1
          rintro e x9 ⟨rfl, hS, hO⟩
          replace hot := hot.off hoo hO
          clear hO
          obtain ⟨p0, p1⟩ := hspan0.out _ hS.ground
          go_wp2_with fail
          refine (cas_mk x9 K V O).mono ?_
          rintro e x10 ⟨rfl, hX⟩
          replace hS := hS.ext hX
          replace hot := hot.ext hX
          clear hX p0 p1
          have hy := yes_b (c := 1) (n := 4) hS q3.small (Nat.le_trans q3.le (by decide)) (chs_nil x10) (askCas_small hsK hsV hsO) e4 (b := true) rfl (ci := 1) (ni := 4) (v := (askCas K V O).nil) rfl rfl rfl
          have hy' := Lib.hid hy
          obtain ⟨p0, p1⟩ := hspan0.out _ hS.ground
          clear hy hS
          go_wp2_with fail
          refine hy'.out.mono ?_
          clear hy' p0 p1
          rintro e x11 ⟨rfl, hS, hO⟩
          replace hot := hot.off hoo hO
          clear hO
          obtain ⟨p0, p1⟩ := hspan0.out _ hS.ground
          go_wp2_with fail
          refine (del_mk x11 K).mono ?_
          rintro e x12 ⟨rfl, hX⟩
          replace hS := hS.ext hX
          replace hot := hot.ext hX
          clear hX p0 p1
          have hy := yes_b (c := 1) (n := 5) hS q4.small (Nat.le_trans q4.le (by decide)) (chs_nil x12) (askDel_small hsK) e5 (b := true) rfl (ci := 1) (ni := 5) (v := (askDel K).nil) rfl rfl rfl
          have hy' := Lib.hid hy
          obtain ⟨p0, p1⟩ := hspan0.out _ hS.ground
          clear hy hS
          go_wp2_with fail
          refine hy'.out.mono ?_
          clear hy' p0 p1
          rintro e x13 ⟨rfl, hS, hO⟩
          replace hot := hot.off hoo hO
          clear hO
          obtain ⟨p0, p1⟩ := hspan0.out _ hS.ground
          go_wp2_with fail
          refine (del_mk x13 K).mono ?_
          rintro e x14 ⟨rfl, hX⟩
          replace hS := hS.ext hX
          replace hot := hot.ext hX
          clear hX p0 p1
          have hy := yes_b (c := 1) (n := 6) hS q5.small (Nat.le_trans q5.le (by decide)) (chs_nil x14) (askDel_small hsK) e6 (b := false) rfl (ci := 1) (ni := 6) (v := (askDel K).nil) rfl rfl rfl
          have hy' := Lib.hid hy
          obtain ⟨p0, p1⟩ := hspan0.out _ hS.ground
          clear hy hS
          go_wp2_with fail
          refine hy'.out.mono ?_
          clear hy' p0 p1
          rintro e x15 ⟨rfl, hS, hO⟩
          replace hot := hot.off hoo hO
          clear hO
          obtain ⟨p0, p1⟩ := hspan0.out _ hS.ground
          go_wp2_with fail
          refine (get_mk x15 K).mono ?_
          rintro e x16 ⟨rfl, hX⟩
          replace hS := hS.ext hX
          replace hot := hot.ext hX
          clear hX p0 p1
          have hy := yes_b (c := 1) (n := 9) hS q6.small (Nat.le_trans q6.le (by decide)) (chs_nil x16) (askGet_small hsK) g6 (b := false) rfl (ci := 1) (ni := 9) (v := (askGet K).nil) rfl rfl rfl
          have hy' := Lib.hid hy
          obtain ⟨p0, p1⟩ := hspan0.out _ hS.ground
          clear hy hS
          go_wp2_with fail
          refine hy'.out.mono ?_
          clear hy' p0 p1
          rintro e x17 ⟨rfl, hS, hO⟩
          replace hot := hot.off hoo hO
          clear hO
          have hrows : Calls Try.prog 13 #[.pointer (some ⟨st, 0, none⟩)] x17 (RowsE (delW R K) x17) := by
            have := rowsM_any hS q6.small (Nat.le_trans q6.le (by decide))
            rw [q6.rows] at this
            exact this
          have hrows' := Lib.hid hrows
          clear hrows
          go_wp2_with fail
          refine hrows'.out.mono ?_
          clear hrows'
          rintro e x18 ⟨ra, rc, rfl, _, hownr, hX⟩
          replace hS := hS.ext hX
          replace hot := hot.ext hX
          clear hX
          have hsr := srows_any x18 (delW R K) (delW R K) ra oa rc oc (RowIs.of_own hownr) (by rw [← hml.out]; exact hot)
          rw [decide_eq_true rfl, ← hml.out] at hsr
          rw [← hml.out]
          have hsr' := Lib.hid hsr
          clear hsr hownr
          go_wp2_with fail
          refine hsr'.out.mono ?_
          clear hsr'
          rintro e x19 ⟨rfl, hX⟩
          replace hS := hS.ext hX
          replace hot := hot.ext hX
          clear hX
          have hy := yes_b (c := 1) (n := 7) hS q6.small (Nat.le_trans q6.le (by decide)) (chs_nil x19) (askNew_small hsK e_sz) e7 (b := true) rfl (ci := 1) (ni := 7) (v := (askNew K ⟨#[]⟩).nil) rfl rfl rfl
          unfold askNew Ak.nil Ak.row at hy
          simp only at hy
          have hy' := Lib.hid hy
          obtain ⟨p0, p1⟩ := hspan0.out _ hS.ground
          clear hy hS
          go_wp2_with fail
          refine hy'.out.mono ?_
          clear hy' p0 p1
          rintro e x20 ⟨rfl, hS, hO⟩
          replace hot := hot.off hoo hO
          clear hO
          have hrows : Calls Try.prog 13 #[.pointer (some ⟨st, 0, none⟩)] x20 (RowsE R7 x20) := by
            have := rowsM_any hS q7.small (Nat.le_trans q7.le (by decide))
            rw [q7.rows] at this
            exact this
          have hrows' := Lib.hid hrows
          clear hrows
          go_wp2_with fail
          refine hrows'.out.mono ?_
          clear hrows'
          rintro e x21 ⟨sa, sc, rfl, _, howns, hX⟩
          replace hS := hS.ext hX
          replace hot := hot.ext hX
          clear hX
          obtain ⟨n7, hn7⟩ : ∃ n7, n7 = R7.length := ⟨_, rfl⟩
          rw [← hn7]
          have h7 : n7 = m + 1 := by rw [hn7, hlen'.out, ← hml.out]
          have h7i : (n7 : Int) = (m : Int) + 1 := by omega
          have hEf := hE.trans hS.ground
          clear howns hn7
          go_wp2_with fail
          go_ret
          exact ⟨rfl, hEf⟩
end Go.Proofs.Ytmjoaiepfipmaaa
