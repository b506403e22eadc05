/- The law ModelsParts. (Printed by wip/tools/glaw.py.) No condition. -/
import Derived.Test.YtmjoaiepfipmaaaMod23
import Derived.Laws.Cover1
import Derived.StillTailTactics
namespace Go.Proofs.Ytmjoaiepfipmaaa
open Go.RowKit
set_option maxRecDepth 100000
set_option maxHeartbeats 4000000
theorem okc_span {w : World} {cs : List Value} (h : ∃ n, OKC Try.prog w n 60 cs) : ∃ s0 s1 : ByteArray, cs = [.string s0, .string s1] ∧ s0.size ≤ 140737488351232 ∧ s1.size ≤ 140737488351232 := by
  obtain ⟨n, h⟩ := h
  have c2 : Try.prog.cellsOf 60 = 2 := by kernel_rfl
  have c1 : Try.prog.cellsOf 9 = 1 := by kernel_rfl
  cases n with
  | zero => exact h.elim
  | succ n =>
    unfold OKC at h
    rw [Try.underlying60] at h
    simp only [c2, c1] at h
    obtain ⟨hl, hi⟩ := h
    match cs, hl with
    | [v0, v1], _ =>
      obtain ⟨s0, e0, h0⟩ := okc_str Try.underlying9 (hi 0 (by decide))
      obtain ⟨s1, e1, h1⟩ := okc_str Try.underlying9 (hi 1 (by decide))
      simp at e0 e1
      exact ⟨s0, s1, by rw [e0, e1], h0, h1⟩
theorem rg_ext {w w' : World} {b o : Nat} {cs : List Value} (he : Ext w w') (h : w.rangeAt b o cs) : w'.rangeAt b o cs := fun j v hv => he.cell (h j v hv)
def askScan (k t : ByteArray) (n : Int) : Ak := ⟨6, k, ⟨#[]⟩, ⟨#[]⟩, false, t, n, []⟩
theorem askScan_small {k t : ByteArray} {n : Int} (h1 : k.size ≤ 140737488351232) (h2 : t.size ≤ 140737488351232) (h0 : 0 ≤ n) (hn : n ≤ 100) : (askScan k t n).small := ⟨⟨(by decide : (0 : Int) ≤ 6), (by decide : (6 : Int) < 256)⟩, h1, e_sz, e_sz, h2, by show -9223372036854775808 ≤ n ∧ n ≤ 9223372036854775807; omega⟩
theorem ok_scan (k t : ByteArray) (n : Int) (h0 : 0 ≤ n) : (askScan k t n).okB = (keyB k && (keyB t && decide (n ≤ 64))) := by
  unfold Ak.okB askScan Ak.scanB
  simp [h0]
theorem okc_string {w : World} {s : ByteArray} (hu : Try.prog.underlying 9 = some .string) (h : ∃ n, OKC Try.prog w n 9 [.string s]) : s.size ≤ 140737488351232 := by
  obtain ⟨n, h⟩ := h
  obtain ⟨s', e, hs⟩ := okc_str hu h
  injection e with e; injection e with e
  rw [e]; exact hs
theorem Out.mono {B B' : Nat → Prop} {v : Value} (h : Out B v) (hb : ∀ k, B' k → B k) : Out B' v := fun a n c hv hB => h a n c hv (hb _ hB)
def scR (R : List Rw) (x : Ak) : List Rw := if x.okB = true then scanL x R else []
def scE (x : Ak) : Int := if x.okB = true then 0 else 1
theorem scan_do {w0 w : World} {st mb : Nat} {R : List Rw} (hS : StM w0 w st mb ⟨R, zSd⟩) (hg : smallR R) (hrn : R.length ≤ 50000) {k t : ByteArray} (h1 : k.size ≤ 140737488351232) (h2 : t.size ≤ 140737488351232) {v : Array Value} (hv : v = (askScan k t 64).nil) :
    Calls Try.prog 12 #[.pointer (some ⟨st, 0, none⟩), .int .u8 1, .int .u32 1, .agg v] w (DoE w0 w st mb 0 false (scR R (askScan k t 64)) (scE (askScan k t 64)) ⟨R, zSd⟩) := by
  refine do_b (c := 1) (n := 1) hS hg hrn (chs_nil w) (askScan_small h1 h2 (by decide) (by decide)) ?_ rfl rfl hv
  by_cases h : (askScan k t 64).okB = true
  · rw [ans_ok (by decide) (by decide) h (by rw [num_zSd]; decide), act_look (fun h => h.2 rfl) (.inr rfl)]
    unfold scR scE
    rw [if_pos h, if_pos h]
    rfl
  · rw [ans_bad (.inr (.inr (.inr (by simpa using h))))]
    unfold scR scE
    rw [if_neg h, if_neg h]
theorem scE_or (x : Ak) : (scE x = 0 ∧ x.okB = true) ∨ scE x = 1 := by
  unfold scE
  by_cases h : x.okB = true
  · exact .inl ⟨if_pos h, h⟩
  · exact .inr (if_neg h)
theorem parts_eq {R L1 L2 L3 : List Rw} {x1 x2 x3 : Ak} {s0 s1 at' : ByteArray} (hs : sortR R) (hl : R.length ≤ 64) (h1 : x1 = askScan s0 s1 64) (h2 : x2 = askScan s0 at' 64) (h3 : x3 = askScan at' s1 64) (l1 : L1 = scanL x1 R) (l2 : L2 = scanL x2 R) (l3 : L3 = scanL x3 R) (hk1 : ¬ ltK at' s0) (hk2 : ¬ ltK s1 at') : L1 = L2 ++ L3.filter (notAt at') := by
  have he : ∀ k t : ByteArray, scanL (askScan k t 64) R = R.filter (inR (askScan k t 64)) := fun k t => by
    unfold scanL
    exact List.take_of_length_le (Nat.le_trans (List.length_filter_le _ _) hl)
  rw [l1, l2, l3, h1, h2, h3, he, he, he]
  exact scan_parts (askScan s0 s1 64) (askScan s0 at' 64) (askScan at' s1 64) rfl rfl rfl hk1 hk2 R hs
theorem modelsParts_walk (w : World) (v : Value) (o0 : ∃ n, OKC Try.prog w n 46 [v]) (cs : Array Value) (o1 : ∃ n, OKC Try.prog w n 60 cs.toList) (at' : ByteArray) (o2 : ∃ n, OKC Try.prog w n 9 [.string at']) :
    Calls Try.prog 10 #[v, .agg cs, .string at'] w fun e w' => e = .returned (.bool true) ∧ Ext w w' := by
  obtain ⟨l, a, cap, rfl, hg, h1, hll⟩ := okc_acts o0
  obtain ⟨s0, s1, hcs, hs0, hs1⟩ := okc_span o1
  obtain rfl : cs = #[.string s0, .string s1] := by rw [← Array.toList_inj]; exact hcs
  have hs2 := okc_string Try.underlying9 o2
  have hg' := Lib.hid hg
  have h1' := Lib.hid h1
  clear o0 o1 o2 hg h1 hcs
  have hG := heap_alloc_new w (.cells #[.string s0, .string s1] 60)
  have hE := (Ext.refl w).alloc (.cells #[.string s0, .string s1] 60)
  go_enter Try.func10, Try.ntmps10
  go_upto_region 1 with fail
  generalize w.alloc _ = W at *
  generalize w.heap.size = g at *
  go_wp2_with fail
  refine (alive_any W).mono ?_
  rintro e wa ⟨rfl, hEa⟩
  replace hE := hE.trans hEa
  replace hG := hEa.row hG
  clear hEa
  go_wp2_with fail
  refine (great_any wa l a cap (fun x hx => (hg'.out x hx).ext hE) hll (h1'.out.ext hE)).mono ?_
  rintro e wg ⟨rfl, hEg⟩
  replace hE := hE.trans hEg
  replace hG := hEg.row hG
  clear hEg
  cases hm : greatB l
  case true =>
    go_wp2_with fail
    refine (alive_end w wg hE).mono ?_
    rintro e wz ⟨rfl, hEz⟩
    go_wp2_with fail
    go_ret
    exact ⟨rfl, hEz⟩
  have hl150 := great_len hm
  have hm' := Lib.hid hm
  clear hm
  have hspan : ∀ w', Ext wg w' → w'.cell? ⟨g, 0, none⟩ = some (.string s0) ∧ w'.cell? ⟨g, 1, none⟩ = some (.string s1) := fun w' he => by
    refine ⟨?_, ?_⟩ <;> (rw [cell_of_row _ _ _ _ 60 (0, 0) (he.row hG)]; rfl)
  have hspan' := Lib.hid hspan
  have hgw : g < wg.heap.size := (Array.getElem?_eq_some_iff.1 hG).1
  clear hspan hG
  obtain ⟨p0, p1⟩ := hspan'.out _ (Ext.refl wg)
  by_cases h8 : 1000 < s0.size + s1.size + at'.size
  · have h8i : (1000 : Int) < (s0.size : Int) + (s1.size : Int) + (at'.size : Int) := by omega
    go_wp2_with fail
    refine (alive_end w wg hE).mono ?_
    rintro e wz ⟨rfl, hEz⟩
    go_wp2_with fail
    go_ret
    exact ⟨rfl, hEz⟩
  have h8i : ¬ (1000 : Int) < (s0.size : Int) + (s1.size : Int) + (at'.size : Int) := by omega
  have h8d : decide ((1000 : Int) < (s0.size : Int) + (s1.size : Int) + (at'.size : Int)) = false := decide_eq_false h8i
  cases hb1 : Op.bytesLess at'.toList s0.toList with
  | true =>
    go_wp2_with fail
    refine (alive_end w wg hE).mono ?_
    rintro e wz ⟨rfl, hEz⟩
    go_wp2_with fail
    go_ret
    exact ⟨rfl, hEz⟩
  | false =>
  cases hb2 : !(Op.bytesLess at'.toList s1.toList || at'.toList == s1.toList) with
  | true =>
    go_wp2_with fail
    refine (alive_end w wg hE).mono ?_
    rintro e wz ⟨rfl, hEz⟩
    go_wp2_with fail
    go_ret
    exact ⟨rfl, hEz⟩
  | false =>
  have hk1 : ¬ ltK at' s0 := ltK_not.1 hb1
  have hk2 : ¬ ltK s1 at' := by
    intro hk
    rw [Bool.not_eq_false', Bool.or_eq_true, ltK_less, eqK] at hb2
    rcases hb2 with hb2 | rfl
    · exact ltK_irr _ (ltK_trans hk hb2)
    · exact ltK_irr _ hk
  go_wp2_with fail
  refine (done_any wg l a cap (fun x hx => (hg'.out x hx).ext hE) (by omega) (h1'.out.ext hE)).mono ?_
  rintro e w5 ⟨st0, mb0, rfl, hS0⟩
  obtain ⟨R, hR⟩ : ∃ R, R = (doneM l).rows := ⟨_, rfl⟩
  have hRs := sortS hS0 hR
  have hRk : smallR R := by rw [hR]; exact done_small l
  have hRl : R.length ≤ 2400 := by rw [hR]; have := done_length l; omega
  have hrows := rowsM_any hS0 (by rw [← hR]; exact hRk) (by rw [← hR]; omega)
  rw [← hR] at hrows
  have hrows' := Lib.hid hrows
  have hRs' := Lib.hid hRs
  have hRk' := Lib.hid hRk
  have hE5 := hS0.ground
  clear hS0 hrows hR hRs hRk p0 p1
  go_wp2_with fail
  refine hrows'.out.mono ?_
  clear hrows'
  rintro e w6 ⟨ra, rc, rfl, _, hown, hE6⟩
  have hmk := mk_rows w6 R ra rc (RowIs.of_own hown) (by omega) hRs'.out hRk'.out
  replace hE5 := hE5.trans hE6
  have hmk' := Lib.hid hmk
  clear hown hmk hE6
  go_wp2_with fail
  refine hmk'.out.mono ?_
  clear hmk'
  rintro e w7 ⟨st, mb, rfl, hS⟩
  replace hS := hS.past hE5
  clear hE5
  go_upto_region 6 with fail
  obtain ⟨p0, p1⟩ := hspan'.out _ hS.ground
  have hlt1 := hS.lt
  have hdo := scan_do hS hRk'.out (by omega) hs0 hs1 (v := (askScan s0 s1 64).nil) rfl
  obtain ⟨x1, hx1⟩ : ∃ x, x = askScan s0 s1 64 := ⟨_, rfl⟩
  obtain ⟨L1, hL1⟩ : ∃ L, L = scR R (askScan s0 s1 64) := ⟨_, rfl⟩
  obtain ⟨e1, he1⟩ : ∃ e, e = scE (askScan s0 s1 64) := ⟨_, rfl⟩
  rw [← hL1, ← he1] at hdo
  rw [← hx1] at hL1 he1
  have hL1' := Lib.hid hL1
  have he1' := Lib.hid he1
  have hx1' := Lib.hid hx1
  unfold askScan Ak.nil Ak.row at hdo
  simp only at hdo
  have hdo' := Lib.hid hdo
  clear hdo hL1 he1 hx1 hS
  go_wp2_with fail
  refine hdo'.out.mono ?_
  clear hdo' p0 p1
  rintro e v1 ⟨a1, c1, rfl, hr1, ho1, hS, hO⟩
  replace ho1 := ho1.mono (B' := fun i => i = st ∨ i = mb) (fun k hk => by rcases hk with hk | hk <;> (rw [hk]; first | exact hlt1.1 | exact hlt1.2))
  obtain ⟨n1, hn1⟩ : ∃ n, n = L1.length := ⟨_, rfl⟩
  rw [← hn1] at hr1 ho1 ⊢
  have hn1' := Lib.hid hn1
  clear hn1
  have hbs1 : st < v1.heap.size ∧ mb < v1.heap.size := hS.lt
  have b1 := heap_alloc_new v1 (.cells #[.int .i64 0, .bool false, .slice a1 n1 c1] 32)
  have hEb := (Ext.refl v1).alloc (.cells #[.int .i64 0, .bool false, .slice a1 n1 c1] 32)
  replace hS := hS.ext hEb
  replace hr1 := hr1.ext hEb
  clear hEb hO
  go_upto_region 7 with fail
  generalize v1.alloc _ = u1 at *
  generalize v1.heap.size = g1 at *
  obtain ⟨p0, p1⟩ := hspan'.out _ hS.ground
  have hlt2 := hS.lt
  have hdo := scan_do hS hRk'.out (by omega) hs0 hs2 (v := (askScan s0 at' 64).nil) rfl
  obtain ⟨x2, hx2⟩ : ∃ x, x = askScan s0 at' 64 := ⟨_, rfl⟩
  obtain ⟨L2, hL2⟩ : ∃ L, L = scR R (askScan s0 at' 64) := ⟨_, rfl⟩
  obtain ⟨e2, he2⟩ : ∃ e, e = scE (askScan s0 at' 64) := ⟨_, rfl⟩
  rw [← hL2, ← he2] at hdo
  rw [← hx2] at hL2 he2
  have hL2' := Lib.hid hL2
  have he2' := Lib.hid he2
  have hx2' := Lib.hid hx2
  unfold askScan Ak.nil Ak.row at hdo
  simp only at hdo
  have hdo' := Lib.hid hdo
  clear hdo hL2 he2 hx2 hS
  go_wp2_with fail
  refine hdo'.out.mono ?_
  clear hdo' p0 p1
  rintro e v2 ⟨a2, c2, rfl, hr2, ho2, hS, hO⟩
  replace ho2 := ho2.mono (B' := fun i => i = st ∨ i = mb) (fun k hk => by rcases hk with hk | hk <;> (rw [hk]; first | exact hlt2.1 | exact hlt2.2))
  obtain ⟨n2, hn2⟩ : ∃ n, n = L2.length := ⟨_, rfl⟩
  rw [← hn2] at hr2 ho2 ⊢
  have hn2' := Lib.hid hn2
  clear hn2
  replace hr1 := hr1.off ho1 hO
  replace b1 := hO.row b1 (by omega)
  have hbs2 : st < v2.heap.size ∧ mb < v2.heap.size := hS.lt
  have b2 := heap_alloc_new v2 (.cells #[.int .i64 0, .bool false, .slice a2 n2 c2] 32)
  have hEb := (Ext.refl v2).alloc (.cells #[.int .i64 0, .bool false, .slice a2 n2 c2] 32)
  replace hS := hS.ext hEb
  replace hr1 := hr1.ext hEb
  replace hr2 := hr2.ext hEb
  replace b1 := hEb.row b1
  clear hEb hO
  go_upto_region 8 with fail
  generalize v2.alloc _ = u2 at *
  generalize v2.heap.size = g2 at *
  obtain ⟨p0, p1⟩ := hspan'.out _ hS.ground
  have hlt3 := hS.lt
  have hdo := scan_do hS hRk'.out (by omega) hs2 hs1 (v := (askScan at' s1 64).nil) rfl
  obtain ⟨x3, hx3⟩ : ∃ x, x = askScan at' s1 64 := ⟨_, rfl⟩
  obtain ⟨L3, hL3⟩ : ∃ L, L = scR R (askScan at' s1 64) := ⟨_, rfl⟩
  obtain ⟨e3, he3⟩ : ∃ e, e = scE (askScan at' s1 64) := ⟨_, rfl⟩
  rw [← hL3, ← he3] at hdo
  rw [← hx3] at hL3 he3
  have hL3' := Lib.hid hL3
  have he3' := Lib.hid he3
  have hx3' := Lib.hid hx3
  unfold askScan Ak.nil Ak.row at hdo
  simp only at hdo
  have hdo' := Lib.hid hdo
  clear hdo hL3 he3 hx3 hS
  go_wp2_with fail
  refine hdo'.out.mono ?_
  clear hdo' p0 p1
  rintro e v3 ⟨a3, c3, rfl, hr3, ho3, hS, hO⟩
  replace ho3 := ho3.mono (B' := fun i => i = st ∨ i = mb) (fun k hk => by rcases hk with hk | hk <;> (rw [hk]; first | exact hlt3.1 | exact hlt3.2))
  obtain ⟨n3, hn3⟩ : ∃ n, n = L3.length := ⟨_, rfl⟩
  rw [← hn3] at hr3 ho3 ⊢
  have hn3' := Lib.hid hn3
  clear hn3
  replace hr1 := hr1.off ho1 hO
  replace b1 := hO.row b1 (by omega)
  replace hr2 := hr2.off ho2 hO
  replace b2 := hO.row b2 (by omega)
  have hbs3 : st < v3.heap.size ∧ mb < v3.heap.size := hS.lt
  have b3 := heap_alloc_new v3 (.cells #[.int .i64 0, .bool false, .slice a3 n3 c3] 32)
  have hEb := (Ext.refl v3).alloc (.cells #[.int .i64 0, .bool false, .slice a3 n3 c3] 32)
  replace hS := hS.ext hEb
  replace hr1 := hr1.ext hEb
  replace hr2 := hr2.ext hEb
  replace hr3 := hr3.ext hEb
  replace b1 := hEb.row b1
  replace b2 := hEb.row b2
  clear hEb hO
  go_upto_region 9 with fail
  generalize v3.alloc _ = u3 at *
  generalize v3.heap.size = g3 at *
  have hE3 := hE.trans hS.ground
  rcases scE_or x1 with ⟨k1, ok1⟩ | k1
  case inr =>
    obtain rfl : e1 = 1 := by rw [he1'.out, k1]
    go_wp2_with fail
    go_ret
    exact ⟨rfl, hE3⟩
  obtain rfl : e1 = 0 := by rw [he1'.out, k1]
  rcases scE_or x2 with ⟨k2, ok2⟩ | k2
  case inr =>
    obtain rfl : e2 = 1 := by rw [he2'.out, k2]
    go_wp2_with fail
    go_ret
    exact ⟨rfl, hE3⟩
  obtain rfl : e2 = 0 := by rw [he2'.out, k2]
  have ok3 : x3.okB = true := by
    have q1 := ok1
    have q2 := ok2
    rw [hx1'.out, ok_scan _ _ _ (by decide)] at q1
    rw [hx2'.out, ok_scan _ _ _ (by decide)] at q2
    rw [hx3'.out, ok_scan _ _ _ (by decide)]
    simp only [Bool.and_eq_true] at q1 q2 ⊢
    exact ⟨q2.2.1, q1.2.1, q1.2.2⟩
  obtain rfl : e3 = 0 := by rw [he3'.out]; unfold scE; rw [if_pos ok3]
  replace hL1' := Lib.hid (show L1 = scanL x1 R by rw [hL1'.out]; unfold scR; rw [if_pos ok1])
  replace hL2' := Lib.hid (show L2 = scanL x2 R by rw [hL2'.out]; unfold scR; rw [if_pos ok2])
  replace hL3' := Lib.hid (show L3 = scanL x3 R by rw [hL3'.out]; unfold scR; rw [if_pos ok3])
  have hn2b : n2 ≤ 2400 := by rw [hn2'.out, hL2'.out]; have := scanL_len x2 R; omega
  have hn3b : n3 ≤ 2400 := by rw [hn3'.out, hL3'.out]; have := scanL_len x3 R; omega
  obtain ⟨_, _, y2⟩ := re_cells b2
  have htw := twin_rows u3 L2 a2 c2 (by rw [← hn2'.out]; exact hr2) (by rw [← hn2'.out]; omega)
  rw [← hn2'.out] at htw
  have htw' := Lib.hid htw
  clear k1 k2 ok1 ok2 ok3 he1' he2' he3' htw hlt1 hlt2 hlt3
  go_wp2_with fail
  refine htw'.out.mono ?_
  clear htw'
  rintro e w8 ⟨ba, bc, rfl, hown, hE8⟩
  have hown' := Lib.hid hown
  have hr3' := Lib.hid hr3
  have hr1' := Lib.hid hr1
  have c3w := Lib.hid b3
  have c1w := Lib.hid b1
  have hS' := Lib.hid hS
  clear hr1 hr2 hr3 b1 b2 b3 y2 hE3 hown hS
  go_wp2_with fail
  go_loopw [15, 16] (fun out i wr => ∃ (k m : Nat) (oa : Option Addr) (oc : Nat), k ≤ n3 ∧ m ≤ n2 + k ∧ Hid (m = (L2 ++ (L3.take k).filter (notAt at')).length) ∧ i = .int .i64 k ∧ out = .slice oa m oc ∧ wr.ownsRow u3.heap.size 62 2 (.slice oa m oc) m ((L2 ++ (L3.take k).filter (notAt at')).flatMap rwL) ∧ Ext u3 wr) (fun _ i _ => n3 - (intOf i).toNat)
  case atStart => exact ⟨0, n2, ba, bc, by omega, by omega, Lib.hid (by rw [hn2'.out]; simp), rfl, rfl, by simpa using hown'.out, hE8⟩
  case round =>
    obtain ⟨k, m, oa, oc, hk, hm2, hml, rfl, rfl, hown, hEr⟩ := hrel
    obtain ⟨_, _, y2⟩ := re_cells (hEr.row c3w.out)
    by_cases hlt : k < n3
    · have hli : (k : Int) < (n3 : Int) := by omega
      obtain ⟨r, hr⟩ : ∃ r, L3[k]? = some r := ⟨_, List.getElem?_eq_getElem (by rw [← hn3'.out]; exact hlt)⟩
      obtain ⟨b, off, hat⟩ := (hr3'.out.ext hEr).at
      obtain ⟨rfl, _, hd⟩ := hat (by omega)
      have hrg := rws_range (by rw [← hn3'.out]; exact hd) hr
      have y0 := hrg 0 _ rfl
      rw [Nat.add_zero] at y0
      have htk : (L3.take (k + 1)).filter (notAt at') = (L3.take k).filter (notAt at') ++ [r].filter (notAt at') := by rw [List.take_add_one, hr, List.filter_append]; rfl
      have htk' := Lib.hid htk
      have hsz := hEr.size
      clear hat hd hr htk
      cases hq : (r.key.toList == at'.toList) with
      | true =>
        have hqn : (!(r.key.toList == at'.toList)) = false := by rw [hq]; rfl
        go_wp2_with fail
        go_roundw
        case rel =>
          have ek : (L3.take (k + 1)).filter (notAt at') = (L3.take k).filter (notAt at') := by rw [htk'.out, show [r].filter (notAt at') = [] by simp [notAt, hqn], List.append_nil]
          exact ⟨k + 1, m, oa, oc, by omega, by omega, Lib.hid (by rw [ek]; exact hml.out), by go_num, rfl, by rw [ek]; exact hown, hEr⟩
        case measure => simp [intOf]; omega
      | false =>
        have hqn : (!(r.key.toList == at'.toList)) = true := by rw [hq]; rfl
        go_wp2_with (first | (refine wpList_load_mid (by rfl) 62 (.tmp 124) (by rfl) b (off + k * 2) (by rfl) (rowR r).toList _ hrg Try.underlying62 rfl (by exact info_row) ?_) | (refine wpList_bs_row (by rfl) (.tmp 125) (by rfl) r (by rfl) ?_) | (at_builtin; refine wpList_append_lit (by rfl) (.tmp 120) (.tmp 126) 30 62 (by rfl) Try.underlying30 el_row wr u3.heap.size m _ (.slice oa m oc) (by rfl) hown (rowR r) (by rfl) (by rfl) (fun u hu => Array.all_eq_true_iff_forall_mem.1 (rowR_one r) u (by simpa using hu)) (by omega) (by omega) hsz ?_; go_loud (intro v' w3 hown2 hbel; obtain ⟨oa', oc', rfl, _⟩ := own_slice hown2; have hX3 : Ext u3 w3 := Below.trans hEr hbel)) | fail)
        go_roundw
        case rel =>
          have ek : L2 ++ (L3.take (k + 1)).filter (notAt at') = (L2 ++ (L3.take k).filter (notAt at')) ++ [r] := by rw [htk'.out, show [r].filter (notAt at') = [r] by simp [notAt, hqn], ← List.append_assoc]
          refine ⟨k + 1, m + 1, oa', oc', by omega, by omega, Lib.hid (by rw [ek, List.length_append, ← hml.out]; rfl), by go_num, rfl, ?_, hX3⟩
          rw [ek, List.flatMap_append]
          simpa [rwL, rowR] using hown2
        case measure => simp [intOf]; omega
    · have hli : ¬ (k : Int) < (n3 : Int) := by omega
      rw [List.take_of_length_le (by rw [← hn3'.out]; omega)] at hown hml
      have hS5 := hS'.out.ext hEr
      have hEf := hE.trans hS5.ground
      have hrows : Calls Try.prog 13 #[.pointer (some ⟨st, 0, none⟩)] wr (RowsE R wr) := rowsM_any hS5 hRk'.out (show R.length ≤ 50000 by omega)
      have hrows' := Lib.hid hrows
      have hr1w := Lib.hid (hr1'.out.ext hEr)
      have c1r := Lib.hid (hEr.row c1w.out)
      have hown2 := Lib.hid hown
      clear hS5 hrows hown
      go_wp2_with fail
      clear y2
      refine hrows'.out.mono ?_
      clear hrows'
      rintro e w9 ⟨qa, qc, rfl, _, _, hE9⟩
      obtain ⟨rn, hrn⟩ : ∃ rn, rn = R.length := ⟨_, rfl⟩
      rw [← hrn]
      have hrn' := Lib.hid hrn
      obtain ⟨_, _, y2⟩ := re_cells (hE9.row c1r.out)
      replace hEf := hEf.trans hE9
      have hown3 := hown2.out.kept (grown_of_ext hE9) (Classical.em _)
      have hr1x := hr1w.out.ext hE9
      clear hrn
      by_cases h64 : 64 < rn
      · have h64i : (64 : Int) < (rn : Int) := by omega
        clear hown3 hr1x
        go_wp2_with fail
        go_ret
        exact ⟨rfl, hEf⟩
      · have h64i : ¬ (64 : Int) < (rn : Int) := by omega
        have h64d : decide ((64 : Int) < (rn : Int)) = false := decide_eq_false h64i
        have hq := srows_any w9 L1 (L2 ++ L3.filter (notAt at')) a1 oa c1 oc (by rw [← hn1'.out]; exact hr1x) (by rw [← hml.out]; exact RowIs.of_own hown3)
        rw [decide_eq_true (parts_eq hRs'.out (by rw [← hrn'.out]; omega) hx1'.out hx2'.out hx3'.out hL1'.out hL2'.out hL3'.out hk1 hk2), ← hn1'.out, ← hml.out] at hq
        have hq' := Lib.hid hq
        clear hq hown3 hr1x
        go_wp2_with fail
        refine hq'.out.mono ?_
        rintro e w20 ⟨rfl, hE20⟩
        go_wp2_with fail
        go_ret
        exact ⟨rfl, hEf.trans hE20⟩
end Go.Proofs.Ytmjoaiepfipmaaa
