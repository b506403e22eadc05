/- The law ModelsAnew. (Printed by wip/tools/glaw.py.) No condition. -/
import Derived.Test.YtmjoaiepfipmaaaLMA
import Derived.Test.YtmjoaiepfipmaaaMod22
import Derived.Deep.RegionHeld3
import Derived.Deep.CutRange
import Derived.StillTailTactics
namespace Go.Proofs.Ytmjoaiepfipmaaa
open Go.RowKit
set_option maxRecDepth 100000
set_option maxHeartbeats 4000000
/-- Acts, asked one by one. -/
def actsM (m : Md) (l : List Ac) : Md := l.foldl (fun m x => (m.ans x.cl x.num x.ask).m) m
theorem acts_small : ∀ (l : List Ac) {m : Md}, smallR m.rows → smallR (actsM m l).rows
  | [], _, h => h
  | _ :: l, _, h => acts_small l (Md.ans_small h _ _ _)
theorem acts_length : ∀ (l : List Ac) (m : Md), (actsM m l).rows.length ≤ m.rows.length + 16 * l.length
  | [], m => by simp [actsM]
  | x :: l, m => by
    have h1 := acts_length l (m.ans x.cl x.num x.ask).m
    have h2 := Md.ans_length m x.cl x.num x.ask
    unfold actsM at *
    rw [List.foldl_cons, List.length_cons]; omega
theorem acts_take {m : Md} {l : List Ac} {k : Nat} {c : Ac} (h : l[k]? = some c) : actsM m (l.take (k + 1)) = ((actsM m (l.take k)).ans c.cl c.num c.ask).m := by
  unfold actsM; rw [List.take_add_one, h, List.foldl_append]; rfl
/-- A reply in a box of its own. -/
def BoxE (w wr : World) (st mb : Nat) (E : Int) (Y : Bool) (L : List Rw) (err : Int) (m : Md) (p e : Value) (wx : World) : Prop :=
  ∃ (g : Nat) (a : Option Addr) (cap : Nat), p = .pointer (some ⟨g, 0, none⟩) ∧ e = .int .i64 err ∧ wr.heap.size ≤ g ∧ wx.heap[g]? = some (.cells (reH E Y (.slice a L.length cap)) 32 (0, 0)) ∧ RowIs wx 2 (.slice a L.length cap) L.length (L.flatMap rwL) ∧ Out (fun i => i < wr.heap.size) (.slice a L.length cap) ∧ StM w wx st mb m ∧ OffB (fun i => i = st ∨ i = mb) wr wx
def DoH (w0 w : World) (st mb : Nat) (E : Int) (yes : Bool) (l : List Rw) (err : Int) (m : Md) (e : Ending) (w' : World) : Prop :=
  ∃ a cap, e = .returned (.tuple #[.agg (reH E yes (.slice a l.length cap)), .int .i64 err]) ∧ RowIs w' 2 (.slice a l.length cap) l.length (l.flatMap rwL) ∧ Out (fun i => i < w.heap.size) (.slice a l.length cap) ∧ StM w0 w' st mb m ∧ OffB (fun i => i = st ∨ i = mb) w w'
theorem box_fin {w wr W : World} {st mb b : Nat} {m : Md} (hO : OffB (fun i => i = st ∨ i = mb) wr W) (hS : StM w W st mb m) (h1 : st < wr.heap.size) (h2 : mb < wr.heap.size) (h0 : w.heap.size ≤ wr.heap.size) (hb : W.heap[b]? = some (.cells zRe 32 (0, 0))) (hle : wr.heap.size ≤ b) (E : Int) (Y : Bool) (L : List Rw) (err : Int) (a : Option Addr) (cap : Nat)
    (hr : RowIs W 2 (.slice a L.length cap) L.length (L.flatMap rwL)) (ho : Out (fun i => i < wr.heap.size) (.slice a L.length cap)) :
    ∃ W', (storeCells ⟨b, 0, none⟩ (reH E Y (.slice a L.length cap)).toList).run Try.prog W = .ok () W' ∧ Ext w W' ∧ BoxE w wr st mb E Y L err m (.pointer (some ⟨b, 0, none⟩)) (.int .i64 err) W' := by
  have hof : OffB (· = b) W (W.setRow b (reH E Y (.slice a L.length cap))) := ⟨rfl, rfl, rfl, by simp, fun k _ hq => setRow_other _ _ _ _ hq⟩
  have hS' : StM w (W.setRow b (reH E Y (.slice a L.length cap))) st mb m := hS.keep hof (fun k hk => by have hk : k = b := hk; omega) (by show ¬ st = b; omega) (by show ¬ mb = b; omega) (fun k hk r hc => by
    have hk : k = b := hk
    rw [hk, hb] at hc
    injection hc with q; injection q with _ q; cases q)
  refine ⟨W.setRow b (reH E Y (.slice a L.length cap)), ?_, hS'.ground, b, a, cap, rfl, rfl, hle, by rw [setRow_heap _ _ _ _ _ _ hb], rw_off_re hr hb zRe_str hof, ho, hS', ?_⟩
  · rw [run_storeCells_from b 32 (reH E Y (.slice a L.length cap)).toList 0 zRe W hb (by rfl) (fun v hv => Array.all_eq_true_iff_forall_mem.1 (reH_one E Y a L.length cap) v (by simpa using hv))]
    rfl
  · refine OffB.past (B := fun i => (i = st ∨ i = mb) ∨ i = b) ((hO.mono fun k hk => .inl hk).trans (hof.mono fun k hk => .inr hk)) (fun k hk hB => ?_)
    rcases hB with hB | hB
    · exact hB
    · omega
theorem Out.mono {B B' : Nat → Prop} {v : Value} (h : Out B v) (hb : ∀ k, B' k → B k) : Out B' v := fun a n c hv hB => h a n c hv (hb _ hB)
theorem modelsAnew_walk (w : World) (v : Value) (o0 : ∃ n, OKC Try.prog w n 46 [v]) (v1 : Value) (o1 : ∃ n, OKC Try.prog w n 46 [v1]) :
    Calls Try.prog 6 #[v, v1] w fun e w' => e = .returned (.bool true) ∧ Ext w w' := by
  obtain ⟨l, a, cap, rfl, hg, h1, hll⟩ := okc_acts o0
  obtain ⟨r, b, cap2, rfl, hg2, h2, hrl⟩ := okc_acts o1
  have hg' := Lib.hid hg
  have h1' := Lib.hid h1
  have hg2' := Lib.hid hg2
  have h2' := Lib.hid h2
  clear o0 o1 hg h1 hg2 h2
  have hE := Ext.refl w
  go_enter Try.func6, Try.ntmps6
  go_wp2_with fail
  refine (alive_any w).mono ?_
  rintro e wa ⟨rfl, hEa⟩
  replace hE := hE.trans hEa
  clear hEa
  go_wp2_with fail
  refine (great_any wa l a cap (fun x hx => (hg'.out x hx).ext hE) hll (h1'.out.ext hE)).mono ?_
  rintro e wg ⟨rfl, hEg⟩
  replace hE := hE.trans hEg
  clear hEg
  cases hm : greatB l
  case true =>
    go_wp2_with fail
    refine (alive_end w wg hE).mono ?_
    rintro e wz ⟨rfl, hEz⟩
    go_wp2_with fail
    go_ret
    exact ⟨rfl, hEz⟩
  have hl150 := great_len hm
  have hm' := Lib.hid hm
  clear hm
  go_wp2_with fail
  refine (great_any wg r b cap2 (fun x hx => (hg2'.out x hx).ext hE) hrl (h2'.out.ext hE)).mono ?_
  rintro e w3 ⟨rfl, hE3⟩
  replace hE := hE.trans hE3
  clear hE3
  cases hm2 : greatB r
  case true =>
    go_wp2_with fail
    refine (alive_end w w3 hE).mono ?_
    rintro e wz ⟨rfl, hEz⟩
    go_wp2_with fail
    go_ret
    exact ⟨rfl, hEz⟩
  have hm2' := Lib.hid hm2
  clear hm2
  by_cases h50 : 50 < r.length
  · have h5i : (50 : Int) < (r.length : Int) := by omega
    go_wp2_with fail
    refine (alive_end w w3 hE).mono ?_
    rintro e wz ⟨rfl, hEz⟩
    go_wp2_with fail
    go_ret
    exact ⟨rfl, hEz⟩
  have h5i : ¬ (50 : Int) < (r.length : Int) := by omega
  obtain ⟨rl, hrl2⟩ : ∃ rl, rl = r.length := ⟨_, rfl⟩
  rw [← hrl2] at h50 h5i h2' hrl ⊢
  have h5d : decide ((50 : Int) < (rl : Int)) = false := decide_eq_false h5i
  have hrl' := Lib.hid hrl2
  clear hrl2
  go_wp2_with fail
  refine (done_any w3 l a cap (fun x hx => (hg'.out x hx).ext hE) (by omega) (h1'.out.ext hE)).mono ?_
  rintro e w5 ⟨st, mb, rfl, hS⟩
  obtain ⟨M, hM⟩ : ∃ M, M = doneM l := ⟨_, rfl⟩
  have hMk : smallR M.rows := by rw [hM]; exact done_small l
  have hMl : M.rows.length ≤ 2400 := by rw [hM]; have := done_length l; omega
  have hMf : fineS M.sd := by rw [hM]; exact fine_done l
  rw [← hM] at hS
  replace hS := hS.past hE
  have hMs := hS.sort
  have hMk' := Lib.hid hMk
  have hMf' := Lib.hid hMf
  have hMs' := Lib.hid hMs
  clear hM hMk hMf hMs hE
  have hrowsA : ∀ (W : World) (s m : Nat), StM w W s m M → Calls Try.prog 13 #[.pointer (some ⟨s, 0, none⟩)] W (RowsE M.rows W) := fun W s m h => rowsM_any h hMk'.out (by omega)
  have hrows' := Lib.hid hrowsA
  clear hrowsA
  obtain ⟨rn, hrn⟩ : ∃ rn, rn = M.rows.length := ⟨_, rfl⟩
  obtain ⟨sn, hsn⟩ : ∃ sn, sn = (saidL M.sd).length := ⟨_, rfl⟩
  have hrn' := Lib.hid hrn
  have hsn' := Lib.hid hsn
  clear hrn hsn
  go_wp2_with fail
  refine (hrows'.out _ _ _ hS).mono ?_
  rintro e w6 ⟨ra, rc, rfl, _, hown, hE6⟩
  rw [← hrn'.out] at hown ⊢
  replace hS := hS.ext hE6
  have hR1 := Lib.hid (RowIs.of_own hown)
  clear hown hE6
  go_wp2_with fail
  refine (st_said hS).mono ?_
  rintro e w7 ⟨sa, sc, rfl, hown, hE7⟩
  rw [← hsn'.out] at hown ⊢
  replace hS := hS.ext hE7
  have hmk := mk_said w7 M ra rc sa sc (by rw [← hrn'.out]; exact hR1.out.ext hE7) (by rw [← hsn'.out]; exact RowIs.of_own hown) (by omega) hMs'.out hMk'.out hMf'.out
  rw [← hrn'.out, ← hsn'.out] at hmk
  have hmk' := Lib.hid hmk
  clear hmk hown hR1 hE7
  go_wp2_with fail
  refine hmk'.out.mono ?_
  clear hmk'
  rintro e w8 ⟨st2, mb2, rfl, hS2⟩
  obtain ⟨n1, n2⟩ := hS.apart hS2 (Nat.le_refl _)
  have hEg := hS.ground
  replace hS := hS.ext hS2.ground
  replace hS2 := hS2.past hEg
  clear hEg
  have hlt2 := hS2.lt
  go_wp2_with fail
  refine (hrows'.out _ _ _ hS).mono ?_
  rintro e w9 ⟨pa, pc, rfl, _, hown, hE9⟩
  rw [← hrn'.out] at hown ⊢
  have hPo := Out.of_own (B := fun i => i = st2 ∨ i = mb2) hown (fun k hk => by rcases hk with rfl | rfl <;> omega)
  have hP := RowIs.of_own hown
  replace hS := hS.ext hE9
  replace hS2 := hS2.ext hE9
  have hlt9 := hS2.lt
  clear hown
  go_wp2_with fail
  refine (st_said hS).mono ?_
  rintro e w10 ⟨qa, qc, rfl, hown, hE10⟩
  rw [← hsn'.out] at hown ⊢
  have hQo := Out.of_own (B := fun i => i = st2 ∨ i = mb2) hown (fun k hk => by rcases hk with rfl | rfl <;> omega)
  have hQ := RowIs.of_own hown
  replace hP := hP.ext hE10
  replace hS := hS.ext hE10
  replace hS2 := hS2.ext hE10
  have hP' := Lib.hid hP
  have hQ' := Lib.hid hQ
  have hPo' := Lib.hid hPo
  have hQo' := Lib.hid hQo
  have hS10 := Lib.hid hS
  have hT10 := Lib.hid hS2
  clear hP hQ hPo hQo hown hE9 hE10 hS hS2
  go_wp2_with fail
  go_loopw [10] (fun i wr => ∃ k : Nat, k ≤ rl ∧ i = .int .i64 k ∧ StM w wr st2 mb2 (actsM M (r.take k)) ∧ OffB (fun i => i = st2 ∨ i = mb2) w10 wr) (fun i _ => rl - (intOf i).toNat)
  case atStart => exact ⟨0, by omega, rfl, hT10.out, OffB.refl _⟩
  case round =>
    obtain ⟨k, hk, rfl, hS, hO⟩ := hrel
    by_cases hlt : k < rl
    · have hli : (k : Int) < (rl : Int) := by omega
      obtain ⟨c, hc⟩ : ∃ c, r[k]? = some c := ⟨_, List.getElem?_eq_getElem (by rw [← hrl'.out]; exact hlt)⟩
      have hE := hS.ground
      obtain ⟨g1, g2, g3, g4, g5⟩ := (hg2'.out c (List.mem_of_getElem? hc)).ext hE
      obtain ⟨b1, off, hat⟩ := (h2'.out.ext hE).at
      obtain ⟨rfl, _, hd⟩ := hat (by omega)
      have hrg := act_range (by rw [← hrl'.out]; exact hd) hc
      have hra := act_ask hrg
      obtain ⟨y0, y1, y2⟩ := act_cells hrg
      have htk := Lib.hid (acts_take (m := M) hc)
      have hbd : (actsM M (r.take k)).rows.length ≤ 50000 := by have := acts_length (r.take k) M; rw [List.length_take] at this; omega
      have hcall := do_all (m := actsM M (r.take k)) (hS.ext (Ext.refl wr).drew) (acts_small _ hMk'.out) hbd c.cl c.num c.ask c.ad c.cap (ChsAt.ext g4 (Ext.refl wr).drew) g5
      have hcall' := Lib.hid hcall
      clear hd hat hc hcall g4 g5
      have z0 := hra 0 _ rfl
      have z1 := hra 1 _ rfl
      have z2 := hra 2 _ rfl
      have z3 := hra 3 _ rfl
      have z4 := hra 4 _ rfl
      have z5 := hra 5 _ rfl
      have z6 := hra 6 _ rfl
      have z7 := hra 7 _ rfl
      rw [Nat.add_zero] at z0
      unfold Ac.av at z7
      unfold Ak.row at hcall'
      clear hrg hra y0
      go_upto_region 12 with fail
      go_still_tail 16, (by kernel_rfl)
      change wpList _ _ _ _ _ wr.drew
      clear y1 y2 z0 z1 z2 z3 z4 z5 z6 z7 hS
      go_wp2_with fail
      refine hcall'.out.mono ?_
      rintro e w12 ⟨da, dc, rfl, _, _, hS2, hO2⟩
      have hfin : StM w w12 st2 mb2 (actsM M (r.take (k + 1))) := by rw [htk.out]; exact hS2
      have hfin' := Lib.hid hfin
      have hOf := Lib.hid ((hO.trans (.of_ext (Ext.refl wr).drew)).trans hO2)
      clear hfin hS2 hcall' hO hO2
      go_wp2_with fail
      go_roundw
      case rel => exact ⟨k + 1, by omega, by go_num, hfin'.out, hOf.out⟩
      case measure => simp [intOf]; omega
    · have hli : ¬ (k : Int) < (rl : Int) := by omega
      have hkl : r.take k = r := List.take_of_length_le (by rw [← hrl'.out]; omega)
      rw [hkl] at hS
      clear hkl
      have hS1 := hS10.out.off hT10.out n1 n2 hO
      have hP2 := hP'.out.off hPo'.out hO
      have hQ2 := hQ'.out.off hQo'.out hO
      have hT' := Lib.hid hS
      have hP3 := Lib.hid hP2
      have hQ3 := Lib.hid hQ2
      clear hS hO hP2 hQ2 hP' hQ' hPo' hQo' hS10 hT10
      go_wp2_with fail
      refine (hrows'.out _ _ _ hS1).mono ?_
      rintro e w11 ⟨ua, uc, rfl, _, hown, hE11⟩
      have hq := srows_any w11 M.rows M.rows ua pa uc pc (RowIs.of_own hown) (by rw [← hrn'.out]; exact hP3.out.ext hE11)
      rw [decide_eq_true rfl, ← hrn'.out] at hq
      rw [← hrn'.out]
      have hq' := Lib.hid hq
      replace hS1 := hS1.ext hE11
      have hT2 := Lib.hid (hT'.out.ext hE11)
      have hP4 := Lib.hid (hP3.out.ext hE11)
      have hQ4 := Lib.hid (hQ3.out.ext hE11)
      clear hq hown hE11 hT' hP3 hQ3
      go_wp2_with fail
      refine hq'.out.mono ?_
      rintro e w12 ⟨rfl, hE12⟩
      replace hS1 := hS1.ext hE12
      have hT3 := Lib.hid (hT2.out.ext hE12)
      have hP5 := Lib.hid (hP4.out.ext hE12)
      have hQ5 := Lib.hid (hQ4.out.ext hE12)
      clear hE12 hT2 hP4 hQ4 hq'
      go_wp2_with fail
      refine (st_said hS1).mono ?_
      rintro e w13 ⟨va, vc, rfl, hown, hE13⟩
      have hq := ssaids_any w13 (saidL M.sd) (saidL M.sd) va qa vc qc (RowIs.of_own hown) (by rw [← hsn'.out]; exact hQ5.out.ext hE13)
      rw [decide_eq_true rfl, ← hsn'.out] at hq
      rw [← hsn'.out]
      have hq' := Lib.hid hq
      replace hS1 := hS1.ext hE13
      have hT4 := Lib.hid (hT3.out.ext hE13)
      have hP6 := Lib.hid (hP5.out.ext hE13)
      have hQ6 := Lib.hid (hQ5.out.ext hE13)
      clear hq hown hE13 hT3 hP5 hQ5
      go_wp2_with fail
      refine hq'.out.mono ?_
      rintro e w14 ⟨rfl, hE14⟩
      replace hS1 := hS1.ext hE14
      have hT5 := Lib.hid (hT4.out.ext hE14)
      have hmk := mk_said w14 M pa pc qa qc (by rw [← hrn'.out]; exact hP6.out.ext hE14) (by rw [← hsn'.out]; exact hQ6.out.ext hE14) (by omega) hMs'.out hMk'.out hMf'.out
      rw [← hrn'.out, ← hsn'.out] at hmk
      have hmk' := Lib.hid hmk
      clear hmk hE14 hT4 hP6 hQ6 hq'
      go_wp2_with fail
      refine hmk'.out.mono ?_
      clear hmk'
      rintro e w15 ⟨st3, mb3, rfl, hU⟩
      obtain ⟨n3, n4⟩ := hS1.apart hU (Nat.le_refl _)
      obtain ⟨n5, n6⟩ := hT5.out.apart hU (Nat.le_refl _)
      have hT6 := Lib.hid (hT5.out.ext hU.ground)
      have hEg := hS1.ground
      replace hS1 := hS1.ext hU.ground
      replace hU := hU.past hEg
      have hS1' := Lib.hid hS1
      have hU' := Lib.hid hU
      clear hS1 hU hEg hT5
      go_wp2_with fail
      go_loopw [12] (fun i wy => ∃ k : Nat, k ≤ rl ∧ i = .int .i64 k ∧ StM w wy st mb (actsM M (r.take k)) ∧ StM w wy st3 mb3 (actsM M (r.take k)) ∧ StM w wy st2 mb2 (actsM M r)) (fun i _ => rl - (intOf i).toNat)
      case atStart => exact ⟨0, by omega, rfl, hS1'.out, hU'.out, hT6.out⟩
      case round =>
        clear hS1' hU' hT6 hk hlt hli
        obtain ⟨k, hk, rfl, hS, hU, hT⟩ := hrel
        by_cases hlt : k < rl
        · have hli : (k : Int) < (rl : Int) := by omega
          obtain ⟨c, hc⟩ : ∃ c, r[k]? = some c := ⟨_, List.getElem?_eq_getElem (by rw [← hrl'.out]; exact hlt)⟩
          have hEw := hS.ground
          have hws := hEw.size
          have hgc := hg2'.out c (List.mem_of_getElem? hc)
          obtain ⟨b1, off, hat⟩ := (h2'.out).at
          obtain ⟨rfl, _, hd⟩ := hat (by omega)
          have hrg := act_range (by rw [← hrl'.out]; exact hd) hc
          have hra := act_ask hrg
          obtain ⟨_, y1, y2⟩ := act_cells hrg
          have z0 := hra 0 _ rfl
          have z1 := hra 1 _ rfl
          have z2 := hra 2 _ rfl
          have z3 := hra 3 _ rfl
          have z4 := hra 4 _ rfl
          have z5 := hra 5 _ rfl
          have z6 := hra 6 _ rfl
          have z7 := hra 7 _ rfl
          rw [Nat.add_zero] at z0
          unfold Ac.av at z7
          have hSS : ∀ w', Ext w w' → Ext w w' ∧ w'.cell? ⟨b1, off + k * 11 + 1, none⟩ = some (.int .u8 (c.cl : Int)) ∧ w'.cell? ⟨b1, off + k * 11 + 2, none⟩ = some (.int .u32 (c.num : Int)) ∧ w'.cell? ⟨b1, off + k * 11 + 3, none⟩ = some (.int .u8 c.ask.kind) ∧ w'.cell? ⟨b1, off + k * 11 + 3 + 1, none⟩ = some (.string c.ask.key) ∧ w'.cell? ⟨b1, off + k * 11 + 3 + 2, none⟩ = some (.string c.ask.val) ∧ w'.cell? ⟨b1, off + k * 11 + 3 + 3, none⟩ = some (.string c.ask.old) ∧ w'.cell? ⟨b1, off + k * 11 + 3 + 4, none⟩ = some (.bool c.ask.new) ∧ w'.cell? ⟨b1, off + k * 11 + 3 + 5, none⟩ = some (.string c.ask.to) ∧ w'.cell? ⟨b1, off + k * 11 + 3 + 6, none⟩ = some (.int .i64 c.ask.many) ∧ w'.cell? ⟨b1, off + k * 11 + 3 + 7, none⟩ = some (.slice c.ad c.ask.chs.length c.cap) := fun w' he => ⟨he, he.cell y1, he.cell y2, he.cell z0, he.cell z1, he.cell z2, he.cell z3, he.cell z4, he.cell z5, he.cell z6, he.cell z7⟩
          have hSS' := Lib.hid hSS
          have htk := Lib.hid (acts_take (m := M) hc)
          have hbd : (actsM M (r.take k)).rows.length ≤ 50000 := by have := acts_length (r.take k) M; rw [List.length_take] at this; omega
          have hsmk : smallR (actsM M (r.take k)).rows := acts_small _ hMk'.out
          have hdoW : ∀ (W : World) (s m : Nat), Ext w W → StM w W s m (actsM M (r.take k)) → Calls Try.prog 12 #[.pointer (some ⟨s, 0, none⟩), .int .u8 (c.cl : Int), .int .u32 (c.num : Int), .agg (c.ask.row (.slice c.ad c.ask.chs.length c.cap))] W (AnE w W s m ((actsM M (r.take k)).ans c.cl c.num c.ask)) := fun W s m he h => do_all h hsmk hbd c.cl c.num c.ask c.ad c.cap (hgc.2.2.2.1.ext he) hgc.2.2.2.2
          obtain ⟨⟨E, Y, L, err, m'⟩, hans⟩ : ∃ r' : An, r' = (actsM M (r.take k)).ans c.cl c.num c.ask := ⟨_, rfl⟩
          rw [← hans] at htk hdoW
          simp only at htk
          unfold Ak.row at hdoW
          have hdoW' := Lib.hid (show ∀ (W : World) (s m : Nat), Ext w W → StM w W s m (actsM M (r.take k)) → Calls Try.prog 12 _ W (DoH w W s m E Y L err m') from fun W s m he h => hdoW W s m he h)
          clear hat hd hc hrg hra hgc y1 y2 z0 z1 z2 z3 z4 z5 z6 z7 hSS hdoW hans hsmk hbd
          have hlt0 := hlt
          have hlt := hS.lt
          have hc0 := hdoW'.out wr.drew st mb (hEw.trans (Ext.refl wr).drew) (hS.ext (Ext.refl wr).drew)
          have hc1 := hdoW'.out (wr.alloc (.cells #[.int .i64 0, .bool false, .slice none 0 0] 32)).drew st mb (hEw.trans ((Ext.refl wr).alloc (.cells #[.int .i64 0, .bool false, .slice none 0 0] 32)).drew) (hS.ext ((Ext.refl wr).alloc (.cells #[.int .i64 0, .bool false, .slice none 0 0] 32)).drew)
          have hc0' := Lib.hid hc0
          have hc1' := Lib.hid hc1
          have hZs : wr.heap.size ≤ (wr.alloc (.cells #[.int .i64 0, .bool false, .slice none 0 0] 32)).drew.heap.size := ((Ext.refl wr).alloc (.cells #[.int .i64 0, .bool false, .slice none 0 0] 32)).drew.size
          have hnw : ¬ (wr.heap.size = st ∨ wr.heap.size = mb) := by omega
          have hS' := Lib.hid hS
          have hU' := Lib.hid hU
          have hT' := Lib.hid hT
          obtain ⟨ln, hln⟩ : ∃ ln, ln = L.length := ⟨_, rfl⟩
          have hln' := Lib.hid hln
          clear hc0 hc1 hS hU hT hln
          go_upto_region 21 with fail
          go_cut [13, 14] from 92 to 146 (fun p e wx => BoxE w wr st mb E Y L err m' p e wx)
          case first =>
            go_region_held3 (fun w' => Ext w w' ∧ w'.cell? ⟨b1, off + k * 11 + 1, none⟩ = some (.int .u8 (c.cl : Int)) ∧ w'.cell? ⟨b1, off + k * 11 + 2, none⟩ = some (.int .u32 (c.num : Int)) ∧ w'.cell? ⟨b1, off + k * 11 + 3, none⟩ = some (.int .u8 c.ask.kind) ∧ w'.cell? ⟨b1, off + k * 11 + 3 + 1, none⟩ = some (.string c.ask.key) ∧ w'.cell? ⟨b1, off + k * 11 + 3 + 2, none⟩ = some (.string c.ask.val) ∧ w'.cell? ⟨b1, off + k * 11 + 3 + 3, none⟩ = some (.string c.ask.old) ∧ w'.cell? ⟨b1, off + k * 11 + 3 + 4, none⟩ = some (.bool c.ask.new) ∧ w'.cell? ⟨b1, off + k * 11 + 3 + 5, none⟩ = some (.string c.ask.to) ∧ w'.cell? ⟨b1, off + k * 11 + 3 + 6, none⟩ = some (.int .i64 c.ask.many) ∧ w'.cell? ⟨b1, off + k * 11 + 3 + 7, none⟩ = some (.slice c.ad c.ask.chs.length c.cap)) ((refine hSS'.out _ ?_; first | exact hEw.trans (Ext.refl wr).drew | exact hEw.trans ((Ext.refl wr).alloc _).drew | assumption | exact hEq.alloc _)) (first | (go_at_call 12; (first | (with_reducible refine hc0'.out.mono ?_) | (with_reducible refine hc1'.out.mono ?_)); rintro e w3 ⟨da, dc, rfl, hrow, hout, hS3, hO3⟩; have hEq := hS3.ground) | (obtain ⟨W', e1, hE', hBox⟩ := box_fin (wr := wr) (((OffB.of_ext (Ext.refl wr).drew).trans hO3).trans (.of_ext ((Ext.refl w3).alloc (.cells zRe 32)))) (hS3.ext ((Ext.refl w3).alloc (.cells zRe 32))) hlt.1 hlt.2 hws (heap_alloc_new w3 (.cells zRe 32)) (show wr.heap.size ≤ w3.heap.size from hO3.size) E Y L err da dc (hrow.ext ((Ext.refl w3).alloc (.cells zRe 32))) hout; rw [show (#[.int .i64 0, .bool false, .slice none 0 0] : Array Value) = zRe from rfl, e1]; go_simp) | (obtain ⟨W', e1, hE', hBox⟩ := box_fin (wr := wr) ((OffB.of_ext ((Ext.refl wr).alloc (.cells #[.int .i64 0, .bool false, .slice none 0 0] 32)).drew).trans hO3) hS3 hlt.1 hlt.2 hws (hO3.row ((Ext.refl _).drew.row (heap_alloc_new wr (.cells zRe 32))) hnw) (Nat.le_refl _) E Y L err da dc hrow (hout.mono fun q hq => Nat.lt_of_lt_of_le (show q < wr.heap.size from hq) hZs); rw [e1]; go_simp) | fail)
            all_goals go_wp2_with fail
            all_goals go_meet
            all_goals exact hBox
          case rest =>
          obtain ⟨gA, aA, cA, rfl, rfl, hgA, hbA, hrA, hoA, hSn, hOA⟩ := hcut
          rename World => wb
          have hUb := hU'.out.off hS'.out n3.symm n4.symm hOA
          have hTb := hT'.out.off hS'.out n1.symm n2.symm hOA
          have hu0 := hU'.out.lt
          clear hEw hws hc0' hc1' hZs hnw hlt hS' hU' hT' hOA
          have hEw := hSn.ground
          have hws := hEw.size
          have hlt := hUb.lt
          have hc0 := hdoW'.out wb.drew st3 mb3 (hEw.trans (Ext.refl wb).drew) (hUb.ext (Ext.refl wb).drew)
          have hc1 := hdoW'.out (wb.alloc (.cells #[.int .i64 0, .bool false, .slice none 0 0] 32)).drew st3 mb3 (hEw.trans ((Ext.refl wb).alloc (.cells #[.int .i64 0, .bool false, .slice none 0 0] 32)).drew) (hUb.ext ((Ext.refl wb).alloc (.cells #[.int .i64 0, .bool false, .slice none 0 0] 32)).drew)
          have hc0' := Lib.hid hc0
          have hc1' := Lib.hid hc1
          have hZs : wb.heap.size ≤ (wb.alloc (.cells #[.int .i64 0, .bool false, .slice none 0 0] 32)).drew.heap.size := ((Ext.refl wb).alloc (.cells #[.int .i64 0, .bool false, .slice none 0 0] 32)).drew.size
          have hnw : ¬ (wb.heap.size = st3 ∨ wb.heap.size = mb3) := by omega
          have hbA' := Lib.hid hbA
          have hrA' := Lib.hid hrA
          have hoA' := Lib.hid hoA
          have hSb' := Lib.hid hSn
          have hUb' := Lib.hid hUb
          have hTb' := Lib.hid hTb
          clear hc0 hc1 hbA hrA hoA hSn hUb hTb
          go_upto_region 22 with fail
          go_cut [15, 16] from 92 to 146 (fun p e wx => BoxE w wb st3 mb3 E Y L err m' p e wx)
          case first =>
            go_region_held3 (fun w' => Ext w w' ∧ w'.cell? ⟨b1, off + k * 11 + 1, none⟩ = some (.int .u8 (c.cl : Int)) ∧ w'.cell? ⟨b1, off + k * 11 + 2, none⟩ = some (.int .u32 (c.num : Int)) ∧ w'.cell? ⟨b1, off + k * 11 + 3, none⟩ = some (.int .u8 c.ask.kind) ∧ w'.cell? ⟨b1, off + k * 11 + 3 + 1, none⟩ = some (.string c.ask.key) ∧ w'.cell? ⟨b1, off + k * 11 + 3 + 2, none⟩ = some (.string c.ask.val) ∧ w'.cell? ⟨b1, off + k * 11 + 3 + 3, none⟩ = some (.string c.ask.old) ∧ w'.cell? ⟨b1, off + k * 11 + 3 + 4, none⟩ = some (.bool c.ask.new) ∧ w'.cell? ⟨b1, off + k * 11 + 3 + 5, none⟩ = some (.string c.ask.to) ∧ w'.cell? ⟨b1, off + k * 11 + 3 + 6, none⟩ = some (.int .i64 c.ask.many) ∧ w'.cell? ⟨b1, off + k * 11 + 3 + 7, none⟩ = some (.slice c.ad c.ask.chs.length c.cap)) ((refine hSS'.out _ ?_; first | exact hEw.trans (Ext.refl wb).drew | exact hEw.trans ((Ext.refl wb).alloc _).drew | assumption | exact hEq.alloc _)) (first | (go_at_call 12; (first | (with_reducible refine hc0'.out.mono ?_) | (with_reducible refine hc1'.out.mono ?_)); rintro e w3 ⟨da, dc, rfl, hrow, hout, hS3, hO3⟩; have hEq := hS3.ground) | (obtain ⟨W', e1, hE', hBox⟩ := box_fin (wr := wb) (((OffB.of_ext (Ext.refl wb).drew).trans hO3).trans (.of_ext ((Ext.refl w3).alloc (.cells zRe 32)))) (hS3.ext ((Ext.refl w3).alloc (.cells zRe 32))) hlt.1 hlt.2 hws (heap_alloc_new w3 (.cells zRe 32)) (show wb.heap.size ≤ w3.heap.size from hO3.size) E Y L err da dc (hrow.ext ((Ext.refl w3).alloc (.cells zRe 32))) hout; rw [show (#[.int .i64 0, .bool false, .slice none 0 0] : Array Value) = zRe from rfl, e1]; go_simp) | (obtain ⟨W', e1, hE', hBox⟩ := box_fin (wr := wb) ((OffB.of_ext ((Ext.refl wb).alloc (.cells #[.int .i64 0, .bool false, .slice none 0 0] 32)).drew).trans hO3) hS3 hlt.1 hlt.2 hws (hO3.row ((Ext.refl _).drew.row (heap_alloc_new wb (.cells zRe 32))) hnw) (Nat.le_refl _) E Y L err da dc hrow (hout.mono fun q hq => Nat.lt_of_lt_of_le (show q < wb.heap.size from hq) hZs); rw [e1]; go_simp) | fail)
            all_goals go_wp2_with fail
            all_goals go_meet
            all_goals exact hBox
          case rest =>
          obtain ⟨gB, aB, cB, rfl, rfl, hgB, hbB, hrB, hoB, hUn, hOB⟩ := hcut
          have hSf := hSb'.out.off hUb'.out n3 n4 hOB
          have hTf := hTb'.out.off hUb'.out n5 n6 hOB
          have hbA := hOB.row hbA'.out (by omega)
          have hrA := hrA'.out.off (hoA'.out.mono fun q hq => by rcases hq with rfl | rfl <;> omega) hOB
          have hq := sreply_any wc E E Y Y L L aA aB cA cB hrA hrB
          rw [decide_eq_true ⟨rfl, rfl, rfl⟩] at hq
          have hq' := Lib.hid hq
          obtain ⟨x0, x1, x2⟩ := re_cells hbA
          obtain ⟨v0, v1, v2⟩ := re_cells hbB
          have hSf' := Lib.hid hSf
          have hUf' := Lib.hid hUn
          have hTf' := Lib.hid hTf
          clear hq hbA hrA hbB hrB hoB hSf hUn hTf hOB hc0' hc1' hZs hnw hbA' hrA' hoA' hSb' hUb' hTb' hSS' hdoW' hEw hws hlt
          rw [← hln'.out] at hq' x2 v2
          go_wp2_with fail
          refine hq'.out.mono ?_
          rintro e wf ⟨rfl, hEf⟩
          have hfin := Lib.hid (And.intro (hSf'.out.ext hEf) (And.intro (hUf'.out.ext hEf) (hTf'.out.ext hEf)))
          clear x0 x1 x2 v0 v1 v2 hq' hSf' hUf' hTf' hEf
          go_wp2_with fail
          go_roundw
          case rel => exact ⟨k + 1, by omega, by go_num, by rw [htk.out]; exact hfin.out.1, by rw [htk.out]; exact hfin.out.2.1, hfin.out.2.2⟩
          case measure => simp [intOf]; omega
        · have hli : ¬ (k : Int) < (rl : Int) := by omega
          have hkl : r.take k = r := List.take_of_length_le (by rw [← hrl'.out]; omega)
          rw [hkl] at hS hU
          clear hkl
          have hM2k : smallR (actsM M r).rows := acts_small r hMk'.out
          have hM2l : (actsM M r).rows.length ≤ 50000 := by have := acts_length r M; have := hrl'.out; omega
          generalize actsM M r = M2 at *
          have hrA : ∀ (W : World) (s m : Nat), StM w W s m M2 → Calls Try.prog 13 #[.pointer (some ⟨s, 0, none⟩)] W (RowsE M2.rows W) := fun W s m h => rowsM_any h hM2k hM2l
          have hrA' := Lib.hid hrA
          have hU' := Lib.hid hU
          have hT' := Lib.hid hT
          clear hrA hM2k hU hT
          go_wp2_with fail
          refine (hrA'.out _ _ _ hS).mono ?_
          rintro e v1 ⟨a1, c1, rfl, _, hown, hE1⟩
          replace hS := hS.ext hE1
          have hR1 := Lib.hid (RowIs.of_own hown)
          have hU1 := Lib.hid (hU'.out.ext hE1)
          have hT1 := Lib.hid (hT'.out.ext hE1)
          clear hown hE1 hU' hT'
          go_wp2_with fail
          refine (hrA'.out _ _ _ hU1.out).mono ?_
          rintro e v2 ⟨a2, c2, rfl, _, hown, hE2⟩
          replace hS := hS.ext hE2
          have hq := srows_any v2 M2.rows M2.rows a1 a2 c1 c2 (hR1.out.ext hE2) (RowIs.of_own hown)
          rw [decide_eq_true rfl] at hq
          have hq' := Lib.hid hq
          have hT2 := Lib.hid (hT1.out.ext hE2)
          clear hown hE2 hq hR1 hU1 hT1
          go_wp2_with fail
          refine hq'.out.mono ?_
          rintro e v3 ⟨rfl, hE3⟩
          replace hS := hS.ext hE3
          have hT3 := Lib.hid (hT2.out.ext hE3)
          clear hE3 hq' hT2
          go_wp2_with fail
          refine (hrA'.out _ _ _ hS).mono ?_
          rintro e v4 ⟨a4, c4, rfl, _, hown, hE4⟩
          replace hS := hS.ext hE4
          have hR4 := Lib.hid (RowIs.of_own hown)
          have hT4 := Lib.hid (hT3.out.ext hE4)
          clear hown hE4 hT3
          go_wp2_with fail
          refine (hrA'.out _ _ _ hT4.out).mono ?_
          rintro e v5 ⟨a5, c5, rfl, _, hown, hE5⟩
          replace hS := hS.ext hE5
          have hq := srows_any v5 M2.rows M2.rows a4 a5 c4 c5 (hR4.out.ext hE5) (RowIs.of_own hown)
          rw [decide_eq_true rfl] at hq
          have hq' := Lib.hid hq
          have hT5 := Lib.hid (hT4.out.ext hE5)
          clear hown hE5 hq hR4 hT4
          go_wp2_with fail
          refine hq'.out.mono ?_
          rintro e v6 ⟨rfl, hE6⟩
          replace hS := hS.ext hE6
          have hT6 := Lib.hid (hT5.out.ext hE6)
          clear hE6 hq' hT5
          go_wp2_with fail
          refine (st_said hS).mono ?_
          rintro e v7 ⟨a7, c7, rfl, hown, hE7⟩
          have hR7 := Lib.hid (RowIs.of_own hown)
          have hEs := hS.ground.trans hE7
          have hT7 := Lib.hid (hT6.out.ext hE7)
          clear hown hE7 hT6 hS
          go_wp2_with fail
          refine (st_said hT7.out).mono ?_
          rintro e v8 ⟨a8, c8, rfl, hown, hE8⟩
          have hq := ssaids_any v8 (saidL M2.sd) (saidL M2.sd) a7 a8 c7 c8 (hR7.out.ext hE8) (RowIs.of_own hown)
          rw [decide_eq_true rfl] at hq
          have hq' := Lib.hid hq
          clear hown hq hR7 hT7
          go_wp2_with fail
          refine hq'.out.mono ?_
          rintro e v9 ⟨rfl, hE9⟩
          go_wp2_with fail
          go_ret
          exact ⟨rfl, hEs.trans (hE8.trans hE9)⟩
end Go.Proofs.Ytmjoaiepfipmaaa
