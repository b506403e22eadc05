/- The law ModelsOnce. (Printed by wip/tools/glaw.py.) No condition. -/
import Derived.Test.YtmjoaiepfipmaaaLMA
import Derived.Test.YtmjoaiepfipmaaaMod22
import Derived.Deep.RegionHeld3
import Derived.Deep.CutRange
import Derived.StillTailTactics
namespace Go.Proofs.Ytmjoaiepfipmaaa
open Go.RowKit
set_option maxRecDepth 100000
set_option maxHeartbeats 4000000
def numS (sd : List Sv) : Prop := ∀ s ∈ sd, s.num < 4294967296
theorem num_ans {m : Md} (h : numS m.sd) (c n : Nat) (x : Ak) (hn : n < 4294967296) : numS (m.ans c n x).m.sd := by
  unfold Md.ans
  split
  · exact h
  · split
    · exact h
    · split
      · exact h
      · unfold Md.act
        simp only
        split
        · intro s hs
          rcases List.mem_or_eq_of_mem_set hs with h1 | h1
          · exact h s h1
          · rw [h1]; exact hn
        · exact h
theorem num_step {m : Md} (h : numS m.sd) (x : Ac) (hx : x.num < 4294967296) : numS (stepA m x).sd := by
  unfold stepA; split
  · exact num_ans h _ _ _ hx
  · exact h
theorem num_steps : ∀ (l : List Ac) {m : Md}, (∀ x ∈ l, x.num < 4294967296) → numS m.sd → numS (l.foldl stepA m).sd
  | [], _, _, h => h
  | x :: l, _, hl, h => num_steps l (fun z hz => hl z (List.mem_cons_of_mem _ hz)) (num_step h x (hl x (List.mem_cons_self ..)))
theorem num_done (l : List Ac) (hl : ∀ x ∈ l, x.num < 4294967296) : numS (doneM l).sd := num_steps l hl (fun s hs => by
  obtain ⟨_, rfl⟩ := List.mem_replicate.1 (show s ∈ List.replicate 9 (⟨0, 0, false⟩ : Sv) from hs)
  decide)
/-- The next number of a client, by what is told. -/
def numF (c : Nat) (q : List (Sv × Nat)) : Nat := q.foldl (fun acc p => if p.2 = c then (p.1.num + 1) % 4294967296 else acc) 1
theorem numF_add (c : Nat) {q : List (Sv × Nat)} {k : Nat} {p : Sv × Nat} (h : q[k]? = some p) : numF c (q.take (k + 1)) = if p.2 = c then (p.1.num + 1) % 4294967296 else numF c (q.take k) := by
  unfold numF; rw [List.take_add_one, h, List.foldl_append]; rfl
theorem fold_none (c : Nat) : ∀ (q : List (Sv × Nat)) (n : Nat), (∀ p ∈ q, p.2 ≠ c) → q.foldl (fun acc p => if p.2 = c then (p.1.num + 1) % 4294967296 else acc) n = n
  | [], _, _ => rfl
  | p :: q, n, h => by
    rw [List.foldl_cons, if_neg (h p (List.mem_cons_self ..)), fold_none c q n (fun r hr => h r (List.mem_cons_of_mem _ hr))]
theorem fold_one (c : Nat) : ∀ (q : List (Sv × Nat)) (n : Nat) (p : Sv × Nat), p ∈ q → p.2 = c → (q.map Prod.snd).Nodup → q.foldl (fun acc p => if p.2 = c then (p.1.num + 1) % 4294967296 else acc) n = (p.1.num + 1) % 4294967296
  | [], _, _, h, _, _ => by cases h
  | x :: q, n, p, h, hc, hn => by
    rw [List.map_cons, List.nodup_cons] at hn
    rw [List.foldl_cons]
    rcases List.mem_cons.1 h with rfl | h
    · rw [if_pos hc, fold_none c q _ (fun r hr he => hn.1 (by rw [hc, ← he]; exact List.mem_map_of_mem hr))]
    · exact fold_one c q _ p h hc hn.2
theorem numF_said {m : Md} (h : fineS m.sd) (c : Nat) (hc : c ≤ 8) : numF c (saidL m.sd) = (m.num c + 1) % 4294967296 := by
  obtain ⟨s, hs⟩ : ∃ s, m.sd[c]? = some s := ⟨_, List.getElem?_eq_getElem (by rw [h.1]; omega)⟩
  rw [Md.num_at hs]
  unfold numF
  by_cases h0 : 0 < s.num
  · exact fold_one c (saidL m.sd) 1 (s, c) (said_mem.2 ⟨hs, h0⟩) rfl (said_nodup _)
  · rw [fold_none c _ _ (fun p hp he => ?_), show s.num = 0 by omega]
    obtain ⟨a, b⟩ := p
    have h1 := said_mem.1 hp
    simp only at he
    rw [he, hs] at h1
    have e := h1.1
    injection e with e
    rw [← e] at h1
    exact h0 h1.2
theorem Out.mono {B B' : Nat → Prop} {v : Value} (h : Out B v) (hb : ∀ k, B' k → B k) : Out B' v := fun a n c hv hB => h a n c hv (hb _ hB)
theorem modelsOnce_walk (w : World) (v : Value) (o0 : ∃ n, OKC Try.prog w n 46 [v]) (xc : Array Value) (o1 : ∃ n, OKC Try.prog w n 48 xc.toList) (oc : Array Value) (o2 : ∃ n, OKC Try.prog w n 26 oc.toList) :
    Calls Try.prog 4 #[v, .agg xc, .agg oc] w fun e w' => e = .returned (.bool true) ∧ Ext w w' := by
  obtain ⟨l, a, cap, rfl, hg, h1, hll⟩ := okc_acts o0
  obtain ⟨n1, o1⟩ := o1
  obtain ⟨X, hac, hXg⟩ := okc_act o1
  obtain rfl : xc = X.cells.toArray := by rw [← Array.toList_inj]; simpa using hac
  obtain ⟨n2, o2⟩ := o2
  obtain ⟨y, ca, cc, hoc, hC, hs⟩ := okc_ask o2
  obtain rfl : oc = y.row (.slice ca y.chs.length cc) := by rw [← Array.toList_inj]; exact hoc
  have hg' := Lib.hid hg
  have h1' := Lib.hid h1
  have hC' := Lib.hid hC
  obtain ⟨_, hXc, hXn, hXC, hXs⟩ := hXg
  have hXC' := Lib.hid hXC
  clear o0 o1 o2 hg h1 hC hac hoc hXC
  have hB := heap_alloc_new w (.cells X.cells.toArray 48)
  have hE := (Ext.refl w).alloc (.cells X.cells.toArray 48)
  have hB2 := heap_alloc_new (w.alloc (.cells X.cells.toArray 48)) (.cells (y.row (.slice ca y.chs.length cc)) 26)
  have hE2 := (Ext.refl (w.alloc (.cells X.cells.toArray 48))).alloc (.cells (y.row (.slice ca y.chs.length cc)) 26)
  replace hE := hE.trans hE2
  replace hB := hE2.row hB
  rw [show (w.alloc (.cells X.cells.toArray 48)).heap.size = w.heap.size + 1 by simp] at hB2
  clear hE2
  unfold Ak.row at hB2
  simp only [Ac.cells, Ac.av, Ak.row] at hB hE hB2
  unfold Ak.row
  simp only [Ac.cells, Ac.av, Ak.row]
  go_enter Try.func4, Try.ntmps4
  go_upto_region 1 with fail
  simp only [List.cons_append, List.nil_append] at hB hE hB2
  generalize (w.alloc _).alloc _ = W at *
  have hgW : w.heap.size + 1 < W.heap.size := (Array.getElem?_eq_some_iff.1 hB2).1
  generalize w.heap.size = g at *
  have hXr : ∀ w', Ext W w' → w'.rangeAt g 3 (X.ask.row (.slice X.ad X.ask.chs.length X.cap)).toList := fun w' he j v hv => by
    have hj : j < 8 := (List.getElem?_eq_some_iff.1 hv).1
    rw [cell_of_row _ _ _ _ 48 (0, 0) (he.row hB), ← hv]
    obtain rfl | rfl | rfl | rfl | rfl | rfl | rfl | rfl : j = 0 ∨ j = 1 ∨ j = 2 ∨ j = 3 ∨ j = 4 ∨ j = 5 ∨ j = 6 ∨ j = 7 := by omega
    all_goals rfl
  have hXcl : ∀ w', Ext W w' → w'.cell? ⟨g, 1, none⟩ = some (.int .u8 (X.cl : Int)) := fun w' he => by rw [cell_of_row _ _ _ _ 48 (0, 0) (he.row hB)]; rfl
  have hYr : ∀ w', Ext W w' → w'.rangeAt (g + 1) 0 (y.row (.slice ca y.chs.length cc)).toList := fun w' he => ask_rng (x := y) (v := .slice ca y.chs.length cc) (he.row hB2)
  have hXr' := Lib.hid hXr
  have hXcl' := Lib.hid hXcl
  have hYr' := Lib.hid hYr
  have hsz1 := Ak.sz_le hXs hXC'.out.2.2 (by have := hXC'.out.2.1; omega)
  have hsz2 := Ak.sz_le hs hC'.out.2.2 (by have := hC'.out.2.1; omega)
  obtain ⟨S1, hS1⟩ : ∃ S, S = X.ask.sz := ⟨_, rfl⟩
  obtain ⟨S2, hS2⟩ : ∃ S, S = y.sz := ⟨_, rfl⟩
  rw [← hS1] at hsz1
  rw [← hS2] at hsz2
  obtain ⟨B1, hB1⟩ : ∃ B, B = X.ask.okB := ⟨_, rfl⟩
  obtain ⟨B2', hB2e⟩ : ∃ B, B = y.okB := ⟨_, rfl⟩
  obtain ⟨G, hG⟩ : ∃ B, B = greatB l := ⟨_, rfl⟩
  have kAl : ∀ w', Ext W w' → Calls Try.prog 16 #[] w' fun e w'' => e = .returned (.bool true) ∧ Ext w' w'' := fun w' _ => alive_any w'
  have kGr : ∀ w', Ext W w' → Calls Try.prog 17 #[.slice a l.length cap] w' fun e w'' => e = .returned (.bool G) ∧ Ext w' w'' := fun w' he => by rw [hG]; exact great_any w' l a cap (fun x hx => (hg'.out x hx).ext (hE.trans he)) hll (h1'.out.ext (hE.trans he))
  have kA1 : ∀ w', Ext W w' → Calls Try.prog 18 #[.agg (X.ask.row (.slice X.ad X.ask.chs.length X.cap))] w' fun e w'' => e = .returned (.int .i64 (S1 : Nat)) ∧ Ext w' w'' := fun w' he => by rw [hS1]; exact asize_any w' X.ask X.ad X.cap (hXC'.out.ext (hE.trans he)) hXs
  have kA2 : ∀ w', Ext W w' → Calls Try.prog 18 #[.agg (y.row (.slice ca y.chs.length cc))] w' fun e w'' => e = .returned (.int .i64 (S2 : Nat)) ∧ Ext w' w'' := fun w' he => by rw [hS2]; exact asize_any w' y ca cc (hC'.out.ext (hE.trans he)) hs
  have kC1 : ∀ w', Ext W w' → Calls Try.prog 19 #[.agg (X.ask.row (.slice X.ad X.ask.chs.length X.cap))] w' fun e w'' => e = .returned (.bool B1) ∧ Ext w' w'' := fun w' he => by rw [hB1]; exact check_any w' X.ask X.ad X.cap (hXC'.out.ext (hE.trans he)) hXs
  have kC2 : ∀ w', Ext W w' → Calls Try.prog 19 #[.agg (y.row (.slice ca y.chs.length cc))] w' fun e w'' => e = .returned (.bool B2') ∧ Ext w' w'' := fun w' he => by rw [hB2e]; exact check_any w' y ca cc (hC'.out.ext (hE.trans he)) hs
  have kAl' := Lib.hid kAl
  have kGr' := Lib.hid kGr
  have kA1' := Lib.hid kA1
  have kA2' := Lib.hid kA2
  have kC1' := Lib.hid kC1
  have kC2' := Lib.hid kC2
  have hE' := Lib.hid hE
  have hG' := Lib.hid hG
  have hB1' := Lib.hid hB1
  have hB2' := Lib.hid hB2e
  clear kAl kGr kA1 kA2 kC1 kC2 hXr hXcl hYr hB hB2 hE hS1 hS2 hB1 hB2e hG
  have esum : IntKind.i64.wrap ((S1 : Int) + (S2 : Int)) = (S1 : Int) + (S2 : Int) := by rw [IntKind.wrap_i64]; omega
  cases G
  case true =>
    refine wp_region_class (Ext W) (by kernel_rfl) (by kernel_rfl) (Ext.refl _).drew ?_
    refine wpQuiet_step (fun K hK => ?_); go_simp
    refine ⟨_, fun w' hw => calls_ext hw (kAl'.out w' hw), hK _ ?_⟩; clear hK K
    iterate 3 (refine wpQuiet_step (fun K hK => ?_); go_simp; first | (refine hK _ ?_; clear hK K) | (refine ⟨_, fun _ _ => rfl, hK _ ?_⟩; clear hK K))
    refine wpQuiet_step (fun K hK => ?_); go_simp
    refine ⟨_, fun w' hw => calls_ext hw (kGr'.out w' hw), hK _ ?_⟩; clear hK K
    iterate 31 (refine wpQuiet_step (fun K hK => ?_); go_simp; first | (refine hK _ ?_; clear hK K) | (refine ⟨_, fun _ _ => rfl, hK _ ?_⟩; clear hK K))
    refine wpQuiet_nil (fun w5 hE5 => ?_)
    go_wp2_with fail
    refine (alive_end w w5 (hE'.out.trans hE5)).mono ?_
    rintro e wz ⟨rfl, hEz⟩
    go_wp2_with fail
    go_ret
    exact ⟨rfl, hEz⟩
  by_cases hsz : 10000 < S1 + S2
  case pos =>
    have isz : (10000 : Int) < (S1 : Int) + (S2 : Int) := by omega
    have dsz : decide ((10000 : Int) < (S1 : Int) + (S2 : Int)) = true := decide_eq_true isz
    refine wp_region_class (Ext W) (by kernel_rfl) (by kernel_rfl) (Ext.refl _).drew ?_
    refine wpQuiet_step (fun K hK => ?_); go_simp
    refine ⟨_, fun w' hw => calls_ext hw (kAl'.out w' hw), hK _ ?_⟩; clear hK K
    iterate 3 (refine wpQuiet_step (fun K hK => ?_); go_simp; first | (refine hK _ ?_; clear hK K) | (refine ⟨_, fun _ _ => rfl, hK _ ?_⟩; clear hK K))
    refine wpQuiet_step (fun K hK => ?_); go_simp
    refine ⟨_, fun w' hw => calls_ext hw (kGr'.out w' hw), hK _ ?_⟩; clear hK K
    iterate 3 (refine wpQuiet_step (fun K hK => ?_); go_simp; first | (refine hK _ ?_; clear hK K) | (refine ⟨_, fun _ _ => rfl, hK _ ?_⟩; clear hK K))
    refine wpQuiet_load_mid (by rfl) 26 _ (by rfl) g 3 (by rfl) _ _ (fun w' hw => hXr'.out w' hw) Try.underlying26 rfl (by rw [ask_ln]; exact ask_inf) ?_
    refine wpQuiet_step (fun K hK => ?_); go_simp
    refine ⟨_, fun w' hw => calls_ext hw (kA1'.out w' hw), hK _ ?_⟩; clear hK K
    refine wpQuiet_load_mid (by rfl) 26 _ (by rfl) (g + 1) 0 (by rfl) _ _ (fun w' hw => hYr'.out w' hw) Try.underlying26 rfl (by rw [ask_ln]; exact ask_inf) ?_
    refine wpQuiet_step (fun K hK => ?_); go_simp
    refine ⟨_, fun w' hw => calls_ext hw (kA2'.out w' hw), hK _ ?_⟩; clear hK K
    iterate 24 (refine wpQuiet_step (fun K hK => ?_); go_simp; first | (refine hK _ ?_; clear hK K) | (refine ⟨_, fun _ _ => rfl, hK _ ?_⟩; clear hK K))
    refine wpQuiet_nil (fun w5 hE5 => ?_)
    go_wp2_with fail
    refine (alive_end w w5 (hE'.out.trans hE5)).mono ?_
    rintro e wz ⟨rfl, hEz⟩
    go_wp2_with fail
    go_ret
    exact ⟨rfl, hEz⟩
  have isz : ¬ (10000 : Int) < (S1 : Int) + (S2 : Int) := by omega
  have dsz : decide ((10000 : Int) < (S1 : Int) + (S2 : Int)) = false := decide_eq_false isz
  by_cases hc1 : X.cl < 1
  case pos =>
    have ic1 : (X.cl : Int) < 1 := by omega
    have dc1 : decide ((X.cl : Int) < 1) = true := decide_eq_true ic1
    refine wp_region_class (Ext W) (by kernel_rfl) (by kernel_rfl) (Ext.refl _).drew ?_
    refine wpQuiet_step (fun K hK => ?_); go_simp
    refine ⟨_, fun w' hw => calls_ext hw (kAl'.out w' hw), hK _ ?_⟩; clear hK K
    iterate 3 (refine wpQuiet_step (fun K hK => ?_); go_simp; first | (refine hK _ ?_; clear hK K) | (refine ⟨_, fun _ _ => rfl, hK _ ?_⟩; clear hK K))
    refine wpQuiet_step (fun K hK => ?_); go_simp
    refine ⟨_, fun w' hw => calls_ext hw (kGr'.out w' hw), hK _ ?_⟩; clear hK K
    iterate 3 (refine wpQuiet_step (fun K hK => ?_); go_simp; first | (refine hK _ ?_; clear hK K) | (refine ⟨_, fun _ _ => rfl, hK _ ?_⟩; clear hK K))
    refine wpQuiet_load_mid (by rfl) 26 _ (by rfl) g 3 (by rfl) _ _ (fun w' hw => hXr'.out w' hw) Try.underlying26 rfl (by rw [ask_ln]; exact ask_inf) ?_
    refine wpQuiet_step (fun K hK => ?_); go_simp
    refine ⟨_, fun w' hw => calls_ext hw (kA1'.out w' hw), hK _ ?_⟩; clear hK K
    refine wpQuiet_load_mid (by rfl) 26 _ (by rfl) (g + 1) 0 (by rfl) _ _ (fun w' hw => hYr'.out w' hw) Try.underlying26 rfl (by rw [ask_ln]; exact ask_inf) ?_
    refine wpQuiet_step (fun K hK => ?_); go_simp
    refine ⟨_, fun w' hw => calls_ext hw (kA2'.out w' hw), hK _ ?_⟩; clear hK K
    iterate 5 (refine wpQuiet_step (fun K hK => ?_); go_simp; first | (refine hK _ ?_; clear hK K) | (refine ⟨_, fun _ _ => rfl, hK _ ?_⟩; clear hK K))
    refine wpQuiet_load_cell (by rfl) 5 _ (by rfl) g 1 (by rfl) _ (fun w' hw => hXcl'.out w' hw) _ Try.underlying5 rfl ?_
    iterate 18 (refine wpQuiet_step (fun K hK => ?_); go_simp; first | (refine hK _ ?_; clear hK K) | (refine ⟨_, fun _ _ => rfl, hK _ ?_⟩; clear hK K))
    refine wpQuiet_nil (fun w5 hE5 => ?_)
    go_wp2_with fail
    refine (alive_end w w5 (hE'.out.trans hE5)).mono ?_
    rintro e wz ⟨rfl, hEz⟩
    go_wp2_with fail
    go_ret
    exact ⟨rfl, hEz⟩
  have ic1 : ¬ (X.cl : Int) < 1 := by omega
  have dc1 : decide ((X.cl : Int) < 1) = false := decide_eq_false ic1
  by_cases hc8 : 8 < X.cl
  case pos =>
    have ic8 : (8 : Int) < (X.cl : Int) := by omega
    have dc8 : decide ((8 : Int) < (X.cl : Int)) = true := decide_eq_true ic8
    refine wp_region_class (Ext W) (by kernel_rfl) (by kernel_rfl) (Ext.refl _).drew ?_
    refine wpQuiet_step (fun K hK => ?_); go_simp
    refine ⟨_, fun w' hw => calls_ext hw (kAl'.out w' hw), hK _ ?_⟩; clear hK K
    iterate 3 (refine wpQuiet_step (fun K hK => ?_); go_simp; first | (refine hK _ ?_; clear hK K) | (refine ⟨_, fun _ _ => rfl, hK _ ?_⟩; clear hK K))
    refine wpQuiet_step (fun K hK => ?_); go_simp
    refine ⟨_, fun w' hw => calls_ext hw (kGr'.out w' hw), hK _ ?_⟩; clear hK K
    iterate 3 (refine wpQuiet_step (fun K hK => ?_); go_simp; first | (refine hK _ ?_; clear hK K) | (refine ⟨_, fun _ _ => rfl, hK _ ?_⟩; clear hK K))
    refine wpQuiet_load_mid (by rfl) 26 _ (by rfl) g 3 (by rfl) _ _ (fun w' hw => hXr'.out w' hw) Try.underlying26 rfl (by rw [ask_ln]; exact ask_inf) ?_
    refine wpQuiet_step (fun K hK => ?_); go_simp
    refine ⟨_, fun w' hw => calls_ext hw (kA1'.out w' hw), hK _ ?_⟩; clear hK K
    refine wpQuiet_load_mid (by rfl) 26 _ (by rfl) (g + 1) 0 (by rfl) _ _ (fun w' hw => hYr'.out w' hw) Try.underlying26 rfl (by rw [ask_ln]; exact ask_inf) ?_
    refine wpQuiet_step (fun K hK => ?_); go_simp
    refine ⟨_, fun w' hw => calls_ext hw (kA2'.out w' hw), hK _ ?_⟩; clear hK K
    iterate 5 (refine wpQuiet_step (fun K hK => ?_); go_simp; first | (refine hK _ ?_; clear hK K) | (refine ⟨_, fun _ _ => rfl, hK _ ?_⟩; clear hK K))
    refine wpQuiet_load_cell (by rfl) 5 _ (by rfl) g 1 (by rfl) _ (fun w' hw => hXcl'.out w' hw) _ Try.underlying5 rfl ?_
    iterate 4 (refine wpQuiet_step (fun K hK => ?_); go_simp; first | (refine hK _ ?_; clear hK K) | (refine ⟨_, fun _ _ => rfl, hK _ ?_⟩; clear hK K))
    refine wpQuiet_load_cell (by rfl) 5 _ (by rfl) g 1 (by rfl) _ (fun w' hw => hXcl'.out w' hw) _ Try.underlying5 rfl ?_
    iterate 13 (refine wpQuiet_step (fun K hK => ?_); go_simp; first | (refine hK _ ?_; clear hK K) | (refine ⟨_, fun _ _ => rfl, hK _ ?_⟩; clear hK K))
    refine wpQuiet_nil (fun w5 hE5 => ?_)
    go_wp2_with fail
    refine (alive_end w w5 (hE'.out.trans hE5)).mono ?_
    rintro e wz ⟨rfl, hEz⟩
    go_wp2_with fail
    go_ret
    exact ⟨rfl, hEz⟩
  have ic8 : ¬ (8 : Int) < (X.cl : Int) := by omega
  have dc8 : decide ((8 : Int) < (X.cl : Int)) = false := decide_eq_false ic8
  cases B1
  case false =>
    refine wp_region_class (Ext W) (by kernel_rfl) (by kernel_rfl) (Ext.refl _).drew ?_
    refine wpQuiet_step (fun K hK => ?_); go_simp
    refine ⟨_, fun w' hw => calls_ext hw (kAl'.out w' hw), hK _ ?_⟩; clear hK K
    iterate 3 (refine wpQuiet_step (fun K hK => ?_); go_simp; first | (refine hK _ ?_; clear hK K) | (refine ⟨_, fun _ _ => rfl, hK _ ?_⟩; clear hK K))
    refine wpQuiet_step (fun K hK => ?_); go_simp
    refine ⟨_, fun w' hw => calls_ext hw (kGr'.out w' hw), hK _ ?_⟩; clear hK K
    iterate 3 (refine wpQuiet_step (fun K hK => ?_); go_simp; first | (refine hK _ ?_; clear hK K) | (refine ⟨_, fun _ _ => rfl, hK _ ?_⟩; clear hK K))
    refine wpQuiet_load_mid (by rfl) 26 _ (by rfl) g 3 (by rfl) _ _ (fun w' hw => hXr'.out w' hw) Try.underlying26 rfl (by rw [ask_ln]; exact ask_inf) ?_
    refine wpQuiet_step (fun K hK => ?_); go_simp
    refine ⟨_, fun w' hw => calls_ext hw (kA1'.out w' hw), hK _ ?_⟩; clear hK K
    refine wpQuiet_load_mid (by rfl) 26 _ (by rfl) (g + 1) 0 (by rfl) _ _ (fun w' hw => hYr'.out w' hw) Try.underlying26 rfl (by rw [ask_ln]; exact ask_inf) ?_
    refine wpQuiet_step (fun K hK => ?_); go_simp
    refine ⟨_, fun w' hw => calls_ext hw (kA2'.out w' hw), hK _ ?_⟩; clear hK K
    iterate 5 (refine wpQuiet_step (fun K hK => ?_); go_simp; first | (refine hK _ ?_; clear hK K) | (refine ⟨_, fun _ _ => rfl, hK _ ?_⟩; clear hK K))
    refine wpQuiet_load_cell (by rfl) 5 _ (by rfl) g 1 (by rfl) _ (fun w' hw => hXcl'.out w' hw) _ Try.underlying5 rfl ?_
    iterate 4 (refine wpQuiet_step (fun K hK => ?_); go_simp; first | (refine hK _ ?_; clear hK K) | (refine ⟨_, fun _ _ => rfl, hK _ ?_⟩; clear hK K))
    refine wpQuiet_load_cell (by rfl) 5 _ (by rfl) g 1 (by rfl) _ (fun w' hw => hXcl'.out w' hw) _ Try.underlying5 rfl ?_
    iterate 4 (refine wpQuiet_step (fun K hK => ?_); go_simp; first | (refine hK _ ?_; clear hK K) | (refine ⟨_, fun _ _ => rfl, hK _ ?_⟩; clear hK K))
    refine wpQuiet_load_mid (by rfl) 26 _ (by rfl) g 3 (by rfl) _ _ (fun w' hw => hXr'.out w' hw) Try.underlying26 rfl (by rw [ask_ln]; exact ask_inf) ?_
    refine wpQuiet_step (fun K hK => ?_); go_simp
    refine ⟨_, fun w' hw => calls_ext hw (kC1'.out w' hw), hK _ ?_⟩; clear hK K
    iterate 7 (refine wpQuiet_step (fun K hK => ?_); go_simp; first | (refine hK _ ?_; clear hK K) | (refine ⟨_, fun _ _ => rfl, hK _ ?_⟩; clear hK K))
    refine wpQuiet_nil (fun w5 hE5 => ?_)
    go_wp2_with fail
    refine (alive_end w w5 (hE'.out.trans hE5)).mono ?_
    rintro e wz ⟨rfl, hEz⟩
    go_wp2_with fail
    go_ret
    exact ⟨rfl, hEz⟩
  cases B2'
  case false =>
    refine wp_region_class (Ext W) (by kernel_rfl) (by kernel_rfl) (Ext.refl _).drew ?_
    refine wpQuiet_step (fun K hK => ?_); go_simp
    refine ⟨_, fun w' hw => calls_ext hw (kAl'.out w' hw), hK _ ?_⟩; clear hK K
    iterate 3 (refine wpQuiet_step (fun K hK => ?_); go_simp; first | (refine hK _ ?_; clear hK K) | (refine ⟨_, fun _ _ => rfl, hK _ ?_⟩; clear hK K))
    refine wpQuiet_step (fun K hK => ?_); go_simp
    refine ⟨_, fun w' hw => calls_ext hw (kGr'.out w' hw), hK _ ?_⟩; clear hK K
    iterate 3 (refine wpQuiet_step (fun K hK => ?_); go_simp; first | (refine hK _ ?_; clear hK K) | (refine ⟨_, fun _ _ => rfl, hK _ ?_⟩; clear hK K))
    refine wpQuiet_load_mid (by rfl) 26 _ (by rfl) g 3 (by rfl) _ _ (fun w' hw => hXr'.out w' hw) Try.underlying26 rfl (by rw [ask_ln]; exact ask_inf) ?_
    refine wpQuiet_step (fun K hK => ?_); go_simp
    refine ⟨_, fun w' hw => calls_ext hw (kA1'.out w' hw), hK _ ?_⟩; clear hK K
    refine wpQuiet_load_mid (by rfl) 26 _ (by rfl) (g + 1) 0 (by rfl) _ _ (fun w' hw => hYr'.out w' hw) Try.underlying26 rfl (by rw [ask_ln]; exact ask_inf) ?_
    refine wpQuiet_step (fun K hK => ?_); go_simp
    refine ⟨_, fun w' hw => calls_ext hw (kA2'.out w' hw), hK _ ?_⟩; clear hK K
    iterate 5 (refine wpQuiet_step (fun K hK => ?_); go_simp; first | (refine hK _ ?_; clear hK K) | (refine ⟨_, fun _ _ => rfl, hK _ ?_⟩; clear hK K))
    refine wpQuiet_load_cell (by rfl) 5 _ (by rfl) g 1 (by rfl) _ (fun w' hw => hXcl'.out w' hw) _ Try.underlying5 rfl ?_
    iterate 4 (refine wpQuiet_step (fun K hK => ?_); go_simp; first | (refine hK _ ?_; clear hK K) | (refine ⟨_, fun _ _ => rfl, hK _ ?_⟩; clear hK K))
    refine wpQuiet_load_cell (by rfl) 5 _ (by rfl) g 1 (by rfl) _ (fun w' hw => hXcl'.out w' hw) _ Try.underlying5 rfl ?_
    iterate 4 (refine wpQuiet_step (fun K hK => ?_); go_simp; first | (refine hK _ ?_; clear hK K) | (refine ⟨_, fun _ _ => rfl, hK _ ?_⟩; clear hK K))
    refine wpQuiet_load_mid (by rfl) 26 _ (by rfl) g 3 (by rfl) _ _ (fun w' hw => hXr'.out w' hw) Try.underlying26 rfl (by rw [ask_ln]; exact ask_inf) ?_
    refine wpQuiet_step (fun K hK => ?_); go_simp
    refine ⟨_, fun w' hw => calls_ext hw (kC1'.out w' hw), hK _ ?_⟩; clear hK K
    iterate 3 (refine wpQuiet_step (fun K hK => ?_); go_simp; first | (refine hK _ ?_; clear hK K) | (refine ⟨_, fun _ _ => rfl, hK _ ?_⟩; clear hK K))
    refine wpQuiet_load_mid (by rfl) 26 _ (by rfl) (g + 1) 0 (by rfl) _ _ (fun w' hw => hYr'.out w' hw) Try.underlying26 rfl (by rw [ask_ln]; exact ask_inf) ?_
    refine wpQuiet_step (fun K hK => ?_); go_simp
    refine ⟨_, fun w' hw => calls_ext hw (kC2'.out w' hw), hK _ ?_⟩; clear hK K
    iterate 2 (refine wpQuiet_step (fun K hK => ?_); go_simp; first | (refine hK _ ?_; clear hK K) | (refine ⟨_, fun _ _ => rfl, hK _ ?_⟩; clear hK K))
    refine wpQuiet_nil (fun w5 hE5 => ?_)
    go_wp2_with fail
    refine (alive_end w w5 (hE'.out.trans hE5)).mono ?_
    rintro e wz ⟨rfl, hEz⟩
    go_wp2_with fail
    go_ret
    exact ⟨rfl, hEz⟩
  refine wp_region_class (Ext W) (by kernel_rfl) (by kernel_rfl) (Ext.refl _).drew ?_
  refine wpQuiet_step (fun K hK => ?_); go_simp
  refine ⟨_, fun w' hw => calls_ext hw (kAl'.out w' hw), hK _ ?_⟩; clear hK K
  iterate 3 (refine wpQuiet_step (fun K hK => ?_); go_simp; first | (refine hK _ ?_; clear hK K) | (refine ⟨_, fun _ _ => rfl, hK _ ?_⟩; clear hK K))
  refine wpQuiet_step (fun K hK => ?_); go_simp
  refine ⟨_, fun w' hw => calls_ext hw (kGr'.out w' hw), hK _ ?_⟩; clear hK K
  iterate 3 (refine wpQuiet_step (fun K hK => ?_); go_simp; first | (refine hK _ ?_; clear hK K) | (refine ⟨_, fun _ _ => rfl, hK _ ?_⟩; clear hK K))
  refine wpQuiet_load_mid (by rfl) 26 _ (by rfl) g 3 (by rfl) _ _ (fun w' hw => hXr'.out w' hw) Try.underlying26 rfl (by rw [ask_ln]; exact ask_inf) ?_
  refine wpQuiet_step (fun K hK => ?_); go_simp
  refine ⟨_, fun w' hw => calls_ext hw (kA1'.out w' hw), hK _ ?_⟩; clear hK K
  refine wpQuiet_load_mid (by rfl) 26 _ (by rfl) (g + 1) 0 (by rfl) _ _ (fun w' hw => hYr'.out w' hw) Try.underlying26 rfl (by rw [ask_ln]; exact ask_inf) ?_
  refine wpQuiet_step (fun K hK => ?_); go_simp
  refine ⟨_, fun w' hw => calls_ext hw (kA2'.out w' hw), hK _ ?_⟩; clear hK K
  iterate 5 (refine wpQuiet_step (fun K hK => ?_); go_simp; first | (refine hK _ ?_; clear hK K) | (refine ⟨_, fun _ _ => rfl, hK _ ?_⟩; clear hK K))
  refine wpQuiet_load_cell (by rfl) 5 _ (by rfl) g 1 (by rfl) _ (fun w' hw => hXcl'.out w' hw) _ Try.underlying5 rfl ?_
  iterate 4 (refine wpQuiet_step (fun K hK => ?_); go_simp; first | (refine hK _ ?_; clear hK K) | (refine ⟨_, fun _ _ => rfl, hK _ ?_⟩; clear hK K))
  refine wpQuiet_load_cell (by rfl) 5 _ (by rfl) g 1 (by rfl) _ (fun w' hw => hXcl'.out w' hw) _ Try.underlying5 rfl ?_
  iterate 4 (refine wpQuiet_step (fun K hK => ?_); go_simp; first | (refine hK _ ?_; clear hK K) | (refine ⟨_, fun _ _ => rfl, hK _ ?_⟩; clear hK K))
  refine wpQuiet_load_mid (by rfl) 26 _ (by rfl) g 3 (by rfl) _ _ (fun w' hw => hXr'.out w' hw) Try.underlying26 rfl (by rw [ask_ln]; exact ask_inf) ?_
  refine wpQuiet_step (fun K hK => ?_); go_simp
  refine ⟨_, fun w' hw => calls_ext hw (kC1'.out w' hw), hK _ ?_⟩; clear hK K
  iterate 3 (refine wpQuiet_step (fun K hK => ?_); go_simp; first | (refine hK _ ?_; clear hK K) | (refine ⟨_, fun _ _ => rfl, hK _ ?_⟩; clear hK K))
  refine wpQuiet_load_mid (by rfl) 26 _ (by rfl) (g + 1) 0 (by rfl) _ _ (fun w' hw => hYr'.out w' hw) Try.underlying26 rfl (by rw [ask_ln]; exact ask_inf) ?_
  refine wpQuiet_step (fun K hK => ?_); go_simp
  refine ⟨_, fun w' hw => calls_ext hw (kC2'.out w' hw), hK _ ?_⟩; clear hK K
  iterate 2 (refine wpQuiet_step (fun K hK => ?_); go_simp; first | (refine hK _ ?_; clear hK K) | (refine ⟨_, fun _ _ => rfl, hK _ ?_⟩; clear hK K))
  refine wpQuiet_nil (fun w5 hE5 => ?_)
  clear kAl' kGr' kA1' kA2' kC1' kC2' esum dsz isz dc1 ic1 dc8 ic8 hsz1 hsz2
  have hl150 := great_len hG'.out.symm
  have hE6 := hE'.out.trans hE5
  have i1 : 1 ≤ X.cl := by omega
  have i8 : X.cl ≤ 8 := by omega
  go_wp2_with fail
  refine (done_any w5 l a cap (fun x hx => (hg'.out x hx).ext hE6) (by omega) (h1'.out.ext hE6)).mono ?_
  rintro e w6 ⟨st, mb, rfl, hS⟩
  obtain ⟨M, hM⟩ : ∃ M, M = doneM l := ⟨_, rfl⟩
  have hMk : smallR M.rows := by rw [hM]; exact done_small l
  have hMl : M.rows.length ≤ 2400 := by rw [hM]; have := done_length l; omega
  have hMf : fineS M.sd := by rw [hM]; exact fine_done l
  have hMn : numS M.sd := by rw [hM]; exact num_done l (fun x hx => (hg'.out x hx).2.2.1)
  rw [← hM] at hS
  have hMk' := Lib.hid hMk
  have hMf' := Lib.hid hMf
  have hMn' := Lib.hid hMn
  clear hM hMk hMf hMn
  have hgs : ¬ (g = st ∨ g = mb) ∧ ¬ (g + 1 = st ∨ g + 1 = mb) := by
    have := hS.at
    have := hE5.size
    omega
  go_wp2_with fail
  refine (st_said hS).mono ?_
  rintro e w7 ⟨qa, qc, rfl, hown, hE7⟩
  replace hS := hS.ext hE7
  have hE8 := hE5.trans hS.ground
  obtain ⟨q, hq⟩ : ∃ q, q = saidL M.sd := ⟨_, rfl⟩
  rw [← hq] at hown ⊢
  obtain ⟨qn, hqn⟩ : ∃ qn, qn = q.length := ⟨_, rfl⟩
  rw [← hqn] at hown ⊢
  have hq9 : qn ≤ 9 := by rw [hqn, hq]; have := saidL_len M.sd; rw [hMf'.out.1] at this; exact this
  have hqn' := Lib.hid hqn
  have hq' := Lib.hid hq
  have hown' := Lib.hid hown
  have hS' := Lib.hid hS
  clear hqn hq hown hS hE7
  go_wp2_with fail
  go_loopw [8, 10] (fun nv i wr => ∃ (k nn : Nat), k ≤ qn ∧ i = .int .i64 k ∧ nv = .int .u32 (nn : Int) ∧ Hid (nn = numF X.cl (q.take k)) ∧ Ext w7 wr) (fun _ i _ => qn - (intOf i).toNat)
  case atStart => exact ⟨0, 1, by omega, rfl, rfl, Lib.hid rfl, Ext.refl _⟩
  case round =>
    obtain ⟨k, nn, hk, rfl, rfl, hnn, hEr⟩ := hrel
    by_cases hlt : k < qn
    · have hli : (k : Int) < (qn : Int) := by omega
      obtain ⟨p, hpk⟩ : ∃ p, q[k]? = some p := ⟨_, List.getElem?_eq_getElem (by rw [← hqn'.out]; exact hlt)⟩
      have hpm : p ∈ saidL M.sd := by rw [← hq'.out]; exact List.mem_of_getElem? hpk
      have hpn : p.1.num < 4294967296 := hMn'.out p.1 (List.mem_of_getElem? (said_mem.1 hpm).1)
      obtain ⟨gq, rfl, hgq⟩ := own_some hown'.out (by omega)
      have hrg := said_range (b := gq) (off := 0) (l := q) (fun i hi => by rw [Nat.zero_add]; exact hown'.out.cellAt i (by rw [hqn'.out]; exact hi)) hpk
      have y0 := hEr.cell (hrg 0 _ rfl)
      have y1 := hEr.cell (hrg 1 _ rfl)
      rw [Nat.zero_add, Nat.add_zero] at y0
      rw [Nat.zero_add] at y1
      have hx1 := hXcl'.out _ (hE8.trans hEr)
      have hk0 : 0 ≤ (k : Int) := by omega
      have hkn : ((k : Int)).toNat = k := by omega
      have hnx := Lib.hid (numF_add X.cl hpk)
      clear hrg hpk
      by_cases heq : p.2 = X.cl
      · have heqi : ((p.2 : Int) == (X.cl : Int)) = true := by rw [heq]; simp
        go_upto_region 9 with fail
        go_still (by kernel_rfl)
        change Exit.then _ _ _ _ wr.drew
        clear y0 hx1 hkn hk0 heqi
        have y1d : wr.drew.cell? ⟨gq, k * 5 + 1, none⟩ = _ := y1
        clear y1
        have hEd := hEr.trans (Ext.refl wr).drew
        generalize wr.drew = wd at *
        obtain ⟨nx, hnxe⟩ : ∃ nx : Nat, nx = (p.1.num + 1) % 4294967296 := ⟨_, rfl⟩
        have hwr : IntKind.u32.wrap ((p.1.num : Int) + 1) = (nx : Int) := by rw [IntKind.wrap_u32]; omega
        have hnxe' := Lib.hid hnxe
        clear hnxe
        go_wp2_with fail
        go_roundw
        case rel => exact ⟨k + 1, nx, by omega, by go_num, by first | rfl | (rw [hwr]), Lib.hid (by rw [hnx.out, if_pos heq]; exact hnxe'.out), hEd⟩
        case measure => simp [intOf]; omega
      · have heqi : ((p.2 : Int) == (X.cl : Int)) = false := by rw [beq_eq_false_iff_ne]; omega
        go_upto_region 9 with fail
        go_still (by kernel_rfl)
        change Exit.then _ _ _ _ wr.drew
        clear y0 hx1 hkn hk0 heqi y1
        have hEd := hEr.trans (Ext.refl wr).drew
        go_wp2_with fail
        go_roundw
        case rel => exact ⟨k + 1, nn, by omega, by go_num, rfl, Lib.hid (by rw [hnx.out, if_neg heq]; exact hnn.out), hEd⟩
        case measure => simp [intOf]; omega
    · have hli : ¬ (k : Int) < (qn : Int) := by omega
      have hkl : q.take k = q := List.take_of_length_le (by rw [← hqn'.out]; omega)
      have hnn2 : nn = (M.num X.cl + 1) % 4294967296 := by rw [hnn.out, hkl, hq'.out, numF_said hMf'.out _ i8]
      have hMb : M.num X.cl < 4294967296 := by
        obtain ⟨s, hsc⟩ : ∃ s, M.sd[X.cl]? = some s := ⟨_, List.getElem?_eq_getElem (by rw [hMf'.out.1]; omega)⟩
        rw [Md.num_at hsc]
        exact hMn'.out s (List.mem_of_getElem? hsc)
      have hEr2 := hE8.trans hEr
      clear hkl hown' hnn
      by_cases h0 : nn = 0
      · have i0 : (nn : Int) = 0 := by omega
        have hEf := hE'.out.trans hEr2
        clear hnn2 h0
        go_wp2_with fail
        go_ret
        exact ⟨rfl, hEf⟩
      have i0 : ¬ (nn : Int) = 0 := by omega
      have hnlt : M.num X.cl < nn := by omega
      have hn32 : nn < 4294967296 := by omega
      have hS := hS'.out.ext hEr
      clear hnn2 hMb hS'
      have hXC : ∀ w', Ext w5 w' → ChsAt w' X.ask.chs X.ad X.cap := fun w' he => hXC'.out.ext (hE6.trans he)
      have hYC : ∀ w', Ext w5 w' → ChsAt w' y.chs ca cc := fun w' he => hC'.out.ext (hE6.trans he)
      have hXr5 : ∀ w', Ext w5 w' → w'.rangeAt g 3 (X.ask.row (.slice X.ad X.ask.chs.length X.cap)).toList := fun w' he => hXr'.out w' (hE5.trans he)
      have hX15 : ∀ w', Ext w5 w' → w'.cell? ⟨g, 1, none⟩ = some (.int .u8 (X.cl : Int)) := fun w' he => hXcl'.out w' (hE5.trans he)
      have hYr5 : ∀ w', Ext w5 w' → w'.rangeAt (g + 1) 0 (y.row (.slice ca y.chs.length cc)).toList := fun w' he => hYr'.out w' (hE5.trans he)
      have cX := Lib.hid hXC
      have cY := Lib.hid hYC
      have cXr := Lib.hid hXr5
      have cX1 := Lib.hid hX15
      have cYr := Lib.hid hYr5
      clear hXC hYC hXr5 hX15 hYr5
      obtain ⟨m1, hm1⟩ : ∃ m1, m1 = M.act X.cl nn X.ask := ⟨_, rfl⟩
      obtain ⟨Y, hY⟩ : ∃ Y, Y = yesW M.rows X.ask := ⟨_, rfl⟩
      obtain ⟨L, hL⟩ : ∃ L, L = rowsW M.rows X.ask := ⟨_, rfl⟩
      have hans : M.ans X.cl nn X.ask = ⟨0, Y, L, 0, m1⟩ := by rw [ans_ok i1 i8 hB1'.out.symm hnlt, hm1, hY, hL]
      have hm1k : smallR m1.rows := by rw [hm1]; exact chsW_small hMk'.out (chg_ok hB1'.out.symm).1
      have hm1l : m1.rows.length ≤ 2500 := by rw [hm1]; have := Md.act_length M X.cl nn hB1'.out.symm; omega
      have hm1' := Lib.hid hm1
      have hL' := Lib.hid hL
      have hY' := Lib.hid hY
      have hm1k' := Lib.hid hm1k
      obtain ⟨ln, hln⟩ : ∃ ln, ln = L.length := ⟨_, rfl⟩
      obtain ⟨rn, hrn⟩ : ∃ rn, rn = m1.rows.length := ⟨_, rfl⟩
      obtain ⟨sn, hsn⟩ : ∃ sn, sn = (saidL m1.sd).length := ⟨_, rfl⟩
      have hln' := Lib.hid hln
      have hrn' := Lib.hid hrn
      have hsn' := Lib.hid hsn
      have hd1 := do_b (c := X.cl) (n := nn) hS hMk'.out (by omega) (cX.out _ hS.ground) hXs hans (ci := X.cl) (ni := nn) (v := X.ask.row (.slice X.ad X.ask.chs.length X.cap)) rfl rfl rfl
      have hd1' := Lib.hid hd1
      have hans' := Lib.hid hans
      clear hm1 hL hY hm1k hd1 hln hrn hsn hans
      have hlt0 := hS.lt
      have x1 := cX1.out _ hS.ground
      have xr := cXr.out _ hS.ground
      clear hEr hEr2
      go_wp2_with (first | (refine wpList_load_mid (by rfl) 26 (.tmp 90) (by rfl) g 3 (by rfl) (X.ask.row (.slice X.ad X.ask.chs.length X.cap)).toList _ xr Try.underlying26 rfl (by rw [ask_ln]; exact ask_inf) ?_) | fail)
      refine hd1'.out.mono ?_
      clear hd1' x1 xr hS
      rintro e w8 ⟨da, dc, rfl, r1, r1p, S, _⟩
      rw [← hln'.out] at r1 r1p ⊢
      have r1o : Out (fun i => i = st ∨ i = mb) (.slice da ln dc) := r1p.mono fun q hq => by rcases hq with rfl | rfl <;> omega
      have hlt8 := S.lt
      clear r1p
      have b11 := heap_alloc_new w8 (.cells #[.int .i64 0, .bool Y, .slice da ln dc] 32)
      have hEb := (Ext.refl w8).alloc (.cells #[.int .i64 0, .bool Y, .slice da ln dc] 32)
      replace r1 := r1.ext hEb
      replace S := S.ext hEb
      clear hEb
      go_wp2_with fail
      generalize hw : w8.alloc _ = w9 at *
      clear hw
      generalize hg11 : w8.heap.size = g11 at *
      clear hg11
      refine (rowsM_any S hm1k'.out (by omega)).mono ?_
      rintro e w10 ⟨pa, pc, rfl, _, hown, hEn⟩
      rw [← hrn'.out] at hown ⊢
      have r2 := RowIs.of_own hown
      have hlt9 := S.lt
      have r2o := Out.of_own (B := fun i => i = st ∨ i = mb) hown (fun q hq => by rcases hq with rfl | rfl <;> omega)
      replace r1 := r1.ext hEn
      replace S := S.ext hEn
      replace b11 := hEn.row b11
      clear hown hEn
      go_wp2_with fail
      refine (st_said S).mono ?_
      rintro e w11 ⟨sa, sc, rfl, hown, hEn⟩
      rw [← hsn'.out] at hown ⊢
      have r3 := RowIs.of_own hown
      have hlt10 := S.lt
      have r3o := Out.of_own (B := fun i => i = st ∨ i = mb) hown (fun q hq => by rcases hq with rfl | rfl <;> omega)
      replace r1 := r1.ext hEn
      replace S := S.ext hEn
      replace b11 := hEn.row b11
      replace r2 := r2.ext hEn
      clear hown hEn
      have x0 := cXr.out _ S.ground 0 _ rfl
      rw [Nat.add_zero] at x0
      have hlt11 := S.lt
      by_cases hk : keptP X.ask
      case neg =>
        have hM1 : m1 = M := by rw [hm1'.out]; exact act_look hk (by have := ok_kind hB1'.out.symm; unfold keptP at hk; omega)
        have hans2 : m1.ans X.cl nn X.ask = ⟨0, Y, L, 0, m1⟩ := by rw [hM1]; have := hans'.out; rw [hM1] at this; exact this
        have hans3 := Lib.hid hans2
        clear hM1 hans2
        have hkk : X.ask.kind = 5 ∨ X.ask.kind = 6 := by have := ok_kind hB1'.out.symm; unfold keptP at hk; omega
        have hb : ((X.ask.kind != 5) = false) ∨ ((X.ask.kind != 5) = true ∧ (X.ask.kind != 6) = false) := by
          rcases hkk with h | h
          · left; rw [h]; rfl
          · right; rw [h]; exact ⟨rfl, rfl⟩
        clear hk hkk
        rcases hb with b5 | ⟨b5, b6⟩
        all_goals
          have hd := do_b (c := X.cl) (n := nn) S hm1k'.out (by omega) (cX.out _ S.ground) hXs hans3.out (ci := X.cl) (ni := nn) (v := (X.ask.row (.slice X.ad X.ask.chs.length X.cap))) rfl rfl rfl
          have hd' := Lib.hid hd
          have x1 := cX1.out _ S.ground
          have xr := cXr.out _ S.ground
          have hltS := S.lt
          clear hd
          go_wp2_with (first | (refine wpList_load_mid (by rfl) 26 (.tmp 116) (by rfl) g 3 (by rfl) (X.ask.row (.slice X.ad X.ask.chs.length X.cap)).toList _ xr Try.underlying26 rfl (by rw [ask_ln]; exact ask_inf) ?_) | fail)
          refine hd'.out.mono ?_
          clear hd' x1 xr S
          rintro e w12 ⟨ear4, ecr4, rfl, r4, r4p, S, hO⟩
          replace r1 := r1.off r1o hO
          replace b11 := hO.row b11 (by omega)
          replace r2 := r2.off r2o hO
          replace r3 := r3.off r3o hO
          rw [← hln'.out] at r4 r4p ⊢
          have r4o : Out (fun i => i = st ∨ i = mb) (.slice ear4 ln ecr4) := r4p.mono fun q hq => by rcases hq with rfl | rfl <;> omega
          clear r4p hO
          have hltT := S.lt
          have b15 := heap_alloc_new w12 (.cells #[.int .i64 0, .bool Y, .slice ear4 ln ecr4] 32)
          have hEb := (Ext.refl w12).alloc (.cells #[.int .i64 0, .bool Y, .slice ear4 ln ecr4] 32)
          replace r1 := r1.ext hEb
          replace S := S.ext hEb
          replace b11 := hEb.row b11
          replace r2 := r2.ext hEb
          replace r3 := r3.ext hEb
          replace r4 := r4.ext hEb
          clear hEb hltS
          go_upto_region 20 with fail
          generalize hw : w12.alloc _ = w13 at *
          clear hw
          generalize hgg : w12.heap.size = g15 at *
          clear hgg
          obtain ⟨u0, u1, u2⟩ := re_cells b11
          obtain ⟨v0, v1, v2⟩ := re_cells b15
          have hq := sreply_any w13 0 0 Y Y L L ear4 da ecr4 dc (by rw [← hln'.out]; exact r4) (by rw [← hln'.out]; exact r1)
          rw [decide_eq_true ⟨rfl, rfl, rfl⟩, ← hln'.out] at hq
          have hq' := Lib.hid hq
          clear hq x0
          clear b11 b15 r1 r4 r3
          go_wp2_with fail
          refine hq'.out.mono ?_
          clear hq'
          rintro e w14 ⟨rfl, hEn⟩
          replace S := S.ext hEn
          replace r2 := r2.ext hEn
          clear hEn
          clear u0 u1 u2 v0 v1 v2
          go_wp2_with fail
          refine (rowsM_any S hm1k'.out (by omega)).mono ?_
          rintro e w15 ⟨ta, tc, rfl, _, hown, hEn⟩
          rw [← hrn'.out] at hown ⊢
          replace S := S.ext hEn
          replace r2 := r2.ext hEn
          have hq := srows_any w15 m1.rows m1.rows ta pa tc pc (by rw [← hrn'.out]; exact RowIs.of_own hown) (by rw [← hrn'.out]; exact r2)
          rw [decide_eq_true rfl, ← hrn'.out] at hq
          have hq' := Lib.hid hq
          have hEs := hE6.trans S.ground
          clear hq hEn hown S r2
          go_wp2_with fail
          refine hq'.out.mono ?_
          rintro e w16 ⟨rfl, hE16⟩
          go_wp2_with fail
          go_ret
          exact ⟨rfl, hEs.trans hE16⟩
      case pos =>
        have hL0 : L = [] := by rw [hL'.out]; exact rowsW_kept hk
        have hln0 : ln = 0 := by rw [hln'.out, hL0]; rfl
        subst hln0
        have hm1s : m1 = ⟨chsW M.rows (chgW M.rows X.ask), M.sd.set X.cl ⟨nn, 0, Y⟩⟩ := by rw [hm1'.out, act_kept hk, hY'.out]
        have hl9 : X.cl < M.sd.length := by rw [hMf'.out.1]; omega
        have hnum : m1.num X.cl = nn := by rw [hm1s, num_set hl9]
        have hsv : m1.sv X.cl = ⟨nn, 0, Y⟩ := by
          rw [hm1s]
          unfold Md.sv
          simp only
          rw [List.getD_eq_getElem?_getD, List.getElem?_set_self hl9]; rfl
        have hn0 : nn ≠ 0 := by omega
        have hans2 : m1.ans X.cl nn X.ask = ⟨0, Y, [], 10, m1⟩ := by rw [ans_same i1 i8 hn0 hB1'.out.symm hnum.symm hk, hsv]
        have hans3 := Lib.hid hans2
        have hnum' := Lib.hid hnum
        have hsv' := Lib.hid hsv
        obtain ⟨k5, k6⟩ := hk
        have b5 : (X.ask.kind != 5) = true := by simp [k5]
        have b6 : (X.ask.kind != 6) = true := by simp [k6]
        rw [hL0] at r1
        clear hm1s hl9 hnum hsv hans2 hL0 k5 k6
        have hd := do_b (c := X.cl) (n := nn) S hm1k'.out (by omega) (cX.out _ S.ground) hXs hans3.out (ci := X.cl) (ni := nn) (v := (X.ask.row (.slice X.ad X.ask.chs.length X.cap))) rfl rfl rfl
        have hd' := Lib.hid hd
        have x1 := cX1.out _ S.ground
        have xr := cXr.out _ S.ground
        have hltS := S.lt
        clear hd
        go_wp2_with (first | (refine wpList_load_mid (by rfl) 26 (.tmp 116) (by rfl) g 3 (by rfl) (X.ask.row (.slice X.ad X.ask.chs.length X.cap)).toList _ xr Try.underlying26 rfl (by rw [ask_ln]; exact ask_inf) ?_) | fail)
        refine hd'.out.mono ?_
        clear hd' x1 xr S
        rintro e w12 ⟨ear4, ecr4, rfl, r4, r4p, S, hO⟩
        replace r1 := r1.off r1o hO
        replace b11 := hO.row b11 (by omega)
        replace r2 := r2.off r2o hO
        replace r3 := r3.off r3o hO
        have r4o : Out (fun i => i = st ∨ i = mb) (.slice ear4 0 ecr4) := r4p.mono fun q hq => by rcases hq with rfl | rfl <;> omega
        clear r4p hO
        have hltT := S.lt
        have b15 := heap_alloc_new w12 (.cells #[.int .i64 0, .bool Y, .slice ear4 0 ecr4] 32)
        have hEb := (Ext.refl w12).alloc (.cells #[.int .i64 0, .bool Y, .slice ear4 0 ecr4] 32)
        replace r1 := r1.ext hEb
        replace S := S.ext hEb
        replace b11 := hEb.row b11
        replace r2 := r2.ext hEb
        replace r3 := r3.ext hEb
        replace r4 := r4.ext hEb
        clear hEb hltS
        go_upto_region 22 with fail
        generalize hw : w12.alloc _ = w13 at *
        clear hw
        generalize hgg : w12.heap.size = g15 at *
        clear hgg
        clear x0 b5 b6
        obtain ⟨Y2, hY2⟩ : ∃ b, b = (if keptP y then Y else false) := ⟨_, rfl⟩
        have hans4 : m1.ans X.cl nn y = ⟨0, Y2, [], 10, m1⟩ := by
          by_cases hky : keptP y
          · rw [ans_same i1 i8 hn0 hB2'.out.symm hnum'.out.symm hky, hsv'.out, hY2, if_pos hky]
          · rw [ans_old i1 i8 hn0 hB2'.out.symm (by rw [hnum'.out]; exact Nat.le_refl _) (fun h => hky h.2), hY2, if_neg hky]
        have hans5 := Lib.hid hans4
        have hY2' := Lib.hid hY2
        clear hans4 hY2
        have hd := do_b (c := X.cl) (n := nn) S hm1k'.out (by omega) (cY.out _ S.ground) hs hans5.out (ci := X.cl) (ni := nn) (v := (y.row (.slice ca y.chs.length cc))) rfl rfl rfl
        have hd' := Lib.hid hd
        have x1 := cX1.out _ S.ground
        have xr := cYr.out _ S.ground
        have hltS := S.lt
        clear hd
        go_wp2_with (first | (refine wpList_load_mid (by rfl) 26 (.tmp 5) (by rfl) (g + 1) 0 (by rfl) (y.row (.slice ca y.chs.length cc)).toList _ xr Try.underlying26 rfl (by rw [ask_ln]; exact ask_inf) ?_) | fail)
        refine hd'.out.mono ?_
        clear hd' x1 xr S
        rintro e w14 ⟨ear5, ecr5, rfl, r5, r5p, S, hO⟩
        replace r1 := r1.off r1o hO
        replace b11 := hO.row b11 (by omega)
        replace r2 := r2.off r2o hO
        replace r3 := r3.off r3o hO
        replace r4 := r4.off r4o hO
        replace b15 := hO.row b15 (by omega)
        have r5o : Out (fun i => i = st ∨ i = mb) (.slice ear5 0 ecr5) := r5p.mono fun q hq => by rcases hq with rfl | rfl <;> omega
        clear r5p hO
        have hltT := S.lt
        have b17 := heap_alloc_new w14 (.cells #[.int .i64 0, .bool Y2, .slice ear5 0 ecr5] 32)
        have hEb := (Ext.refl w14).alloc (.cells #[.int .i64 0, .bool Y2, .slice ear5 0 ecr5] 32)
        replace r1 := r1.ext hEb
        replace S := S.ext hEb
        replace b11 := hEb.row b11
        replace r2 := r2.ext hEb
        replace r3 := r3.ext hEb
        replace r4 := r4.ext hEb
        replace b15 := hEb.row b15
        replace r5 := r5.ext hEb
        clear hEb hltS
        go_upto_region 23 with fail
        generalize hw : w14.alloc _ = w15 at *
        clear hw
        generalize hgg : w14.heap.size = g17 at *
        clear hgg
        obtain ⟨u0, u1, u2⟩ := re_cells b11
        obtain ⟨v0, v1, v2⟩ := re_cells b15
        have hq := sreply_any w15 0 0 Y Y [] [] ear4 da ecr4 dc r4 r1
        rw [decide_eq_true ⟨rfl, rfl, rfl⟩] at hq
        have hq' := Lib.hid hq
        clear hq
        clear b15 r4
        go_wp2_with fail
        refine hq'.out.mono ?_
        clear hq'
        rintro e w16 ⟨rfl, hEn⟩
        replace r1 := r1.ext hEn
        replace S := S.ext hEn
        replace b11 := hEn.row b11
        replace r2 := r2.ext hEn
        replace r3 := r3.ext hEn
        replace r5 := r5.ext hEn
        replace b17 := hEn.row b17
        clear hEn
        clear u0 u1 u2 v0 v1 v2
        go_wp2_with fail
        refine (rowsM_any S hm1k'.out (by omega)).mono ?_
        rintro e w17 ⟨ta, tc, rfl, _, hown, hEn⟩
        rw [← hrn'.out] at hown ⊢
        replace r1 := r1.ext hEn
        replace S := S.ext hEn
        replace b11 := hEn.row b11
        replace r2 := r2.ext hEn
        replace r3 := r3.ext hEn
        replace r5 := r5.ext hEn
        replace b17 := hEn.row b17
        have hq := srows_any w17 m1.rows m1.rows ta pa tc pc (by rw [← hrn'.out]; exact RowIs.of_own hown) (by rw [← hrn'.out]; exact r2)
        rw [decide_eq_true rfl, ← hrn'.out] at hq
        have hq' := Lib.hid hq
        clear hq hEn hown
        clear r2
        go_wp2_with fail
        refine hq'.out.mono ?_
        clear hq'
        rintro e w18 ⟨rfl, hEn⟩
        replace r1 := r1.ext hEn
        replace S := S.ext hEn
        replace b11 := hEn.row b11
        replace r3 := r3.ext hEn
        replace r5 := r5.ext hEn
        replace b17 := hEn.row b17
        clear hEn
        go_wp2_with fail
        refine (st_said S).mono ?_
        rintro e w19 ⟨ua, uc, rfl, hown, hEn⟩
        rw [← hsn'.out] at hown ⊢
        replace r1 := r1.ext hEn
        replace S := S.ext hEn
        replace b11 := hEn.row b11
        replace r3 := r3.ext hEn
        replace r5 := r5.ext hEn
        replace b17 := hEn.row b17
        have hq := ssaids_any w19 (saidL m1.sd) (saidL m1.sd) ua sa uc sc (by rw [← hsn'.out]; exact RowIs.of_own hown) (by rw [← hsn'.out]; exact r3)
        rw [decide_eq_true rfl, ← hsn'.out] at hq
        have hq' := Lib.hid hq
        clear hq hEn hown
        clear r3
        go_wp2_with fail
        refine hq'.out.mono ?_
        clear hq'
        rintro e w20 ⟨rfl, hEn⟩
        replace r1 := r1.ext hEn
        replace S := S.ext hEn
        replace b11 := hEn.row b11
        replace r5 := r5.ext hEn
        replace b17 := hEn.row b17
        clear hEn
        have y0 := cYr.out _ S.ground 0 _ rfl
        rw [Nat.add_zero] at y0
        obtain ⟨u0, u1, u2⟩ := re_cells b11
        obtain ⟨v0, v1, v2⟩ := re_cells b17
        obtain ⟨nv, hnv⟩ : ∃ nv : Nat, nv = (nn + 1) % 4294967296 := ⟨_, rfl⟩
        have hwr : IntKind.u32.wrap ((nn : Int) + 1) = (nv : Int) := by rw [IntKind.wrap_u32]; omega
        have hwr' := Lib.hid hwr
        have hnv' := Lib.hid hnv
        clear hwr hnv
        by_cases hky : keptP y
        case pos =>
          have hY3 : Y2 = Y := by rw [hY2'.out, if_pos hky]
          subst hY3
          obtain ⟨k5, k6⟩ := hky
          have b5 : (y.kind != 5) = true := by simp [k5]
          have b6 : (y.kind != 6) = true := by simp [k6]
          have hq := sreply_any w20 0 0 Y2 Y2 [] [] ear5 da ecr5 dc r5 r1
          rw [decide_eq_true ⟨rfl, rfl, rfl⟩] at hq
          have hq' := Lib.hid hq
          clear hq k5 k6 b11 b17 r1 r5
          go_wp2_with fail
          refine hq'.out.mono ?_
          clear hq'
          rintro e w21 ⟨rfl, hEn⟩
          replace S := S.ext hEn
          clear hEn u0 u1 u2 v0 v1 v2 y0 b5 b6
          by_cases hz : nv = 0
          · have hans6 := ans_bad (m := m1) (c := X.cl) (n := nv) (x := y) (.inr (.inr (.inl hz)))
            have hd := do_b (c := X.cl) (n := nv) S hm1k'.out (by omega) (cY.out _ S.ground) hs hans6 (ci := X.cl) (ni := nv) (v := (y.row (.slice ca y.chs.length cc))) rfl rfl rfl
            have hd' := Lib.hid hd
            have x1 := cX1.out _ S.ground
            have xr := cYr.out _ S.ground
            have hwr := hwr'.out
            have iz : (nv : Int) = 0 := by omega
            have bz : ((nv : Int) == 0) = true := by rw [iz]; rfl
            rw [hz] at hd'
            rw [iz] at hwr
            clear hd hans6 iz bz
            go_wp2_with (first | (refine wpList_load_mid (by rfl) 26 (.tmp 5) (by rfl) (g + 1) 0 (by rfl) (y.row (.slice ca y.chs.length cc)).toList _ xr Try.underlying26 rfl (by rw [ask_ln]; exact ask_inf) ?_) | fail)
            refine hd'.out.mono ?_
            rintro e w22 ⟨fa, fc, rfl, _, _, S2, _⟩
            have hEs := hE6.trans (S2.ground.trans ((Ext.refl w22).alloc (.cells #[.int .i64 0, .bool false, .slice fa 0 fc] 32)))
            clear hd' x1 xr S S2
            go_wp2_with fail
            go_ret
            exact ⟨rfl, hEs⟩
          · have hlt2 : m1.num X.cl < nv := by rw [hnum'.out]; have := hnv'.out; omega
            have hans6 := ans_ok (m := m1) (c := X.cl) (n := nv) (x := y) i1 i8 hB2'.out.symm hlt2
            have hd := do_b (c := X.cl) (n := nv) S hm1k'.out (by omega) (cY.out _ S.ground) hs hans6 (ci := X.cl) (ni := nv) (v := (y.row (.slice ca y.chs.length cc))) rfl rfl rfl
            generalize yesW m1.rows y = Y5 at *
            generalize rowsW m1.rows y = L5 at *
            generalize m1.act X.cl nv y = m5 at *
            have hd' := Lib.hid hd
            have x1 := cX1.out _ S.ground
            have xr := cYr.out _ S.ground
            have hwr := hwr'.out
            have iz : ¬ (nv : Int) = 0 := by omega
            have bz : ((nv : Int) == 0) = false := by rw [beq_eq_false_iff_ne]; exact iz
            have bz2 : ((nv : Int) != 0) = true := by rw [bne_iff_ne]; exact iz
            clear hd hans6 hlt2
            go_wp2_with (first | (refine wpList_load_mid (by rfl) 26 (.tmp 5) (by rfl) (g + 1) 0 (by rfl) (y.row (.slice ca y.chs.length cc)).toList _ xr Try.underlying26 rfl (by rw [ask_ln]; exact ask_inf) ?_) | fail)
            refine hd'.out.mono ?_
            rintro e w22 ⟨fa, fc, rfl, _, _, S2, _⟩
            have hEs := hE6.trans (S2.ground.trans ((Ext.refl w22).alloc (.cells #[.int .i64 0, .bool Y5, .slice fa L5.length fc] 32)))
            clear hd' x1 xr S S2
            go_wp2_with fail
            go_ret
            exact ⟨rfl, hEs⟩
        case neg =>
          have hY3 : Y2 = false := by rw [hY2'.out, if_neg hky]
          subst hY3
          have hkk : y.kind = 5 ∨ y.kind = 6 := by have := ok_kind hB2'.out.symm; unfold keptP at hky; omega
          have hb : ((y.kind != 5) = false) ∨ ((y.kind != 5) = true ∧ (y.kind != 6) = false) := by
            rcases hkk with h | h
            · left; rw [h]; rfl
            · right; rw [h]; exact ⟨rfl, rfl⟩
          have hq := sreply_any w20 0 0 false false [] [] ear5 none ecr5 0 r5 (RowIs.nil _ _ _ _ (fun _ => rfl))
          rw [decide_eq_true ⟨rfl, rfl, rfl⟩] at hq
          have hq' := Lib.hid hq
          clear hq hky hkk b11 b17 r1 r5
          rcases hb with b5 | ⟨b5, b6⟩
          all_goals
            go_wp2_with fail
            refine hq'.out.mono ?_
            clear hq'
            rintro e w21 ⟨rfl, hEn⟩
            replace S := S.ext hEn
            clear hEn u0 u1 u2 v0 v1 v2 y0 b5
            by_cases hz : nv = 0
            · have hans6 := ans_bad (m := m1) (c := X.cl) (n := nv) (x := y) (.inr (.inr (.inl hz)))
              have hd := do_b (c := X.cl) (n := nv) S hm1k'.out (by omega) (cY.out _ S.ground) hs hans6 (ci := X.cl) (ni := nv) (v := (y.row (.slice ca y.chs.length cc))) rfl rfl rfl
              have hd' := Lib.hid hd
              have x1 := cX1.out _ S.ground
              have xr := cYr.out _ S.ground
              have hwr := hwr'.out
              have iz : (nv : Int) = 0 := by omega
              have bz : ((nv : Int) == 0) = true := by rw [iz]; rfl
              rw [hz] at hd'
              rw [iz] at hwr
              clear hd hans6 iz bz
              go_wp2_with (first | (refine wpList_load_mid (by rfl) 26 (.tmp 5) (by rfl) (g + 1) 0 (by rfl) (y.row (.slice ca y.chs.length cc)).toList _ xr Try.underlying26 rfl (by rw [ask_ln]; exact ask_inf) ?_) | fail)
              refine hd'.out.mono ?_
              rintro e w22 ⟨fa, fc, rfl, _, _, S2, _⟩
              have hEs := hE6.trans (S2.ground.trans ((Ext.refl w22).alloc (.cells #[.int .i64 0, .bool false, .slice fa 0 fc] 32)))
              clear hd' x1 xr S S2
              go_wp2_with fail
              go_ret
              exact ⟨rfl, hEs⟩
            · have hlt2 : m1.num X.cl < nv := by rw [hnum'.out]; have := hnv'.out; omega
              have hans6 := ans_ok (m := m1) (c := X.cl) (n := nv) (x := y) i1 i8 hB2'.out.symm hlt2
              have hd := do_b (c := X.cl) (n := nv) S hm1k'.out (by omega) (cY.out _ S.ground) hs hans6 (ci := X.cl) (ni := nv) (v := (y.row (.slice ca y.chs.length cc))) rfl rfl rfl
              generalize yesW m1.rows y = Y5 at *
              generalize rowsW m1.rows y = L5 at *
              generalize m1.act X.cl nv y = m5 at *
              have hd' := Lib.hid hd
              have x1 := cX1.out _ S.ground
              have xr := cYr.out _ S.ground
              have hwr := hwr'.out
              have iz : ¬ (nv : Int) = 0 := by omega
              have bz : ((nv : Int) == 0) = false := by rw [beq_eq_false_iff_ne]; exact iz
              have bz2 : ((nv : Int) != 0) = true := by rw [bne_iff_ne]; exact iz
              clear hd hans6 hlt2
              go_wp2_with (first | (refine wpList_load_mid (by rfl) 26 (.tmp 5) (by rfl) (g + 1) 0 (by rfl) (y.row (.slice ca y.chs.length cc)).toList _ xr Try.underlying26 rfl (by rw [ask_ln]; exact ask_inf) ?_) | fail)
              refine hd'.out.mono ?_
              rintro e w22 ⟨fa, fc, rfl, _, _, S2, _⟩
              have hEs := hE6.trans (S2.ground.trans ((Ext.refl w22).alloc (.cells #[.int .i64 0, .bool Y5, .slice fa L5.length fc] 32)))
              clear hd' x1 xr S S2
              go_wp2_with fail
              go_ret
              exact ⟨rfl, hEs⟩
end Go.Proofs.Ytmjoaiepfipmaaa
