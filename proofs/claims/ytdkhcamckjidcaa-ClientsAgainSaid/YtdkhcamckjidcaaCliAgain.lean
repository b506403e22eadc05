/- The law ClientsAgain. No condition. -/
import Derived.Test.YtdkhcamckjidcaaCliOnce
namespace Go.Proofs.Ytdkhcamckjidcaa
open Go.RowKit
set_option maxRecDepth 100000 in
set_option maxHeartbeats 1000000 in
theorem sameChs_any (w : World) (l : List Ch) (a a' : Option Addr) (cap cap' : Nat) (h1 : ChsAt w l a cap) (h2 : ChsAt w l a' cap') :
    Calls Try.prog 31 #[.slice a l.length cap, .slice a' l.length cap'] w fun e w' => e = .returned (.bool true) ∧ Ext w w' := by
  obtain ⟨h1, hn, _⟩ := h1
  obtain ⟨h2, _, _⟩ := h2
  go_enter Try.func31, Try.ntmps31
  go_wp2
  go_loopw [5] (fun i wr => ∃ k : Nat, k ≤ l.length ∧ i = .int .i64 k ∧ Ext w wr) (fun i _ => l.length - (intOf i).toNat)
  case atStart => exact ⟨0, by omega, rfl, Ext.refl _⟩
  case round =>
    obtain ⟨k, hk, rfl, hE⟩ := hrel
    by_cases hlt : k < l.length
    · have hli : (k : Int) < (l.length : Int) := by omega
      obtain ⟨c, hc⟩ : ∃ c, l[k]? = some c := ⟨_, List.getElem?_eq_getElem hlt⟩
      obtain ⟨b, off, hat⟩ := (h1.ext hE).at
      obtain ⟨b', off', hat'⟩ := (h2.ext hE).at
      obtain ⟨rfl, _, hd⟩ := hat (by omega)
      obtain ⟨rfl, _, hd'⟩ := hat' (by omega)
      have p0 := hd (k * 3 + 0) (by omega)
      have p1 := hd (k * 3 + 1) (by omega)
      have p2 := hd (k * 3 + 2) (by omega)
      have q0 := hd' (k * 3 + 0) (by omega)
      have q1 := hd' (k * 3 + 1) (by omega)
      have q2 := hd' (k * 3 + 2) (by omega)
      rw [ch_at l k c hc _ (by decide)] at p0 p1 p2 q0 q1 q2
      simp only [Ch.cells, List.getElem?_cons_zero, List.getElem?_cons_succ, Nat.add_zero] at p0 p1 p2 q0 q1 q2
      rw [← Nat.add_assoc] at p1 p2 q1 q2
      clear hd hd' hat hat' hc
      go_wp2
      go_still (by kernel_rfl)
      change Exit.then _ _ _ _ wr.drew
      go_wp2
      go_roundw
      case rel => exact ⟨k + 1, by omega, by go_num, hE.drew⟩
      case measure => simp [intOf]; omega
    · have hli : ¬ (k : Int) < (l.length : Int) := by omega
      go_wp2
      go_ret
      exact ⟨rfl, hE⟩
set_option maxRecDepth 100000 in
set_option maxHeartbeats 1000000 in
theorem sameAsk_any (w : World) (x : Ak) (a a' : Option Addr) (cap cap' : Nat) (h1 : ChsAt w x.chs a cap) (h2 : ChsAt w x.chs a' cap') :
    Calls Try.prog 23 #[.agg (x.row (.slice a x.chs.length cap)), .agg (x.row (.slice a' x.chs.length cap'))] w fun e w' => e = .returned (.bool true) ∧ Ext w w' := by
  unfold Ak.row
  go_enter Try.func23, Try.ntmps23
  go_wp2_with fail
  refine (sameChs_any _ x.chs a a' cap cap' (h1.ext (((Ext.refl _).alloc _).alloc _)) (h2.ext (((Ext.refl _).alloc _).alloc _))).mono ?_
  rintro e w' ⟨rfl, hx⟩
  go_wp2
  go_ret
  exact ⟨rfl, (((Ext.refl _).alloc _).alloc _).trans hx⟩
theorem item_cells {W : World} {g : Nat} {id num : Int} {x : Ak} {v : Value} (h : W.heap[g]? = some (.cells (itemRow id num x v) 34 (0, 0))) :
    W.cell? ⟨g, 1, none⟩ = some (.int .u8 id) ∧ W.cell? ⟨g, 2, none⟩ = some (.int .u32 num) ∧ W.rangeAt g 3 (x.row v).toList := by
  refine ⟨by rw [cell_of_row _ _ _ _ 34 (0, 0) h]; rfl, by rw [cell_of_row _ _ _ _ 34 (0, 0) h]; rfl, fun r u hu => ?_⟩
  rw [cell_of_row _ _ _ _ 34 (0, 0) h, ← hu]
  unfold itemRow Ak.row
  rw [List.getElem?_toArray, Nat.add_comm 3 r]
  simp
set_option maxRecDepth 100000 in
set_option maxHeartbeats 2000000 in
theorem clientsAgain_walk (w : World) (i : Int) (o0 : ∃ n, OKC Try.prog w n 5 [.int .u8 i]) (ac : Array Value) (o1 : ∃ n, OKC Try.prog w n 32 ac.toList) (v : Value) (o2 : ∃ n, OKC Try.prog w n 43 [v]) :
    Calls Try.prog 7 #[.int .u8 i, .agg ac, v] w fun e w' => e = .returned (.bool true) ∧ Ext w w' := by
  obtain ⟨ip, rfl, hip⟩ := okc_nat (top := 256) Try.underlying5 (fun _ h => wf_u8 h) o0
  obtain ⟨n1, o1⟩ := o1
  obtain ⟨x, pa, pc, hac, hpC, hps⟩ := okc_ask o1
  obtain rfl : ac = x.row (.slice pa x.chs.length pc) := by rw [← Array.toList_inj]; exact hac
  obtain ⟨l8, a8, cap8, rfl, hh8, hR8⟩ := okc_u8row Try.underlying43 Try.underlying5 (by kernel_rfl) o2
  clear o0 o1 o2 hac
  obtain ⟨id, hid⟩ : ∃ id, id = 1 + ip % 8 := ⟨_, rfl⟩
  have hid1 : 1 ≤ id := by omega
  have hid8 : id ≤ 8 := by omega
  have eid : IntKind.u8.wrap (1 + (ip : Int) % 8) = (id : Int) := by rw [IntKind.wrap_u8]; omega
  clear hid
  obtain ⟨W, hW⟩ : ∃ W, W = w.alloc (.cells (x.row (.slice pa x.chs.length pc)) 32) := ⟨_, rfl⟩
  have hE : Ext w W := by rw [hW]; exact (Ext.refl w).alloc _
  have hbx : W.heap[w.heap.size]? = some (.cells (x.row (.slice pa x.chs.length pc)) 32 (0, 0)) := by rw [hW]; exact heap_alloc_new _ _
  have hW' := Lib.hid hW
  clear hW
  unfold Ak.row at hW' ⊢
  go_enter Try.func7, Try.ntmps7
  go_wp2_with fail
  rw [← hW'.out]
  clear hW'
  refine (cnew_ok W id (by omega) (by omega)).mono ?_
  rintro e w0 ⟨rfl, hw0⟩
  have hC0 : ClAt w0 W.heap.size id 0 none := by rw [hw0]; exact heap_alloc_new _ _
  have hE0 : Ext W w0 := by rw [hw0]; exact (Ext.refl _).alloc _
  obtain ⟨c, hc⟩ : ∃ c, c = W.heap.size := ⟨_, rfl⟩
  have hcw : w.heap.size < c := by rw [hc]; exact (Array.getElem?_eq_some_iff.1 hbx).1
  rw [← hc] at hC0 ⊢
  have hin : ∀ j, j < W.heap.size → ¬ j = c := fun j hj h => by omega
  have hin' := Lib.hid hin
  clear hw0 hc hin
  by_cases hbig : l8.length ≤ 100
  · have c2 : ¬ (100 : Int) < (l8.length : Int) := by omega
    have hbx0 := hE0.row hbx
    obtain ⟨hrg0, _, _⟩ := ask_cells hbx0
    have e16 : IntKind.u8.wrap (16 + (id : Int)) = 16 + (id : Int) := by rw [IntKind.wrap_u8]; omega
    have hn8 := hR8.2.1
    cases hok : x.okB
    · have hok' := Lib.hid hok
      clear hok
      go_wp2_with (first | (refine wpList_load_mid (by rfl) 32 (.tmp 4) (by rfl) w.heap.size 0 (by rfl) (x.row (.slice pa x.chs.length pc)).toList _ hrg0 Try.underlying32 rfl (by rw [ask_len]; exact info_ask) ?_) | fail)
      refine (cask_arg w0 c id 0 none x pa pc 1 hC0 (by omega) (hpC.ext (hE.trans hE0)) hps (by rw [hok'.out]; rfl)).mono ?_
      rintro e w1 ⟨rfl, hE1⟩
      have hC1 := hC0.ext hE1
      have hE1' := (hE.trans hE0).trans hE1
      clear hrg0 hbx0
      go_wp2_with fail
      go_loopw [12] (fun i wr => ∃ k : Nat, k ≤ l8.length ∧ i = .int .i64 k ∧ ClAt wr c id 0 none ∧ Ext w wr) (fun i _ => l8.length - (intOf i).toNat)
      case atStart => exact ⟨0, by omega, rfl, hC1, hE1'⟩
      case round =>
        obtain ⟨k, hk, rfl, hC, hX⟩ := hrel
        by_cases hlt : k < l8.length
        · have hli : (k : Int) < (l8.length : Int) := by omega
          obtain ⟨b8, off8, hat8⟩ := (hR8.ext hX).at
          obtain ⟨rfl, _, hcell8⟩ := hat8 (by omega)
          obtain ⟨t, ht⟩ : ∃ t, l8[k]? = some t := ⟨_, List.getElem?_eq_getElem hlt⟩
          have q8 := hcell8 k (by omega)
          rw [u8row_at l8 k t ht] at q8
          clear hcell8 hat8 ht
          go_wp2_with fail
          refine (sends_idle _ c id 0 t hC (by omega)).mono ?_
          rintro e w2 ⟨rfl, rfl⟩
          go_wp2_with fail
          go_roundw
          case rel => exact ⟨k + 1, by omega, by go_num, hC, hX⟩
          case measure => simp [intOf]; omega
        · have hli : ¬ (k : Int) < (l8.length : Int) := by omega
          go_wp2_with fail
          refine (waits_idle _ c id 0 hC (by omega)).mono ?_
          rintro e w2 ⟨rfl, rfl⟩
          go_wp2_with fail
          refine (clives_any wr).mono ?_
          rintro e w' ⟨rfl, hx⟩
          go_wp2
          go_ret
          exact ⟨rfl, hX.trans hx⟩
    · have hok' := Lib.hid hok
      clear hok
      go_wp2_with (first | (refine wpList_load_mid (by rfl) 32 (.tmp 4) (by rfl) w.heap.size 0 (by rfl) (x.row (.slice pa x.chs.length pc)).toList _ hrg0 Try.underlying32 rfl (by rw [ask_len]; exact info_ask) ?_) | fail)
      refine (cask_ok w0 c id 0 x pa pc 1 hC0 (by omega) (by omega) (by omega) (hpC.ext (hE.trans hE0)) hps hok'.out (.inl rfl) (fun w' h => (hpC.ext hE).ext (((OffB.of_ext hE0).trans h).ext hin'.out))).mono ?_
      rintro e w1 ⟨rfl, g, ga, gc, hC1, hW1, _, _, hO1⟩
      have hO1' := (OffB.of_ext hE0).trans hO1
      clear hrg0 hbx0
      go_wp2_with fail
      go_loopw [12] (fun i wr => ∃ k : Nat, k ≤ l8.length ∧ i = .int .i64 k ∧ ClAt wr c id (0 + 1) (some ⟨g, 0, none⟩) ∧ WaAt wr g x 1 ga gc ∧ OffB (fun k => k = c) W wr) (fun i _ => l8.length - (intOf i).toNat)
      case atStart => exact ⟨0, by omega, rfl, hC1, hW1, hO1'⟩
      case round =>
        obtain ⟨k, hk, rfl, hC, hWa, hX⟩ := hrel
        by_cases hlt : k < l8.length
        · have hli : (k : Int) < (l8.length : Int) := by omega
          have hXw := hE.trans (hX.ext hin'.out)
          obtain ⟨b8, off8, hat8⟩ := (hR8.ext hXw).at
          obtain ⟨rfl, _, hcell8⟩ := hat8 (by omega)
          obtain ⟨t, ht⟩ : ∃ t, l8[k]? = some t := ⟨_, List.getElem?_eq_getElem hlt⟩
          have q8 := hcell8 k (by omega)
          rw [u8row_at l8 k t ht] at q8
          clear hcell8 hat8 ht
          go_wp2_with fail
          refine (sends_waits _ c g id (0 + 1) t x 1 ga gc hC hWa (by omega) (by omega)).mono ?_
          rintro e w2 ⟨gm, rfl, ⟨gi, gia, hm2, hi2, hch, _, _, _⟩, hE2⟩
          have q9 := hE2.cell q8
          have hC2 := hC.ext hE2
          have hWa2 := hWa.ext hE2
          have hX2 := hX.trans (.of_ext hE2)
          have hXw2 := hXw.trans hE2
          obtain ⟨m0, m1, m2, m4, m5, m10⟩ := msg_cells hm2
          obtain ⟨i1, i2, i3⟩ := item_cells hi2
          have hbx2 := (hX2.ext hin'.out).row hbx
          obtain ⟨hrg2, _, _⟩ := ask_cells hbx2
          have hpC2 := hpC.ext hXw2
          have e01 : (0 : Int) + 1 = 1 := by decide
          rw [e01] at m5 i2
          clear e01 hm2 hi2 hbx2 q8 hE2 hC hWa hXw hX hC1 hW1 hO1 hO1' hE0 hC0 hR8
          go_wp2_with fail
          refine wp_region_class (Ext w2) (by kernel_rfl) (by kernel_rfl) (Ext.refl _).drew ?_
          iterate 7 (refine wpQuiet_step (fun K hK => ?_); go_simp; first | (refine hK _ ?_; clear hK K) | (refine ⟨_, fun _ _ => rfl, hK _ ?_⟩; clear hK K))
          refine wpQuiet_load_cell (by rfl) 59 _ (by rfl) gm 0 (by rfl) _ (fun w' h => h.cell m0) _ Try.underlying59 rfl ?_
          iterate 6 (refine wpQuiet_step (fun K hK => ?_); go_simp; first | (refine hK _ ?_; clear hK K) | (refine ⟨_, fun _ _ => rfl, hK _ ?_⟩; clear hK K))
          refine wpQuiet_load_cell (by rfl) 5 _ (by rfl) gm 1 (by rfl) _ (fun w' h => h.cell m1) _ Try.underlying5 rfl ?_
          iterate 8 (refine wpQuiet_step (fun K hK => ?_); go_simp; first | (refine hK _ ?_; clear hK K) | (refine ⟨_, fun _ _ => rfl, hK _ ?_⟩; clear hK K))
          refine wpQuiet_load_cell (by rfl) 5 _ (by rfl) gm 2 (by rfl) _ (fun w' h => h.cell m2) _ Try.underlying5 rfl ?_
          iterate 3 (refine wpQuiet_step (fun K hK => ?_); go_simp; first | (refine hK _ ?_; clear hK K) | (refine ⟨_, fun _ _ => rfl, hK _ ?_⟩; clear hK K))
          refine wpQuiet_load_cell (by rfl) 5 _ (by rfl) b8 (off8 + k) (by rfl) _ (fun w' h => h.cell q9) _ Try.underlying5 rfl ?_
          iterate 6 (refine wpQuiet_step (fun K hK => ?_); go_simp; first | (refine hK _ ?_; clear hK K) | (refine ⟨_, fun _ _ => rfl, hK _ ?_⟩; clear hK K))
          refine wpQuiet_load_cell (by rfl) 28 _ (by rfl) gm 5 (by rfl) _ (fun w' h => h.cell m5) _ Try.underlying28 rfl ?_
          iterate 7 (refine wpQuiet_step (fun K hK => ?_); go_simp; first | (refine hK _ ?_; clear hK K) | (refine ⟨_, fun _ _ => rfl, hK _ ?_⟩; clear hK K))
          refine wpQuiet_load_cell (by rfl) 53 _ (by rfl) gm 4 (by rfl) _ (fun w' h => h.cell m4) _ Try.underlying53 rfl ?_
          iterate 6 (refine wpQuiet_step (fun K hK => ?_); go_simp; first | (refine hK _ ?_; clear hK K) | (refine ⟨_, fun _ _ => rfl, hK _ ?_⟩; clear hK K))
          refine wpQuiet_load_cell (by rfl) 23 _ (by rfl) gm 10 (by rfl) _ (fun w' h => h.cell m10) _ Try.underlying23 rfl ?_
          iterate 7 (refine wpQuiet_step (fun K hK => ?_); go_simp; first | (refine hK _ ?_; clear hK K) | (refine ⟨_, fun _ _ => rfl, hK _ ?_⟩; clear hK K))
          refine wpQuiet_load_cell (by rfl) 23 _ (by rfl) gm 10 (by rfl) _ (fun w' h => h.cell m10) _ Try.underlying23 rfl ?_
          iterate 2 (refine wpQuiet_step (fun K hK => ?_); go_simp; first | (refine hK _ ?_; clear hK K) | (refine ⟨_, fun _ _ => rfl, hK _ ?_⟩; clear hK K))
          refine wpQuiet_load_cell (by rfl) 28 _ (by rfl) gi 2 (by rfl) _ (fun w' h => h.cell i2) _ Try.underlying28 rfl ?_
          iterate 7 (refine wpQuiet_step (fun K hK => ?_); go_simp; first | (refine hK _ ?_; clear hK K) | (refine ⟨_, fun _ _ => rfl, hK _ ?_⟩; clear hK K))
          refine wpQuiet_load_cell (by rfl) 23 _ (by rfl) gm 10 (by rfl) _ (fun w' h => h.cell m10) _ Try.underlying23 rfl ?_
          iterate 2 (refine wpQuiet_step (fun K hK => ?_); go_simp; first | (refine hK _ ?_; clear hK K) | (refine ⟨_, fun _ _ => rfl, hK _ ?_⟩; clear hK K))
          refine wpQuiet_load_cell (by rfl) 5 _ (by rfl) gi 1 (by rfl) _ (fun w' h => h.cell i1) _ Try.underlying5 rfl ?_
          iterate 7 (refine wpQuiet_step (fun K hK => ?_); go_simp; first | (refine hK _ ?_; clear hK K) | (refine ⟨_, fun _ _ => rfl, hK _ ?_⟩; clear hK K))
          refine wpQuiet_load_cell (by rfl) 23 _ (by rfl) gm 10 (by rfl) _ (fun w' h => h.cell m10) _ Try.underlying23 rfl ?_
          iterate 2 (refine wpQuiet_step (fun K hK => ?_); go_simp; first | (refine hK _ ?_; clear hK K) | (refine ⟨_, fun _ _ => rfl, hK _ ?_⟩; clear hK K))
          refine wpQuiet_load_mid (by rfl) 32 _ (by rfl) gi 3 (by rfl) _ _ (fun w' h r v hv => h.cell (i3 r v hv)) Try.underlying32 rfl (by rw [ask_len]; exact info_ask) ?_
          refine wpQuiet_load_mid (by rfl) 32 _ (by rfl) w.heap.size 0 (by rfl) _ _ (fun w' h r v hv => h.cell (hrg2 r v hv)) Try.underlying32 rfl (by rw [ask_len]; exact info_ask) ?_
          refine wpQuiet_step (fun K hK => ?_)
          go_simp
          refine ⟨_, fun w' hw => calls_ext hw (sameAsk_any w' x gia pa _ pc (hch.ext hw) (hpC2.ext hw)), hK _ ?_⟩; clear hK K
          iterate 2 (refine wpQuiet_step (fun K hK => ?_); go_simp; first | (refine hK _ ?_; clear hK K) | (refine ⟨_, fun _ _ => rfl, hK _ ?_⟩; clear hK K))
          refine wpQuiet_nil (fun w4 hE4 => ?_)
          go_wp2_with fail
          go_roundw
          case rel => exact ⟨k + 1, by omega, by go_num, hC2.ext hE4, hWa2.ext hE4, hX2.trans (.of_ext hE4)⟩
          case measure => simp [intOf]; omega
        · have hli : ¬ (k : Int) < (l8.length : Int) := by omega
          go_wp2_with fail
          refine (waits_waits _ c id (0 + 1) _ hC (by omega)).mono ?_
          rintro e w2 ⟨rfl, rfl⟩
          go_wp2_with fail
          refine (clives_any wr).mono ?_
          rintro e w' ⟨rfl, hx⟩
          go_wp2
          go_ret
          exact ⟨rfl, hE.trans ((hX.trans (.of_ext hx)).ext hin'.out)⟩
  · have c2 : (100 : Int) < (l8.length : Int) := by omega
    go_wp2_with fail
    refine (clives_any w0).mono ?_
    rintro e w' ⟨rfl, hx⟩
    go_wp2
    go_ret
    exact ⟨rfl, (hE.trans hE0).trans hx⟩
end Go.Proofs.Ytdkhcamckjidcaa
