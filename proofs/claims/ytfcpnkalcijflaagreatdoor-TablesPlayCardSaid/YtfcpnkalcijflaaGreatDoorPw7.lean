/- TablesPlay: the walk. No condition. -/
import Derived.Test.YtfcpnkalcijflaaGreatDoorPa7
import Derived.Test.YtfcpnkalcijflaaGreatDoorTbW
import Derived.Deep.RegionHeld3
namespace Go.Proofs.YtfcpnkalcijflaaGreatDoor
open Go.RowKit
set_option maxRecDepth 100000
set_option maxHeartbeats 4000000
theorem pl_begin {w0 w : World} {tb hd rb g : Nat} (hT : TabW w0) (h0 : Ext w0 w) (hS : SkAt w tb hd []) (h1 : w0.heap.size ≤ tb) (h2 : w0.heap.size ≤ hd) (hrow : w.heap[rb]? = some (.cells #[.slice none 0 0] 29 (0, 0))) (h3 : w0.heap.size ≤ rb) (hbk : w.heap[g]? = some (.cells (bkRow 0 fun _ => (.slice none 0 0, [])) 44 (0, 0))) (h4 : w0.heap.size ≤ g)
    (n1 : tb ≠ rb) (n2 : hd ≠ rb) (n3 : tb ≠ g) (n4 : hd ≠ g) (n5 : rb ≠ g) : PlayI (fun _ => False) w0 tb rb g 0 [] [] w := by
  have hsk : ∀ k, skB tb hd [] k → k = tb ∨ k = hd := fun k hk => by
    rcases hk with h | h | ⟨n, hn, _⟩
    · exact .inl h
    · exact .inr h
    · cases hn
  refine ⟨hd, [], fun k => k = rb, fun k => k = g, h0, hS, rfl, fun k hk => ?_, ⟨none, 0, hrow, h3, OwnC.nil _ _ _ _, fun q hq => (by cases hq), fun k => ⟨.inl, fun h => ?_⟩⟩, BkZ.start hbk h4 (fun W hW => tabW_ext hT (Below.trans h0 hW)), fun k hk hz => ?_, fun k hk hz => ?_, fun k hk hz => n5 (hk.symm.trans hz), fun _ h => h.elim⟩
  · rcases hsk k hk with rfl | rfl
    · exact h1
    · exact h2
  · rcases h with h | h
    · exact h
    · cases h
  · rcases hsk k hk with rfl | rfl
    · exact n1 hz
    · exact n2 hz
  · rcases hsk k hk with rfl | rfl
    · exact n3 hz
    · exact n4 hz
theorem exec_neq_en (o : Oper) (a : Act) (x y : Operand) (ho : o.op = .binOp .neq 49 x y 49) (m n : En) (hx : a.eval x = .agg (enRow m)) (hy : a.eval y = .agg (enRow n)) (w : World) : (execOp a.eval o).run Tryz.prog w = .ok (.value (.bool (!sameEB m n))) w := by
  unfold execOp
  simp only [ho, hx, hy, enRow]
  have hs : ((m.mark.seq : Int) = (n.mark.seq : Int)) ↔ m.mark.seq = n.mark.seq := by omega
  go_simp
  unfold sameEB sameB
  by_cases h1 : m.mark.key.toList = n.mark.key.toList <;> by_cases h2 : m.mark.seq = n.mark.seq <;> by_cases h3 : m.mark.gone = n.mark.gone <;> by_cases h4 : m.val.toList = n.val.toList <;> simp [h1, h2, h3, h4]
theorem wpList_neq_en {ops : Array Oper} {rest : List Oper} {o : Oper} {a : Act} {Q : Exit → Act → World → Prop} {w : World} (hgd : o.guard = none) (x y : Operand) (ho : o.op = .binOp .neq 49 x y 49) (e : En) (hx : a.eval x = .agg (enRow e)) (hy : a.eval y = .agg (enRow e))
    (h : wpList Tryz.prog ops Q rest (a.put o.dst (.bool false)) w) : wpList Tryz.prog ops Q (o :: rest) a w := by
  refine wpList_plain hgd fun K hK => ?_
  unfold Oper.wp
  rw [exec_neq_en o a x y ho e e hx hy w, show sameEB e e = true from sameE_iff.2 rfl]
  exact hK _ _ h
theorem tablesPlay_walk (w : World) (hT : TabW w) (v0 : Value) (o0 : ∃ n, OKC Tryz.prog w n 22 [v0]) :
    Calls Tryz.prog 3 #[v0] w fun e w' => e = .returned (.bool true) ∧ Ext w w' := by
  obtain ⟨l, a, cap, rfl, hg, h1, hby⟩ := okc_acts o0
  obtain ⟨n, hn⟩ : ∃ n, n = l.length := ⟨_, rfl⟩
  rw [← hn] at h1 hby ⊢
  have hgr := Lib.hid (great_any w l a cap n hn hg hby h1)
  have hn' := Lib.hid hn
  have hR' := Lib.hid h1
  have hg' := Lib.hid hg
  have hT' := Lib.hid hT
  clear o0 hg h1 hn hT
  go_enter Tryz.func3, Tryz.ntmps3
  go_wp2_with fail
  refine hgr.out.mono ?_
  rintro e w1 ⟨b, rfl, hb, hE1⟩
  clear hgr
  cases b with
  | true =>
    clear hb
    go_wp2_with fail
    go_ret
    exact ⟨rfl, hE1⟩
  | false =>
    have hn3 := hb rfl
    clear hb
    go_wp2_with fail
    refine (tnew_any w1).mono ?_
    rintro e w2 ⟨rfl, hS2, hE2⟩
    have s1 := hE1.size
    have s2 : w1.heap.size + 1 < w2.heap.size := hS2.lt (.inl rfl)
    obtain ⟨W3, hW3⟩ : ∃ W, W = (w2.alloc (.cells #[.slice none 0 0] 29)).alloc (.cells (bkRow 0 fun _ => (.slice none 0 0, [])) 44) := ⟨_, rfl⟩
    obtain ⟨rb, hrb⟩ : ∃ z, z = w2.heap.size := ⟨_, rfl⟩
    obtain ⟨tb, htb⟩ : ∃ z, z = w1.heap.size + 1 := ⟨_, rfl⟩
    have hE3 : Ext w2 W3 := by rw [hW3]; exact ((Ext.refl _).alloc _).alloc _
    have hP := Lib.hid (pl_begin (rb := rb) (g := rb + 1) (w := W3) (tb := w1.heap.size + 1) (hd := w1.heap.size) hT'.out ((hE1.trans hE2).trans hE3) (hS2.ext hE3) (by omega) (by omega) (by rw [hW3, hrb]; exact ((Ext.refl _).alloc _).row (heap_alloc_new w2 _)) (by omega) (by
      have := heap_alloc_new (w2.alloc (.cells #[.slice none 0 0] 29)) (.cells (bkRow 0 fun _ => (.slice none 0 0, [])) 44)
      rw [show (w2.alloc (.cells #[.slice none 0 0] 29)).heap.size = rb + 1 by rw [hrb]; simp] at this
      rw [hW3]; exact this) (by omega) (by omega) (by omega) (by omega) (by omega) (by omega))
    rw [← htb] at hP
    have hW3f : W3 = (w2.alloc (.cells #[.slice none 0 0] 29)).alloc (.cells #[.int .i64 0, .slice none 0 0, .slice none 0 0, .slice none 0 0, .slice none 0 0, .slice none 0 0, .slice none 0 0, .slice none 0 0, .slice none 0 0, .slice none 0 0, .slice none 0 0, .slice none 0 0, .slice none 0 0, .slice none 0 0] 44) := hW3
    have hW3' := Lib.hid hW3f
    have hrb' := Lib.hid hrb
    have htb' := Lib.hid htb
    rw [← htb]
    clear hS2 hE1 hE2 hE3 s1 s2 hW3 hW3f hrb htb
    go_wp2_with fail
    rw [← hrb'.out, ← hW3'.out]
    go_loopw [6, 7, 8, 9, 10, 11, 12] (fun i _ _ _ _ _ _ wr => ∃ (k nb : Nat) (L : List En), i = .int .i64 k ∧ k ≤ n ∧ nb ≤ k ∧ L.length ≤ k ∧ Hid (PlayI (fun _ => False) w tb rb (rb + 1) nb L L wr)) (fun i _ _ _ _ _ _ _ => n - (intOf i).toNat)
    case atStart => exact ⟨0, 0, [], rfl, by omega, by omega, by simp, hP⟩
    case round =>
      obtain ⟨k, nb, L, rfl, hk, hnb, hLk, hP⟩ := hrel
      have hE := hP.out.grown
      by_cases hlt : k < n
      · have hli : (k : Int) < (n : Int) := by omega
        obtain ⟨c, hc⟩ : ∃ c, l[k]? = some c := ⟨_, List.getElem?_eq_getElem (by rw [← hn'.out]; exact hlt)⟩
        obtain ⟨gk, gs⟩ := hg'.out c (List.mem_of_getElem? hc)
        obtain ⟨b, off, hat⟩ := (hR'.out.ext hE).at
        obtain ⟨rfl, _, hd⟩ := hat (by omega)
        have hrg := act_range (by rw [← hn'.out]; exact hd) hc
        obtain ⟨Wk, hWk⟩ : ∃ W, W = wr.alloc (.cells c.row 51) := ⟨_, rfl⟩
        obtain ⟨X, hX⟩ : ∃ X, X = wr.heap.size := ⟨_, rfl⟩
        have hEk : Ext wr Wk := by rw [hWk]; exact (Ext.refl _).alloc _
        have hPk : Hid (PlayI (fun k => k = X) w tb rb (rb + 1) nb L L Wk) := Lib.hid (hP.out.hold hEk (by omega) (by rw [hWk, hX]; simp))
        have hXr : Hid (∀ W, OffB (fun k => ¬ k = X) Wk W → W.heap[X]? = some (.cells c.row 51 (0, 0))) := Lib.hid (fun W hO => by
          have h1 : Wk.heap[X]? = some (.cells c.row 51 (0, 0)) := by rw [hWk, hX]; exact heap_alloc_new wr _
          rw [hO.block X (Array.getElem?_eq_some_iff.1 h1).1 (fun h => h rfl)]
          exact h1)
        have hS : Hid (∀ W, OffB (fun k => ¬ k = X) Wk W → W.cell? ⟨X, 0, none⟩ = some (.int .u8 (c.kind : Int)) ∧ W.cell? ⟨X, 1, none⟩ = some (.string c.x.mark.key) ∧ W.cell? ⟨X, 2, none⟩ = some (.int .u64 (c.x.mark.seq : Int)) ∧ W.cell? ⟨X, 3, none⟩ = some (.bool c.x.mark.gone) ∧ W.cell? ⟨X, 4, none⟩ = some (.string c.x.val) ∧ W.cell? ⟨X, 5, none⟩ = some (.int .i64 c.n)) := Lib.hid (fun W hO => by
          have h2 := hXr.out W hO
          exact ⟨by rw [cell_of_row _ _ _ _ _ _ h2]; rfl, by rw [cell_of_row _ _ _ _ _ _ h2]; rfl, by rw [cell_of_row _ _ _ _ _ _ h2]; rfl, by rw [cell_of_row _ _ _ _ _ _ h2]; rfl, by rw [cell_of_row _ _ _ _ _ _ h2]; rfl, by rw [cell_of_row _ _ _ _ _ _ h2]; rfl⟩)
        have hLr := Lib.hid hP.out.rises
        have hLf := Lib.hid hP.out.fit
        have hLs : Hid (∀ e ∈ L, e.small) := Lib.hid (fun e he => by have := hLf.out e he; exact ⟨by omega, by omega⟩)
        have hWk' := Lib.hid hWk
        have hX' := Lib.hid hX
        clear hd hat hc hE hEk hWk hX hP
        go_upto_region 12 with (first | (refine wpList_load_mid (by rfl) 51 (.tmp 30) (by rfl) b (off + k * 6) (by rfl) c.row.toList _ hrg Tryz.underlying51 rfl (by exact info_act) ?_) | (refine wpList_store_whole (by rfl) 51 (.tmp 7) (.tmp 31) (by rfl) wr _ c.row wr.heap.size (by rfl) rfl (by rfl) info_act rfl (act_one c) ?_) | fail)
        rw [← hWk'.out, ← hX'.out]
        clear hrg
        obtain ⟨x0, x1, x2, x3, x4, x5⟩ := hS.out Wk (OffB.refl _)
        have hS5 : Hid (∀ W, OffB (fun k => ¬ k = X) Wk W → W.cell? ⟨X, 1, none⟩ = some (.string c.x.mark.key) ∧ W.cell? ⟨X, 2, none⟩ = some (.int .u64 (c.x.mark.seq : Int)) ∧ W.cell? ⟨X, 3, none⟩ = some (.bool c.x.mark.gone) ∧ W.cell? ⟨X, 4, none⟩ = some (.string c.x.val) ∧ W.cell? ⟨X, 5, none⟩ = some (.int .i64 c.n)) := Lib.hid (fun W hO => (hS.out W hO).2)
        go_upto_region 17 with fail
        rcases (show (c.kind : Int) % 6 = 4 ∨ (c.kind : Int) % 6 = 5 ∨ ((c.kind : Int) % 6 = 0 ∨ (c.kind : Int) % 6 = 1 ∨ (c.kind : Int) % 6 = 2 ∨ (c.kind : Int) % 6 = 3) by omega) with hq | hq | hq
        · rw [hq]
          clear hq
          go_wp2_with fail
          refine (pl_tget hPk.out c.x.mark.key c.x.mark.seq).mono ?_
          rintro e w3 ⟨rfl, hE3⟩
          obtain ⟨E, hEe⟩ : ∃ E, Hid (E = (getS L c.x.mark.key c.x.mark.seq).getD zEn) := ⟨_, Lib.hid rfl⟩
          obtain ⟨B, hBe⟩ : ∃ B, Hid (B = (getS L c.x.mark.key c.x.mark.seq).isSome) := ⟨_, Lib.hid rfl⟩
          rw [← hEe.out, ← hBe.out]
          obtain ⟨W4, hW4⟩ : ∃ W, Hid (W = w3.alloc (.cells (enRow E) 49)) := ⟨_, Lib.hid rfl⟩
          have hE4 : Ext Wk W4 := by rw [hW4.out]; exact hE3.alloc _
          have hr4 : Hid (W4.heap[w3.heap.size]? = some (.cells (enRow E) 49 (0, 0))) := Lib.hid (by rw [hW4.out]; exact heap_alloc_new w3 _)
          obtain ⟨v0, v1, v2, v3, v4, v5⟩ := hS.out W4 (.of_ext hE4)
          clear x0 x1 x2 x3 x4 x5
          rw [hW4.out] at v0 v1 v2 v3 v4 v5
          go_wp2_with (first | (refine wpList_store_whole (by rfl) 49 (.tmp 8) (.tmp 85) (by rfl) w3 _ (enRow E) w3.heap.size (by rfl) rfl (by rfl) info_entry rfl (en_one E) ?_) | fail)
          rw [← hW4.out]
          clear v0 v1 v2 v3 v4 v5
          refine (pl_rget (hPk.out.ext hE4) hLr.out c.x.mark.key c.x.mark.seq).mono ?_
          rintro e w5 ⟨rfl, hE5⟩
          rw [← hEe.out, ← hBe.out]
          have hE45 := hE4.trans hE5
          have q1 : (w5.alloc (.cells (enRow E) 49)).rangeAt w3.heap.size 0 (enRow E).toList := en_range ((hE5.alloc _).row hr4.out)
          have q2 : (w5.alloc (.cells (enRow E) 49)).rangeAt w5.heap.size 0 (enRow E).toList := en_range (heap_alloc_new w5 _)
          have hP6 : PlayI (fun k => k = X) w tb rb (rb + 1) nb L L (w5.alloc (.cells (enRow E) 49)) := hPk.out.ext (hE45.alloc _)
          have hP6' := Lib.hid hP6
          clear hP6 hE5
          go_upto_region 28 with (first | (refine wpList_store_whole (by rfl) 49 (.tmp 10) (.tmp 98) (by rfl) w5 _ (enRow E) w5.heap.size (by rfl) rfl (by rfl) info_entry rfl (en_one E) ?_) | (refine wpList_load_mid (by rfl) 49 (.tmp 8) (by rfl) w3.heap.size 0 (by rfl) (enRow E).toList _ q1 Tryz.underlying49 rfl (by exact info_entry) ?_) | (refine wpList_load_mid (by rfl) 49 (.tmp 10) (by rfl) w5.heap.size 0 (by rfl) (enRow E).toList _ q2 Tryz.underlying49 rfl (by exact info_entry) ?_) | (refine wpList_neq_en (by rfl) (.tmp 100) (.tmp 101) (by rfl) E (by rfl) (by rfl) ?_) | fail)
          clear q1 q2
          obtain ⟨Lz, hLz⟩ : ∃ z, Hid (z = L) := ⟨_, Lib.hid rfl⟩
          have hPz := hP6'.out
          rw [← hLz.out] at hPz
          have hPz' := Lib.hid hPz
          have hzl : Lz.length ≤ k + 1 := by rw [hLz.out]; exact by omega
          clear hPz
          go_wp2_with fail
          refine (pl_tlen hPz'.out).mono ?_
          rintro e y1 ⟨rfl, hY1⟩
          have hp1 := Lib.hid (hPz'.out.ext hY1)
          go_wp2_with fail
          refine (pl_rlen hp1.out).mono ?_
          rintro e y2 ⟨rfl, hY2⟩
          have hp2 := Lib.hid (hp1.out.ext hY2)
          go_wp2_with fail
          refine (pl_tbytes hp2.out).mono ?_
          rintro e y3 ⟨rfl, hY3⟩
          have hp3 := Lib.hid (hp2.out.ext hY3)
          go_wp2_with fail
          refine (pl_rbytes hp3.out (by omega) hp3.out.fit).mono ?_
          rintro e y4 ⟨rfl, hY4⟩
          have hp4 := Lib.hid (hp3.out.ext hY4)
          go_wp2_with fail
          go_roundw
          case rel => exact ⟨k + 1, nb, Lz, by go_num, by omega, by omega, hzl, Lib.hid hp4.out.loose⟩
          case measure => simp [intOf]; omega
        · rw [hq]
          clear hq
          go_wp2_with fail
          refine (pl_tfrom hPk.out (by omega) c.x.mark c.n).mono ?_
          rintro e w3 ⟨fa, fc, rfl, hF, hE3⟩
          obtain ⟨F, hFe⟩ : ∃ F, Hid (F = (restL L c.x.mark).take c.n.toNat) := ⟨_, Lib.hid rfl⟩
          rw [← hFe.out] at hF ⊢
          have hF' := Lib.hid hF
          have hfl : F.length ≤ 300 := by
            have h1 := congrArg List.length (ahead_rest L c.x.mark)
            rw [List.length_append] at h1
            rw [hFe.out, List.length_take]; omega
          obtain ⟨v0, v1, v2, v3, v4, v5⟩ := hS.out w3 (.of_ext hE3)
          clear x0 x1 x2 x3 x4 x5 hF
          go_wp2_with fail
          refine (pl_rfrom (hPk.out.ext hE3) hLr.out hLs.out (by omega) c.x.mark gs.1 c.n).mono ?_
          rintro e w4 ⟨ga, gc, rfl, hG, hE4⟩
          rw [← hFe.out] at hG ⊢
          have hG' := Lib.hid hG
          have hE34 := hE3.trans hE4
          have hF4 := Lib.hid (hF'.out.ext hE4)
          clear v0 v1 v2 v3 v4 v5 hG
          go_wp2_with fail
          refine (same_any w4 F F fa ga fc gc hF4.out.row hG'.out.row).mono ?_
          rintro e w5 ⟨rfl, hE5⟩
          rw [decide_eq_true (rfl : F = F)]
          have hE35 := hE34.trans hE5
          have hF5 := Lib.hid (hF4.out.ext hE5)
          go_wp2_with fail
          refine (pl_keep hPk.out hE35 (by omega) fa F.length fc _ hF5.out (by omega)).mono ?_
          rintro e w6 ⟨rfl, hP6, _⟩
          have hP6' := Lib.hid hP6
          clear hP6 hE3 hE4 hE5 hE34 hE35 hF' hF4 hF5 hG'
          go_upto_region 28 with fail
          obtain ⟨Lz, hLz⟩ : ∃ z, Hid (z = L) := ⟨_, Lib.hid rfl⟩
          have hPz := hP6'.out
          rw [← hLz.out] at hPz
          have hPz' := Lib.hid hPz
          have hzl : Lz.length ≤ k + 1 := by rw [hLz.out]; exact by omega
          clear hPz
          go_wp2_with fail
          refine (pl_tlen hPz'.out).mono ?_
          rintro e y1 ⟨rfl, hY1⟩
          have hp1 := Lib.hid (hPz'.out.ext hY1)
          go_wp2_with fail
          refine (pl_rlen hp1.out).mono ?_
          rintro e y2 ⟨rfl, hY2⟩
          have hp2 := Lib.hid (hp1.out.ext hY2)
          go_wp2_with fail
          refine (pl_tbytes hp2.out).mono ?_
          rintro e y3 ⟨rfl, hY3⟩
          have hp3 := Lib.hid (hp2.out.ext hY3)
          go_wp2_with fail
          refine (pl_rbytes hp3.out (by omega) hp3.out.fit).mono ?_
          rintro e y4 ⟨rfl, hY4⟩
          have hp4 := Lib.hid (hp3.out.ext hY4)
          go_wp2_with fail
          go_roundw
          case rel => exact ⟨k + 1, nb + 1, Lz, by go_num, by omega, by omega, hzl, Lib.hid hp4.out.loose⟩
          case measure => simp [intOf]; omega
        · have hput : Hid (∀ W, PlayI (fun k => k = X) w tb rb (rb + 1) nb L L W → Calls Tryz.prog 6 #[.pointer (some ⟨tb, 0, none⟩), .agg #[.string c.x.mark.key, .int .u64 (c.x.mark.seq : Int), .bool c.x.mark.gone, .string c.x.val], .int .i64 c.n] W fun e w' => e = .returned (.int .i64 (putC L c.x c.n)) ∧ PlayI (fun k => k = X) w tb rb (rb + 1) nb (putL L c.x c.n) L w' ∧ OffB (fun k => ¬ k = X) W w') := Lib.hid (fun W h => pl_tput h c.x c.n (by omega) gs)
          have hrput : Hid (∀ W, PlayI (fun k => k = X) w tb rb (rb + 1) nb (putL L c.x c.n) L W → Calls Tryz.prog 7 #[.pointer (some ⟨rb, 0, none⟩), .agg #[.string c.x.mark.key, .int .u64 (c.x.mark.seq : Int), .bool c.x.mark.gone, .string c.x.val], .int .i64 c.n] W fun e w' => e = .returned (.int .i64 (putC L c.x c.n)) ∧ PlayI (fun k => k = X) w tb rb (rb + 1) nb (putL L c.x c.n) (putL L c.x c.n) w' ∧ OffB (fun k => ¬ k = X) W w') := Lib.hid (fun W h => pl_rput h c.x c.n hLr.out hLs.out (by omega) gs)
          have hL2 : (putL L c.x c.n).length ≤ k + 1 := by have := putL_length L c.x c.n; omega
          obtain ⟨C, hC⟩ : ∃ C, Hid (C = putC L c.x c.n) := ⟨_, Lib.hid rfl⟩
          obtain ⟨L2, hL2e⟩ : ∃ z, Hid (z = putL L c.x c.n) := ⟨_, Lib.hid rfl⟩
          rw [← hC.out, ← hL2e.out] at hput hrput
          rw [← hL2e.out] at hL2
          clear x0 x1 x2 x3 x4 x5
          obtain ⟨x0, x1, x2, x3, x4, x5⟩ := hS.out Wk (OffB.refl _)
          rcases hq with hq | hq | hq | hq
          all_goals
            rw [hq]
            clear hq
            go_upto_region 21 with fail
            go_region_held3 (fun w' => w'.cell? ⟨X, 1, none⟩ = some (.string c.x.mark.key) ∧ w'.cell? ⟨X, 2, none⟩ = some (.int .u64 (c.x.mark.seq : Int)) ∧ w'.cell? ⟨X, 3, none⟩ = some (.bool c.x.mark.gone) ∧ w'.cell? ⟨X, 4, none⟩ = some (.string c.x.val) ∧ w'.cell? ⟨X, 5, none⟩ = some (.int .i64 c.n)) ((refine hS5.out _ ?_; first | exact .of_ext (Ext.refl _).drew | exact (OffB.of_ext (Ext.refl _).drew).trans hO3 | exact ((OffB.of_ext (Ext.refl _).drew).trans hO3).trans hO4)) (first | (go_at_call 6; refine (hput.out _ (hPk.out.ext (Ext.refl _).drew)).mono ?_; rintro e w3 ⟨rfl, hP3, hO3⟩; have hP3' := Lib.hid hP3; clear hP3) | (go_at_call 7; refine (hrput.out _ hP3'.out).mono ?_; rintro e w4 ⟨rfl, hP4, hO4⟩; have hP4' := Lib.hid hP4; clear hP4) | fail)
            all_goals
              go_upto_region 28 with fail
              have hPz' := hP4'
              have hzl := hL2
              go_wp2_with fail
              refine (pl_tlen hPz'.out).mono ?_
              rintro e y1 ⟨rfl, hY1⟩
              have hp1 := Lib.hid (hPz'.out.ext hY1)
              go_wp2_with fail
              refine (pl_rlen hp1.out).mono ?_
              rintro e y2 ⟨rfl, hY2⟩
              have hp2 := Lib.hid (hp1.out.ext hY2)
              go_wp2_with fail
              refine (pl_tbytes hp2.out).mono ?_
              rintro e y3 ⟨rfl, hY3⟩
              have hp3 := Lib.hid (hp2.out.ext hY3)
              go_wp2_with fail
              refine (pl_rbytes hp3.out (by omega) hp3.out.fit).mono ?_
              rintro e y4 ⟨rfl, hY4⟩
              have hp4 := Lib.hid (hp3.out.ext hY4)
              go_wp2_with fail
              go_roundw
              case rel => exact ⟨k + 1, nb, L2, by go_num, by omega, by omega, hzl, Lib.hid hp4.out.loose⟩
              case measure => simp [intOf]; omega
      · have hli : ¬ (k : Int) < (n : Int) := by omega
        have hLr := Lib.hid hP.out.rises
        have hLf := Lib.hid hP.out.fit
        have hLs : Hid (∀ e ∈ L, e.small) := Lib.hid (fun e he => by have := hLf.out e he; exact ⟨by omega, by omega⟩)
        go_wp2_with fail
        refine (pl_tfrom hP.out (by omega) ⟨⟨#[]⟩, 0, false⟩ 5000).mono ?_
        rintro e w3 ⟨fa, fc, rfl, hF, hE3⟩
        obtain ⟨F, hFe⟩ : ∃ F, Hid (F = (restL L ⟨⟨#[]⟩, 0, false⟩).take (5000 : Int).toNat) := ⟨_, Lib.hid rfl⟩
        rw [← hFe.out] at hF ⊢
        have hfl : F.length ≤ 300 := by
          have h1 := congrArg List.length (ahead_rest L ⟨⟨#[]⟩, 0, false⟩)
          rw [List.length_append] at h1
          rw [hFe.out, List.length_take]; omega
        go_wp2_with fail
        refine (pl_keep hP.out hE3 (by omega) fa F.length fc _ hF (by omega)).mono ?_
        rintro e w4 ⟨rfl, hP4, _, hF4⟩
        have hP4' := Lib.hid hP4
        have hF4' := Lib.hid hF4
        clear hP4 hF4 hF hP hE3
        go_wp2_with fail
        refine (pl_rfrom hP4'.out hLr.out hLs.out (by omega) ⟨⟨#[]⟩, 0, false⟩ (by show 0 ≤ 140737488351232; omega) 5000).mono ?_
        rintro e w5 ⟨ga, gc, rfl, hG, hE5⟩
        rw [← hFe.out] at hG ⊢
        have hG' := Lib.hid hG
        have hF5 := Lib.hid (hF4'.out.ext hE5)
        have hP5 := Lib.hid (hP4'.out.ext hE5)
        clear hG
        go_wp2_with fail
        refine (same_any w5 F F fa ga fc gc hF5.out.row hG'.out.row).mono ?_
        rintro e w6 ⟨rfl, hE6⟩
        rw [decide_eq_true (rfl : F = F)]
        have hP6 := Lib.hid (hP5.out.ext hE6)
        have hnt : nb + 1 < numTop := by
          have : numTop = 1000 := rfl
          omega
        go_wp2_with fail
        refine (pl_apart hP6.out hnt).mono ?_
        rintro e w7 ⟨rfl, hE7⟩
        go_wp2_with fail
        go_ret
        exact ⟨rfl, hE7⟩
end Go.Proofs.YtfcpnkalcijflaaGreatDoor
