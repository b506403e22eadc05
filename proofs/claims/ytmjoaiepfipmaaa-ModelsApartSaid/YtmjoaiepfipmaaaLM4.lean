/- Great; done. No condition. -/
import Derived.Test.YtmjoaiepfipmaaaLM3
import Derived.Test.YtmjoaiepfipmaaaMod19
import Derived.StillTailTactics
namespace Go.Proofs.Ytmjoaiepfipmaaa
open Go.RowKit
set_option maxRecDepth 100000
set_option maxHeartbeats 2000000
def grB : Nat → List Ac → Bool
  | _, [] => false
  | n, x :: r => if 20000 < n + 1 + x.ask.sz then true else grB (n + 1 + x.ask.sz) r
def greatB (l : List Ac) : Bool := grB 0 l || decide (150 < l.length)
theorem act_ask {w : World} {b o : Nat} {c : Ac} (h : w.rangeAt b o c.cells) : w.rangeAt b (o + 3) (c.ask.row c.av).toList := fun j v hv => by
  have := h (3 + j) v (by unfold Ac.cells; rw [List.getElem?_append_right (by simp)]; simpa using hv)
  rwa [← Nat.add_assoc] at this
theorem great_any (w : World) (l : List Ac) (a : Option Addr) (cap : Nat) (hg : ∀ x ∈ l, x.good w) (hl : l.length ≤ 140737488351232) (h1 : RowIs w 11 (.slice a l.length cap) l.length (l.flatMap Ac.cells)) :
    Calls Try.prog 17 #[.slice a l.length cap] w fun e w' => e = .returned (.bool (greatB l)) ∧ Ext w w' := by
  obtain ⟨R, hR⟩ : ∃ R, R = greatB l := ⟨_, rfl⟩
  rw [← hR]
  have hR' := Lib.hid hR
  have hg' := Lib.hid hg
  clear hR hg
  go_enter Try.func17, Try.ntmps17
  go_wp2_with fail
  go_loopw [3, 4] (fun n i wr => ∃ k N : Nat, k ≤ l.length ∧ n = .int .i64 (N : Int) ∧ i = .int .i64 k ∧ R = (grB N (l.drop k) || decide (150 < l.length)) ∧ N ≤ 20000 ∧ Ext w wr) (fun _ i _ => l.length - (intOf i).toNat)
  case atStart => exact ⟨0, 0, by omega, rfl, rfl, hR'.out, by omega, Ext.refl _⟩
  case round =>
    obtain ⟨k, N, hk, rfl, rfl, hs, hN, hE⟩ := hrel
    have hs' := Lib.hid hs
    clear hs
    by_cases hlt : k < l.length
    · have hli : (k : Int) < (l.length : Int) := by omega
      obtain ⟨c, hc⟩ : ∃ c, l[k]? = some c := ⟨_, List.getElem?_eq_getElem hlt⟩
      obtain ⟨_, _, _, g4, g5⟩ := (hg'.out c (List.mem_of_getElem? hc)).ext hE
      have hdr : l.drop k = c :: l.drop (k + 1) := by
        rw [List.drop_eq_getElem_cons hlt]
        have := List.getElem?_eq_getElem hlt
        rw [hc] at this
        injection this with this
        rw [← this]
      obtain ⟨b, off, hat⟩ := (h1.ext hE).at
      obtain ⟨rfl, _, hd⟩ := hat (by omega)
      have hrg := act_ask (act_range hd hc)
      have hsz := Ak.sz_le g5 g4.2.2 (by have := g4.2.1; omega)
      have hcall := asize_any wr c.ask c.ad c.cap g4 g5
      obtain ⟨S, hS⟩ : ∃ S, S = c.ask.sz := ⟨_, rfl⟩
      rw [← hS] at hcall hsz
      have hS' := Lib.hid hS
      have hdr' := Lib.hid hdr
      have hcall' := Lib.hid hcall
      clear hdr hd hat hc hS hcall g4 g5
      go_wp2_with (first | (refine wpList_load_mid (by rfl) 26 (.tmp 16) (by rfl) b (off + k * 11 + 3) (by rfl) (c.ask.row c.av).toList _ hrg Try.underlying26 rfl (by rw [ask_ln]; exact ask_inf) ?_) | fail)
      refine hcall'.out.mono ?_
      rintro e w2 ⟨rfl, hE2⟩
      clear hrg hcall'
      by_cases hb : 20000 < N + 1 + S
      · have hbi : (20000 : Int) < (N : Int) + 1 + (S : Int) := by omega
        go_wp2_with fail
        go_ret
        exact ⟨by rw [hs'.out, hdr'.out]; unfold grB; rw [← hS'.out, if_pos hb]; rfl, hE.trans hE2⟩
      · have hbi : ¬ (20000 : Int) < (N : Int) + 1 + (S : Int) := by omega
        go_wp2_with fail
        go_roundw
        case rel => exact ⟨k + 1, N + 1 + S, by omega, by go_num, by go_num, by rw [hs'.out, hdr'.out, grB, ← hS'.out, if_neg hb], by omega, hE.trans hE2⟩
        case measure => simp [intOf]; omega
    · have hli : ¬ (k : Int) < (l.length : Int) := by omega
      have hR2 : R = decide (150 < l.length) := by rw [hs'.out, List.drop_eq_nil_of_le (by omega)]; rfl
      have hR3 := Lib.hid hR2
      clear hR2
      by_cases hb : 150 < l.length
      · have hbi : (150 : Int) < (l.length : Int) := by omega
        go_wp2_with fail
        go_ret
        exact ⟨by rw [hR3.out, decide_eq_true hb]; rfl, hE⟩
      · have hbi : ¬ (150 : Int) < (l.length : Int) := by omega
        go_wp2_with fail
        go_ret
        exact ⟨by rw [hR3.out, decide_eq_false hb]; rfl, hE⟩
/-- A state behind acts. -/
def stepA (m : Md) (x : Ac) : Md := if x.kind % 7 < 5 then (m.ans x.cl x.num x.ask).m else m
def doneM (l : List Ac) : Md := l.foldl stepA ⟨[], zSd⟩
theorem stepA_small {m : Md} (h : smallR m.rows) (x : Ac) : smallR (stepA m x).rows := by
  unfold stepA; split
  · exact Md.ans_small h _ _ _
  · exact h
theorem stepA_length (m : Md) (x : Ac) : (stepA m x).rows.length ≤ m.rows.length + 16 := by
  unfold stepA; split
  · exact Md.ans_length m _ _ _
  · omega
theorem steps_small : ∀ (l : List Ac) {m : Md}, smallR m.rows → smallR (l.foldl stepA m).rows
  | [], _, h => h
  | x :: l, _, h => steps_small l (stepA_small h x)
theorem steps_length : ∀ (l : List Ac) (m : Md), (l.foldl stepA m).rows.length ≤ m.rows.length + 16 * l.length
  | [], m => by simp
  | x :: l, m => by
    have h1 := steps_length l (stepA m x)
    have h2 := stepA_length m x
    rw [List.foldl_cons, List.length_cons]; omega
theorem done_small (l : List Ac) : smallR (doneM l).rows := steps_small l (fun r hr => by cases hr)
theorem done_length (l : List Ac) : (doneM l).rows.length ≤ 16 * l.length := by have := steps_length l ⟨[], zSd⟩; simpa [doneM] using this
theorem done_take {l : List Ac} {k : Nat} {c : Ac} (h : l[k]? = some c) : doneM (l.take (k + 1)) = stepA (doneM (l.take k)) c := by
  unfold doneM; rw [List.take_add_one, h, List.foldl_append]; rfl
/-- A pointer to a state that holds m. -/
def NewE (w0 : World) (m : Md) (e : Ending) (w' : World) : Prop := ∃ st mb, e = .returned (.pointer (some ⟨st, 0, none⟩)) ∧ StM w0 w' st mb m
theorem st_newM (w : World) : Calls Try.prog 41 #[] w (NewE w ⟨[], zSd⟩) := by
  refine (st_new w).mono ?_
  rintro e w' ⟨rfl, hS⟩
  obtain ⟨mb, _, hc⟩ := hS.map
  exact ⟨_, mb, rfl, [], hS, rfl, hc⟩
theorem act_cells {w : World} {b o : Nat} {c : Ac} (h : w.rangeAt b o c.cells) : w.cell? ⟨b, o, none⟩ = some (.int .u8 (c.kind : Int)) ∧ w.cell? ⟨b, o + 1, none⟩ = some (.int .u8 (c.cl : Int)) ∧ w.cell? ⟨b, o + 2, none⟩ = some (.int .u32 (c.num : Int)) :=
  ⟨h 0 _ rfl, h 1 _ rfl, h 2 _ rfl⟩
theorem done_any (w : World) (l : List Ac) (a : Option Addr) (cap : Nat) (hg : ∀ x ∈ l, x.good w) (hl : l.length ≤ 1000) (h1 : RowIs w 11 (.slice a l.length cap) l.length (l.flatMap Ac.cells)) :
    Calls Try.prog 20 #[.slice a l.length cap] w (NewE w (doneM l)) := by
  have hg' := Lib.hid hg
  have h1' := Lib.hid h1
  clear hg h1
  go_enter Try.func20, Try.ntmps20
  go_wp2_with fail
  refine (st_newM w).mono ?_
  rintro e w1 ⟨st, mb, rfl, hS⟩
  go_wp2_with fail
  go_loopw [4] (fun i wr => ∃ k : Nat, k ≤ l.length ∧ i = .int .i64 k ∧ StM w wr st mb (doneM (l.take k))) (fun i _ => l.length - (intOf i).toNat)
  case atStart => exact ⟨0, by omega, rfl, hS⟩
  case round =>
    clear hS
    obtain ⟨k, hk, rfl, hS⟩ := hrel
    by_cases hlt : k < l.length
    · have hli : (k : Int) < (l.length : Int) := by omega
      obtain ⟨c, hc⟩ : ∃ c, l[k]? = some c := ⟨_, List.getElem?_eq_getElem hlt⟩
      have hE := hS.ground
      obtain ⟨g1, g2, g3, g4, g5⟩ := (hg'.out c (List.mem_of_getElem? hc)).ext hE
      obtain ⟨b, off, hat⟩ := (h1'.out.ext hE).at
      obtain ⟨rfl, _, hd⟩ := hat (by omega)
      have hrg := act_range hd hc
      have hra := act_ask hrg
      obtain ⟨y0, y1, y2⟩ := act_cells hrg
      have htk := Lib.hid (done_take hc)
      have hbd : (doneM (l.take k)).rows.length ≤ 50000 := by have := done_length (l.take k); rw [List.length_take] at this; omega
      have hcall := do_all (m := doneM (l.take k)) (hS.ext (Ext.refl wr).drew) (done_small _) hbd c.cl c.num c.ask c.ad c.cap (ChsAt.ext g4 (Ext.refl wr).drew) g5
      have hcall' := Lib.hid hcall
      clear hd hat hc hcall g4 g5
      by_cases h7 : c.kind % 7 < 5
      · have z0 := hra 0 _ rfl
        have z1 := hra 1 _ rfl
        have z2 := hra 2 _ rfl
        have z3 := hra 3 _ rfl
        have z4 := hra 4 _ rfl
        have z5 := hra 5 _ rfl
        have z6 := hra 6 _ rfl
        have z7 := hra 7 _ rfl
        rw [Nat.add_zero] at z0
        unfold Ac.av at z7
        unfold Ak.row at hcall'
        clear hrg hra
        go_upto_region 6 with fail
        clear y0
        go_still_tail 16, (by kernel_rfl)
        change wpList _ _ _ _ _ wr.drew
        clear y1 y2 z0 z1 z2 z3 z4 z5 z6 z7 hS
        go_wp2_with fail
        refine hcall'.out.mono ?_
        rintro e w2 ⟨ra, rc, rfl, _, _, hS2, _⟩
        have hfin : StM w w2 st mb (doneM (l.take (k + 1))) := by rw [htk.out]; unfold stepA; rw [if_pos h7]; exact hS2
        have hfin' := Lib.hid hfin
        clear hfin hS2 hcall'
        go_wp2_with fail
        go_roundw
        case rel => exact ⟨k + 1, by omega, by go_num, hfin'.out⟩
        case measure => simp [intOf]; omega
      · have hfin : StM w wr st mb (doneM (l.take (k + 1))) := by rw [htk.out]; unfold stepA; rw [if_neg h7]; exact hS
        have hfin' := Lib.hid hfin
        clear hfin hcall' hrg hra
        go_wp2_with fail
        go_roundw
        case rel => exact ⟨k + 1, by omega, by go_num, hfin'.out⟩
        case measure => simp [intOf]; omega
    · have hli : ¬ (k : Int) < (l.length : Int) := by omega
      have hkl : l.take k = l := List.take_of_length_le (by omega)
      rw [hkl] at hS
      clear hkl
      go_wp2_with fail
      go_ret
      exact ⟨st, mb, rfl, hS⟩
end Go.Proofs.Ytmjoaiepfipmaaa
