/- Several texts in one: LM2 LM3 LM4 LM1. No condition. -/
import Derived.Test.YthageoibkeebhaaGreatDoorGrH
import Derived.Test.YthageoibkeebhaaGreatDoorMod19
import Derived.StillTailTactics
/- ChangesSize, AskSize. No condition. -/
namespace Go.Proofs.YthageoibkeebhaaGreatDoor
open Go.RowKit
def cszAux : Nat → List Ch → Nat
  | n, [] => n
  | n, x :: r => if n ≤ 1048576 then cszAux (n + x.key.size + x.val.size) r else n
set_option maxRecDepth 100000 in
set_option maxHeartbeats 1000000 in
theorem csize_any (w : World) (l : List Ch) (a : Option Addr) (cap : Nat) (hg : ∀ x ∈ l, x.small) (hl : l.length ≤ 140737488351232) (h1 : RowIs w 3 (.slice a l.length cap) l.length (l.flatMap Ch.cells)) :
    Calls Tryz.prog 145 #[.slice a l.length cap] w fun e w' => e = .returned (.int .i64 (cszAux l.length l : Nat)) ∧ Ext w w' := by
  obtain ⟨S, hS⟩ : ∃ S, S = cszAux l.length l := ⟨_, rfl⟩
  rw [← hS]
  have hS' := Lib.hid hS
  clear hS
  go_enter Tryz.func145, Tryz.ntmps145
  go_wp2_with fail
  go_loopw [3, 4] (fun n i wr => ∃ k N : Nat, k ≤ l.length ∧ n = .int .i64 (N : Int) ∧ i = .int .i64 k ∧ S = cszAux N (l.drop k) ∧ N ≤ 500000000000000 ∧ Ext w wr) (fun _ i _ => l.length - (intOf i).toNat)
  case atStart => exact ⟨0, l.length, by omega, rfl, rfl, hS'.out, by omega, Ext.refl _⟩
  case round =>
    obtain ⟨k, N, hk, rfl, rfl, hs, hN, hE⟩ := hrel
    have hs' := Lib.hid hs
    clear hs
    by_cases hlt : k < l.length
    · have hli : (k : Int) < (l.length : Int) := by omega
      obtain ⟨c, hc⟩ : ∃ c, l[k]? = some c := ⟨_, List.getElem?_eq_getElem hlt⟩
      obtain ⟨g1, g2⟩ := hg c (List.mem_of_getElem? hc)
      have hdr : l.drop k = c :: l.drop (k + 1) := by
        rw [List.drop_eq_getElem_cons hlt]
        have := List.getElem?_eq_getElem hlt
        rw [hc] at this
        injection this with this
        rw [← this]
      have hdr' := Lib.hid hdr
      clear hdr
      by_cases hsm : N ≤ 1048576
      · have hsi : (N : Int) ≤ 1048576 := by omega
        obtain ⟨b, off, hat⟩ := (h1.ext hE).at
        obtain ⟨rfl, _, hd⟩ := hat (by omega)
        have p := ch_range hd hc
        have p0 := p 0 _ rfl
        have p3 := p 1 _ rfl
        rw [Nat.add_zero] at p0
        clear hd hat p hc
        have e1 : IntKind.i64.wrap ((N : Int) + (c.key.size : Int)) = (N : Int) + (c.key.size : Int) := by rw [IntKind.wrap_i64]; omega
        have e2 : IntKind.i64.wrap ((N : Int) + (c.key.size : Int) + (c.val.size : Int)) = (N : Int) + (c.key.size : Int) + (c.val.size : Int) := by rw [IntKind.wrap_i64]; omega
        go_wp2_with fail
        go_still (by kernel_rfl)
        change Exit.inBlock _ _ _ _ wr.drew
        go_wp2_with fail
        go_roundw
        case rel => exact ⟨k + 1, N + c.key.size + c.val.size, by omega, by go_num, by go_num, by rw [hs'.out, hdr'.out]; simp [cszAux, hsm], by omega, hE.drew⟩
        case measure => simp [intOf]; omega
      · have hsi : ¬ (N : Int) ≤ 1048576 := by omega
        go_wp2_with fail
        go_ret
        exact ⟨by rw [hs'.out, hdr'.out]; simp [cszAux, hsm], hE⟩
    · have hli : ¬ (k : Int) < (l.length : Int) := by omega
      go_wp2_with fail
      go_ret
      exact ⟨by rw [hs'.out, List.drop_eq_nil_of_le (by omega)]; rfl, hE⟩
def Ak.base (x : Ak) : Nat := 1 + x.key.size + x.val.size + x.old.size + x.to.size
def Ak.sz (x : Ak) : Nat := if x.base ≤ 1048576 then x.base + cszAux x.chs.length x.chs else x.base
theorem csz_stop (l : List Ch) (n : Nat) (h : ¬ n ≤ 1048576) : cszAux n l = n := by
  cases l with
  | nil => rfl
  | cons c r => unfold cszAux; rw [if_neg h]
theorem csz_le : ∀ (l : List Ch) (n : Nat), (∀ c ∈ l, c.small) → cszAux n l ≤ max n 1048576 + 281474976702464
  | [], n, _ => by unfold cszAux; omega
  | c :: r, n, h => by
    have ih := csz_le r (n + c.key.size + c.val.size) (fun d hd => h d (List.mem_cons_of_mem _ hd))
    obtain ⟨h1, h2⟩ := h c (List.mem_cons_self ..)
    unfold cszAux
    split
    · by_cases h3 : n + c.key.size + c.val.size ≤ 1048576
      · omega
      · rw [csz_stop r _ h3]; omega
    · omega
theorem Ak.sz_le {x : Ak} (hs : x.small) (hc : ∀ c ∈ x.chs, c.small) (hl : x.chs.length ≤ 140737488351232) : x.sz ≤ 2000000000000000 := by
  obtain ⟨_, s1, s2, s3, s4, _⟩ := hs
  have := csz_le x.chs x.chs.length hc
  unfold Ak.sz Ak.base
  split <;> omega
set_option maxRecDepth 100000 in
set_option maxHeartbeats 1000000 in
theorem asize_any (w : World) (x : Ak) (a : Option Addr) (cap : Nat) (h : ChsAt w x.chs a cap) (hs : x.small) : Calls Tryz.prog 97 #[.agg (x.row (.slice a x.chs.length cap))] w fun e w' => e = .returned (.int .i64 (x.sz : Nat)) ∧ Ext w w' := by
  obtain ⟨_, s1, s2, s3, s4, s5⟩ := hs
  have hll : x.chs.length ≤ 140737488351232 := by have := h.2.1; omega
  have hcl := csz_le x.chs x.chs.length h.2.2
  obtain ⟨S, hS⟩ : ∃ S, S = x.sz := ⟨_, rfl⟩
  rw [← hS]
  have hS' := Lib.hid hS
  clear hS
  obtain ⟨W, hW⟩ : ∃ W, W = w.alloc (.cells (x.row (.slice a x.chs.length cap)) 66) := ⟨_, rfl⟩
  have hE : Ext w W := by rw [hW]; exact (Ext.refl _).alloc _
  have hX : W.heap[w.heap.size]? = some (.cells (x.row (.slice a x.chs.length cap)) 66 (0, 0)) := by rw [hW]; exact heap_alloc_new w _
  obtain ⟨c0, c1, c2, c3, c4, c5, c6, c7⟩ := askc hX
  have hW' := Lib.hid hW
  clear hW hX
  unfold Ak.row at hW'
  unfold Ak.row
  by_cases hb : x.base ≤ 1048576
  · have hbi : 1 + (x.key.size : Int) + (x.val.size : Int) + (x.old.size : Int) + (x.to.size : Int) ≤ 1048576 := by unfold Ak.base at hb; omega
    have hSS : S = x.base + cszAux x.chs.length x.chs := by rw [hS'.out]; unfold Ak.sz; rw [if_pos hb]
    have hSS' := Lib.hid hSS
    have hbb : x.base = 1 + x.key.size + x.val.size + x.old.size + x.to.size := rfl
    have hbb' := Lib.hid hbb
    clear hSS hS' hbb
    have hcc := csize_any W x.chs a cap h.2.2 hll (h.1.ext hE)
    generalize cszAux x.chs.length x.chs = C at *
    have hcc' := Lib.hid hcc
    clear hcc
    go_enter Tryz.func97, Tryz.ntmps97
    go_upto_region 1 with fail
    rw [← hW'.out]
    clear hW'
    go_wp2_with fail
    refine hcc'.out.mono ?_
    rintro e w2 ⟨rfl, hE2⟩
    have hC : C ≤ 500000000000000 := by omega
    clear hcl
    go_wp2_with fail
    go_ret
    refine ⟨?_, hE.trans hE2⟩
    rw [hSS'.out, hbb'.out]
    refine congrArg Ending.returned ?_
    refine congrArg (Value.int IntKind.i64) ?_
    omega
  · have hbi : ¬ 1 + (x.key.size : Int) + (x.val.size : Int) + (x.old.size : Int) + (x.to.size : Int) ≤ 1048576 := by unfold Ak.base at hb; omega
    have hSS : S = x.base := by rw [hS'.out]; unfold Ak.sz; rw [if_neg hb]
    have hSS' := Lib.hid hSS
    have hbb : x.base = 1 + x.key.size + x.val.size + x.old.size + x.to.size := rfl
    have hbb' := Lib.hid hbb
    clear hSS hS' hbb hcl
    go_enter Tryz.func97, Tryz.ntmps97
    go_upto_region 1 with fail
    rw [← hW'.out]
    clear hW'
    go_wp2_with fail
    go_ret
    refine ⟨?_, hE⟩
    rw [hSS'.out, hbb'.out]
    refine congrArg Ending.returned ?_
    refine congrArg (Value.int IntKind.i64) ?_
    omega
end Go.Proofs.YthageoibkeebhaaGreatDoor

/- Acts, as parameters. No condition. -/
namespace Go.Proofs.YthageoibkeebhaaGreatDoor
open Go.RowKit
set_option maxRecDepth 100000
structure Ac where
  kind : Nat
  cl : Nat
  num : Nat
  ask : Ak
  ad : Option Addr
  cap : Nat
def Ac.av (x : Ac) : Value := .slice x.ad x.ask.chs.length x.cap
def Ac.cells (x : Ac) : List Value := [.int .u8 (x.kind : Int), .int .u8 (x.cl : Int), .int .u32 (x.num : Int)] ++ (x.ask.row x.av).toList
def Ac.good (w : World) (x : Ac) : Prop := x.kind < 256 ∧ x.cl < 256 ∧ x.num < 4294967296 ∧ ChsAt w x.ask.chs x.ad x.cap ∧ x.ask.small
theorem Ac.good.ext {w w' : World} {x : Ac} (h : x.good w) (he : Ext w w') : x.good w' := ⟨h.1, h.2.1, h.2.2.1, h.2.2.2.1.ext he, h.2.2.2.2⟩
theorem okc_act {w : World} {n : Nat} {cs : List Value} (h : OKC Tryz.prog w n 68 cs) : ∃ x : Ac, cs = x.cells ∧ x.good w := by
  have c11 : Tryz.prog.cellsOf 68 = 11 := by kernel_rfl
  cases n with
  | zero => exact h.elim
  | succ n =>
    unfold OKC at h
    rw [Tryz.underlying68] at h
    simp only [c11] at h
    obtain ⟨hl, hi⟩ := h
    match cs, hl with
    | [v0, v1, v2, v3, v4, v5, v6, v7, v8, v9, v10], _ =>
      simp [show Tryz.prog.cellsOf 5 = 1 by kernel_rfl, show Tryz.prog.cellsOf 62 = 1 by kernel_rfl, show Tryz.prog.cellsOf 66 = 8 by kernel_rfl] at hi
      obtain ⟨y0, y1, y2, y3⟩ := hi
      obtain ⟨i0, e0, w0⟩ := okc_int Tryz.underlying5 y0
      obtain ⟨i1, e1, w1⟩ := okc_int Tryz.underlying5 y1
      obtain ⟨i2, e2, w2⟩ := okc_int Tryz.underlying62 y2
      obtain ⟨x, a, cap, e3, hc, hs⟩ := okc_ask y3
      have b0 := wf_u8 w0
      have b1 := wf_u8 w1
      have b2 := wf_u32 w2
      obtain ⟨n0, rfl⟩ := Int.eq_ofNat_of_zero_le b0.1
      obtain ⟨n1, rfl⟩ := Int.eq_ofNat_of_zero_le b1.1
      obtain ⟨n2, rfl⟩ := Int.eq_ofNat_of_zero_le b2.1
      refine ⟨⟨n0, n1, n2, x, a, cap⟩, ?_, by simp only; omega, by simp only; omega, by simp only; omega, hc, hs⟩
      simp at e0 e1 e2
      unfold Ac.cells Ac.av
      rw [← e3, e0, e1, e2]; rfl
theorem okc_acts {w : World} {v : Value} (h : ∃ n, OKC Tryz.prog w n 58 [v]) : ∃ (l : List Ac) (a : Option Addr) (cap : Nat), v = .slice a l.length cap ∧ (∀ x ∈ l, x.good w) ∧ RowIs w 11 (.slice a l.length cap) l.length (l.flatMap Ac.cells) ∧ l.length ≤ 140737488351232 := by
  obtain ⟨n, h⟩ := h
  cases n with
  | zero => exact h.elim
  | succ n =>
    obtain ⟨l, hg, hr, hby⟩ := OKC.row Ac.cells (Ac.good w) 11 Tryz.underlying58 (by kernel_rfl) (by decide) (fun m => rfl) (fun cs hcs => okc_act hcs) h
    obtain ⟨a, cap, hv⟩ := hr.form
    subst hv
    rw [show Tryz.prog.bytesOf 68 = 120 by kernel_rfl] at hby
    exact ⟨l, a, cap, rfl, hg, hr, by omega⟩
theorem act_range {w : World} {l : List Ac} {b off : Nat} (hd : ∀ i, i < l.length * 11 → w.cell? ⟨b, off + i, none⟩ = (l.flatMap Ac.cells)[i]?) {k : Nat} {c : Ac} (h : l[k]? = some c) : w.rangeAt b (off + k * 11) c.cells := fun r v hv => by
  have hr : r < 11 := (List.getElem?_eq_some_iff.1 hv).1
  have hk : k < l.length := (List.getElem?_eq_some_iff.1 h).1
  rw [Nat.add_assoc, hd (k * 11 + r) (by omega), flatMap_at Ac.cells 11 (by decide) (fun _ => rfl) l k c h r hr _ rfl]; exact hv
end Go.Proofs.YthageoibkeebhaaGreatDoor

/- Great; done. No condition. -/
namespace Go.Proofs.YthageoibkeebhaaGreatDoor
open Go.RowKit
set_option maxRecDepth 100000
set_option maxHeartbeats 2000000
def grB : Nat → List Ac → Bool
  | _, [] => false
  | n, x :: r => if 20000 < n + 1 + x.ask.sz then true else grB (n + 1 + x.ask.sz) r
def greatB (l : List Ac) : Bool := grB 0 l || decide (150 < l.length)
theorem act_ask {w : World} {b o : Nat} {c : Ac} (h : w.rangeAt b o c.cells) : w.rangeAt b (o + 3) (c.ask.row c.av).toList := fun j v hv => by
  have := h (3 + j) v (by unfold Ac.cells; rw [List.getElem?_append_right (by simp)]; simpa using hv)
  rwa [← Nat.add_assoc] at this
theorem great_any (w : World) (l : List Ac) (a : Option Addr) (cap : Nat) (hg : ∀ x ∈ l, x.good w) (hl : l.length ≤ 140737488351232) (h1 : RowIs w 11 (.slice a l.length cap) l.length (l.flatMap Ac.cells)) :
    Calls Tryz.prog 22 #[.slice a l.length cap] w fun e w' => e = .returned (.bool (greatB l)) ∧ Ext w w' := by
  obtain ⟨R, hR⟩ : ∃ R, R = greatB l := ⟨_, rfl⟩
  rw [← hR]
  have hR' := Lib.hid hR
  have hg' := Lib.hid hg
  clear hR hg
  go_enter Tryz.func22, Tryz.ntmps22
  go_wp2_with fail
  go_loopw [3, 4] (fun n i wr => ∃ k N : Nat, k ≤ l.length ∧ n = .int .i64 (N : Int) ∧ i = .int .i64 k ∧ R = (grB N (l.drop k) || decide (150 < l.length)) ∧ N ≤ 20000 ∧ Ext w wr) (fun _ i _ => l.length - (intOf i).toNat)
  case atStart => exact ⟨0, 0, by omega, rfl, rfl, hR'.out, by omega, Ext.refl _⟩
  case round =>
    obtain ⟨k, N, hk, rfl, rfl, hs, hN, hE⟩ := hrel
    have hs' := Lib.hid hs
    clear hs
    by_cases hlt : k < l.length
    · have hli : (k : Int) < (l.length : Int) := by omega
      obtain ⟨c, hc⟩ : ∃ c, l[k]? = some c := ⟨_, List.getElem?_eq_getElem hlt⟩
      obtain ⟨_, _, _, g4, g5⟩ := (hg'.out c (List.mem_of_getElem? hc)).ext hE
      have hdr : l.drop k = c :: l.drop (k + 1) := by
        rw [List.drop_eq_getElem_cons hlt]
        have := List.getElem?_eq_getElem hlt
        rw [hc] at this
        injection this with this
        rw [← this]
      obtain ⟨b, off, hat⟩ := (h1.ext hE).at
      obtain ⟨rfl, _, hd⟩ := hat (by omega)
      have hrg := act_ask (act_range hd hc)
      have hsz := Ak.sz_le g5 g4.2.2 (by have := g4.2.1; omega)
      have hcall := asize_any wr c.ask c.ad c.cap g4 g5
      obtain ⟨S, hS⟩ : ∃ S, S = c.ask.sz := ⟨_, rfl⟩
      rw [← hS] at hcall hsz
      have hS' := Lib.hid hS
      have hdr' := Lib.hid hdr
      have hcall' := Lib.hid hcall
      clear hdr hd hat hc hS hcall g4 g5
      go_wp2_with (first | (refine wpList_load_mid (by rfl) 66 (.tmp 16) (by rfl) b (off + k * 11 + 3) (by rfl) (c.ask.row c.av).toList _ hrg Tryz.underlying66 rfl (by rw [ask_ln]; exact ask_inf) ?_) | fail)
      refine hcall'.out.mono ?_
      rintro e w2 ⟨rfl, hE2⟩
      clear hrg hcall'
      by_cases hb : 20000 < N + 1 + S
      · have hbi : (20000 : Int) < (N : Int) + 1 + (S : Int) := by omega
        go_wp2_with fail
        go_ret
        exact ⟨by rw [hs'.out, hdr'.out]; unfold grB; rw [← hS'.out, if_pos hb]; rfl, hE.trans hE2⟩
      · have hbi : ¬ (20000 : Int) < (N : Int) + 1 + (S : Int) := by omega
        go_wp2_with fail
        go_roundw
        case rel => exact ⟨k + 1, N + 1 + S, by omega, by go_num, by go_num, by rw [hs'.out, hdr'.out, grB, ← hS'.out, if_neg hb], by omega, hE.trans hE2⟩
        case measure => simp [intOf]; omega
    · have hli : ¬ (k : Int) < (l.length : Int) := by omega
      have hR2 : R = decide (150 < l.length) := by rw [hs'.out, List.drop_eq_nil_of_le (by omega)]; rfl
      have hR3 := Lib.hid hR2
      clear hR2
      by_cases hb : 150 < l.length
      · have hbi : (150 : Int) < (l.length : Int) := by omega
        go_wp2_with fail
        go_ret
        exact ⟨by rw [hR3.out, decide_eq_true hb]; rfl, hE⟩
      · have hbi : ¬ (150 : Int) < (l.length : Int) := by omega
        go_wp2_with fail
        go_ret
        exact ⟨by rw [hR3.out, decide_eq_false hb]; rfl, hE⟩
/-- A state behind acts. -/
def stepA (m : Md) (x : Ac) : Md := if x.kind % 7 < 5 then (m.ans x.cl x.num x.ask).m else m
def doneM (l : List Ac) : Md := l.foldl stepA ⟨[], zSd⟩
theorem stepA_small {m : Md} (h : smallR m.rows) (x : Ac) : smallR (stepA m x).rows := by
  unfold stepA; split
  · exact Md.ans_small h _ _ _
  · exact h
theorem stepA_length (m : Md) (x : Ac) : (stepA m x).rows.length ≤ m.rows.length + 16 := by
  unfold stepA; split
  · exact Md.ans_length m _ _ _
  · omega
theorem steps_small : ∀ (l : List Ac) {m : Md}, smallR m.rows → smallR (l.foldl stepA m).rows
  | [], _, h => h
  | x :: l, _, h => steps_small l (stepA_small h x)
theorem steps_length : ∀ (l : List Ac) (m : Md), (l.foldl stepA m).rows.length ≤ m.rows.length + 16 * l.length
  | [], m => by simp
  | x :: l, m => by
    have h1 := steps_length l (stepA m x)
    have h2 := stepA_length m x
    rw [List.foldl_cons, List.length_cons]; omega
theorem done_small (l : List Ac) : smallR (doneM l).rows := steps_small l (fun r hr => by cases hr)
theorem done_length (l : List Ac) : (doneM l).rows.length ≤ 16 * l.length := by have := steps_length l ⟨[], zSd⟩; simpa [doneM] using this
theorem done_take {l : List Ac} {k : Nat} {c : Ac} (h : l[k]? = some c) : doneM (l.take (k + 1)) = stepA (doneM (l.take k)) c := by
  unfold doneM; rw [List.take_add_one, h, List.foldl_append]; rfl
/-- A pointer to a state that holds m. -/
def NewE (w0 : World) (m : Md) (e : Ending) (w' : World) : Prop := ∃ st mb, e = .returned (.pointer (some ⟨st, 0, none⟩)) ∧ StM w0 w' st mb m
theorem st_newM (w : World) : Calls Tryz.prog 23 #[] w (NewE w ⟨[], zSd⟩) := by
  refine (st_new w).mono ?_
  rintro e w' ⟨rfl, hS⟩
  obtain ⟨mb, _, hc⟩ := hS.map
  exact ⟨_, mb, rfl, [], hS, rfl, hc⟩
theorem act_cells {w : World} {b o : Nat} {c : Ac} (h : w.rangeAt b o c.cells) : w.cell? ⟨b, o, none⟩ = some (.int .u8 (c.kind : Int)) ∧ w.cell? ⟨b, o + 1, none⟩ = some (.int .u8 (c.cl : Int)) ∧ w.cell? ⟨b, o + 2, none⟩ = some (.int .u32 (c.num : Int)) :=
  ⟨h 0 _ rfl, h 1 _ rfl, h 2 _ rfl⟩
end Go.Proofs.YthageoibkeebhaaGreatDoor

/- SameRows. No condition. -/
namespace Go.Proofs.YthageoibkeebhaaGreatDoor
open Go.RowKit
theorem rws_range {w : World} {l : List Rw} {b off : Nat} (hd : ∀ i, i < l.length * 2 → w.cell? ⟨b, off + i, none⟩ = (l.flatMap rwL)[i]?) {k : Nat} {x : Rw} (h : l[k]? = some x) : w.rangeAt b (off + k * 2) (rowR x).toList := fun r v hv => by
  have hr : r < 2 := (List.getElem?_eq_some_iff.1 hv).1
  have hk : k < l.length := (List.getElem?_eq_some_iff.1 h).1
  rw [Nat.add_assoc, hd (k * 2 + r) (by omega), flatMap_at rwL 2 (by decide) (fun _ => rfl) l k x h r hr _ rfl]; exact hv
def sameRB (a b : Rw) : Bool := a.key.toList == b.key.toList && a.val.toList == b.val.toList
theorem tl_ext {a b : ByteArray} (h : a.toList = b.toList) : a = b := ba_data (by rw [← ByteArray.toList_eq, ← ByteArray.toList_eq]; exact h)
theorem sameR_iff {a b : Rw} : sameRB a b = true ↔ a = b := by
  unfold sameRB
  rw [Bool.and_eq_true, beq_iff_eq, beq_iff_eq]
  constructor
  · rintro ⟨h1, h2⟩
    obtain ⟨m, v⟩ := a; obtain ⟨m', v'⟩ := b
    simp only at h1 h2
    rw [tl_ext h1, tl_ext h2]
  · rintro rfl; exact ⟨rfl, rfl⟩
instance : DecidableEq Rw := fun _ _ => decidable_of_iff _ sameR_iff
theorem wpQuiet_neq_rw {ops : Array Oper} {C : World → Prop} {Q : Act → Prop} {o : Oper} {rest : List Oper} {a : Act} (hg : Region.wanted o (yielded ops a.tmps) = true) (x y : Operand) (ho : o.op = .binOp .neq 84 x y 84) (m n : Rw) (hx : a.eval x = .agg (rowR m)) (hy : a.eval y = .agg (rowR n))
    (k : wpQuiet Tryz.prog ops C Q rest (a.put o.dst (.bool (!sameRB m n)))) : wpQuiet Tryz.prog ops C Q (o :: rest) a := by
  refine wpQuiet_value _ hg (fun w _ => ?_) k
  unfold execOp
  simp only [ho, hx, hy, rowR]
  go_simp
  unfold sameRB
  by_cases h1 : m.key.toList = n.key.toList <;> by_cases h4 : m.val.toList = n.val.toList <;> simp [h1, h4]
set_option maxRecDepth 100000 in
set_option maxHeartbeats 1000000 in
theorem srows_any (w : World) (l l' : List Rw) (a a' : Option Addr) (cap cap' : Nat) (h1 : RowIs w 2 (.slice a l.length cap) l.length (l.flatMap rwL)) (h2 : RowIs w 2 (.slice a' l'.length cap') l'.length (l'.flatMap rwL)) :
    Calls Tryz.prog 17 #[.slice a l.length cap, .slice a' l'.length cap'] w fun e w' => e = .returned (.bool (decide (l = l'))) ∧ Ext w w' := by
  by_cases hn : l.length = l'.length
  · have hn' : (l.length : Int) = (l'.length : Int) := by omega
    have hnn := h1.2.1
    obtain ⟨n, hl1⟩ : ∃ n, n = l.length := ⟨_, rfl⟩
    have hl2 : n = l'.length := by omega
    rw [← hl1] at h1 hnn
    rw [← hl2] at h2
    rw [← hl1, ← hl2]
    have hq1 := Lib.hid hl1
    have hq2 := Lib.hid hl2
    clear hn hn' hl1 hl2
    obtain ⟨r, hr⟩ : ∃ r, r = decide (l = l') := ⟨_, rfl⟩
    have hr' := Lib.hid hr
    rw [← hr]
    clear hr
    go_enter Tryz.func17, Tryz.ntmps17
    go_wp2_with fail
    go_loopw [5] (fun i wr => ∃ k : Nat, k ≤ n ∧ i = .int .i64 k ∧ l.take k = l'.take k ∧ Ext w wr) (fun i _ => n - (intOf i).toNat)
    case atStart => exact ⟨0, by omega, rfl, rfl, Ext.refl _⟩
    case round =>
      obtain ⟨k, hk, rfl, heq, hE⟩ := hrel
      by_cases hlt : k < n
      · have hli : (k : Int) < (n : Int) := by omega
        obtain ⟨c, hc⟩ : ∃ c, l[k]? = some c := ⟨_, List.getElem?_eq_getElem (by rw [← hq1.out]; exact hlt)⟩
        obtain ⟨c', hc'⟩ : ∃ c, l'[k]? = some c := ⟨_, List.getElem?_eq_getElem (by rw [← hq2.out]; exact hlt)⟩
        obtain ⟨b, off, hat⟩ := (h1.ext hE).at
        obtain ⟨b', off', hat'⟩ := (h2.ext hE).at
        obtain ⟨rfl, _, hd⟩ := hat (by omega)
        obtain ⟨rfl, _, hd'⟩ := hat' (by omega)
        have p := rws_range (by rw [← hq1.out]; exact hd) hc
        have q := rws_range (by rw [← hq2.out]; exact hd') hc'
        clear hd hd' hat hat'
        have htk : l.take (k + 1) = l.take k ++ [c] := by rw [List.take_add_one, hc]; rfl
        have htk' : l'.take (k + 1) = l'.take k ++ [c'] := by rw [List.take_add_one, hc']; rfl
        have heq' := Lib.hid heq
        have htk2 := Lib.hid htk
        have htk3 := Lib.hid htk'
        have hcc := Lib.hid hc
        have hcc' := Lib.hid hc'
        clear heq htk htk' hc hc'
        go_upto_region 6 with fail
        refine wp_region_class (Ext wr) (by kernel_rfl) (by kernel_rfl) (Ext.refl _).drew ?_
        iterate 3 (refine wpQuiet_step (fun K hK => ?_); go_simp; first | (refine hK _ ?_; clear hK K) | (refine ⟨_, fun _ _ => rfl, hK _ ?_⟩; clear hK K))
        refine wpQuiet_load_mid (by rfl) 84 _ (by rfl) b (off + k * 2) (by rfl) _ _ (fun w' h r u hu => h.cell (p r u hu)) Tryz.underlying84 rfl (by exact info_row) ?_
        iterate 3 (refine wpQuiet_step (fun K hK => ?_); go_simp; first | (refine hK _ ?_; clear hK K) | (refine ⟨_, fun _ _ => rfl, hK _ ?_⟩; clear hK K))
        refine wpQuiet_load_mid (by rfl) 84 _ (by rfl) b' (off' + k * 2) (by rfl) _ _ (fun w' h r u hu => h.cell (q r u hu)) Tryz.underlying84 rfl (by exact info_row) ?_
        refine wpQuiet_neq_rw (by rfl) (.tmp 20) (.tmp 24) (by rfl) c c' (by rfl) (by rfl) ?_
        refine wpQuiet_nil (fun w5 hE5 => ?_)
        simp only [Act.put, List.setIfInBounds_toArray, List.set_cons_zero, List.set_cons_succ]
        cases hse : sameRB c c'
        all_goals simp only [Bool.not_true, Bool.not_false]
        · have hne : r = false := by
            rw [hr'.out]
            refine decide_eq_false fun h => ?_
            subst h
            have := hcc.out.symm.trans hcc'.out
            injection this with this
            rw [sameR_iff.2 this] at hse
            exact Bool.noConfusion hse
          have hne' := Lib.hid hne
          clear hne
          go_wp2_with fail
          go_ret
          exact ⟨by rw [hne'.out]; rfl, hE.trans hE5⟩
        · have hcc2 := Lib.hid (sameR_iff.1 hse)
          go_wp2_with fail
          go_roundw
          case rel => first | exact ⟨k + 1, by omega, by go_num, by rw [htk2.out, htk3.out, heq'.out, hcc2.out], hE.trans hE5⟩ | exact ⟨_, _, _, _, _, _, _, _, _, _, _, _, _, ⟨k + 1, by omega, by go_num, by rw [htk2.out, htk3.out, heq'.out, hcc2.out], hE.trans hE5⟩, rfl⟩
          case measure => simp [intOf]; omega
      · have hli : ¬ (k : Int) < (n : Int) := by omega
        have hne : r = true := by
          rw [hr'.out]
          refine decide_eq_true ?_
          rw [List.take_of_length_le (by rw [← hq1.out]; omega), List.take_of_length_le (by rw [← hq2.out]; omega)] at heq
          exact heq
        have hne' := Lib.hid hne
        clear hne heq
        go_wp2_with fail
        go_ret
        exact ⟨by rw [hne'.out]; rfl, hE⟩
  · have hn' : ¬ (l.length : Int) = (l'.length : Int) := by omega
    rw [decide_eq_false (fun h => hn (congrArg List.length h))]
    clear h1 h2
    go_enter Tryz.func17, Tryz.ntmps17
    go_wp2_with fail
    go_ret
    exact ⟨rfl, Ext.refl _⟩
end Go.Proofs.YthageoibkeebhaaGreatDoor
