/- ChangesSize, AskSize (at the seat of the pasts). No condition. -/
import Derived.Test.YtgbiifefpidebaaEvMay
namespace Go.Proofs.Ytgbiifefpidebaa
open Go.RowKit
theorem askc {w : World} {b : Nat} {x : Ak} {u : Value} (h : w.heap[b]? = some (.cells (x.row u) 32 (0, 0))) : w.cell? ⟨b, 0, none⟩ = some (.int .u8 x.kind) ∧ w.cell? ⟨b, 1, none⟩ = some (.string x.key) ∧ w.cell? ⟨b, 2, none⟩ = some (.string x.val) ∧ w.cell? ⟨b, 3, none⟩ = some (.string x.old) ∧ w.cell? ⟨b, 4, none⟩ = some (.bool x.new) ∧ w.cell? ⟨b, 5, none⟩ = some (.string x.to) ∧ w.cell? ⟨b, 6, none⟩ = some (.int .i64 x.many) ∧ w.cell? ⟨b, 7, none⟩ = some u := by
  refine ⟨?_, ?_, ?_, ?_, ?_, ?_, ?_, ?_⟩ <;> (rw [cell_of_row _ _ _ _ 32 (0, 0) h]; rfl)
/-- A reply without rows. -/
def cszAux : Nat → List Ch → Nat
  | n, [] => n
  | n, x :: r => if n ≤ 1048576 then cszAux (n + x.key.size + x.val.size) r else n
set_option maxRecDepth 100000 in
set_option maxHeartbeats 1000000 in
theorem csize_any (w : World) (l : List Ch) (a : Option Addr) (cap : Nat) (hg : ∀ x ∈ l, x.small) (hl : l.length ≤ 140737488351232) (h1 : RowIs w 3 (.slice a l.length cap) l.length (l.flatMap Ch.cells)) :
    Calls Try.prog 34 #[.slice a l.length cap] w fun e w' => e = .returned (.int .i64 (cszAux l.length l : Nat)) ∧ Ext w w' := by
  obtain ⟨S, hS⟩ : ∃ S, S = cszAux l.length l := ⟨_, rfl⟩
  rw [← hS]
  have hS' := Lib.hid hS
  clear hS
  go_enter Try.func34, Try.ntmps34
  go_wp2_with fail
  go_loopw [3, 4] (fun n i wr => ∃ k N : Nat, k ≤ l.length ∧ n = .int .i64 (N : Int) ∧ i = .int .i64 k ∧ S = cszAux N (l.drop k) ∧ N ≤ 500000000000000 ∧ Ext w wr) (fun _ i _ => l.length - (intOf i).toNat)
  case atStart => exact ⟨0, l.length, by omega, rfl, rfl, hS'.out, by omega, Ext.refl _⟩
  case round =>
    obtain ⟨k, N, hk, rfl, rfl, hs, hN, hE⟩ := hrel
    have hs' := Lib.hid hs
    clear hs
    by_cases hlt : k < l.length
    · have hli : (k : Int) < (l.length : Int) := by omega
      obtain ⟨c, hc⟩ : ∃ c, l[k]? = some c := ⟨_, List.getElem?_eq_getElem hlt⟩
      obtain ⟨g1, g2⟩ := hg c (List.mem_of_getElem? hc)
      have hdr : l.drop k = c :: l.drop (k + 1) := by
        rw [List.drop_eq_getElem_cons hlt]
        have := List.getElem?_eq_getElem hlt
        rw [hc] at this
        injection this with this
        rw [← this]
      have hdr' := Lib.hid hdr
      clear hdr
      by_cases hsm : N ≤ 1048576
      · have hsi : (N : Int) ≤ 1048576 := by omega
        obtain ⟨b, off, hat⟩ := (h1.ext hE).at
        obtain ⟨rfl, _, hd⟩ := hat (by omega)
        have p := ch_range hd hc
        have p0 := p 0 _ rfl
        have p3 := p 1 _ rfl
        rw [Nat.add_zero] at p0
        clear hd hat p hc
        have e1 : IntKind.i64.wrap ((N : Int) + (c.key.size : Int)) = (N : Int) + (c.key.size : Int) := by rw [IntKind.wrap_i64]; omega
        have e2 : IntKind.i64.wrap ((N : Int) + (c.key.size : Int) + (c.val.size : Int)) = (N : Int) + (c.key.size : Int) + (c.val.size : Int) := by rw [IntKind.wrap_i64]; omega
        go_wp2_with fail
        go_still (by kernel_rfl)
        change Exit.inBlock _ _ _ _ wr.drew
        go_wp2_with fail
        go_roundw
        case rel => exact ⟨k + 1, N + c.key.size + c.val.size, by omega, by go_num, by go_num, by rw [hs'.out, hdr'.out]; simp [cszAux, hsm], by omega, hE.drew⟩
        case measure => simp [intOf]; omega
      · have hsi : ¬ (N : Int) ≤ 1048576 := by omega
        go_wp2_with fail
        go_ret
        exact ⟨by rw [hs'.out, hdr'.out]; simp [cszAux, hsm], hE⟩
    · have hli : ¬ (k : Int) < (l.length : Int) := by omega
      go_wp2_with fail
      go_ret
      exact ⟨by rw [hs'.out, List.drop_eq_nil_of_le (by omega)]; rfl, hE⟩
def Ak.base (x : Ak) : Nat := 1 + x.key.size + x.val.size + x.old.size + x.to.size
def Ak.sz (x : Ak) : Nat := if x.base ≤ 1048576 then x.base + cszAux x.chs.length x.chs else x.base
theorem csz_stop (l : List Ch) (n : Nat) (h : ¬ n ≤ 1048576) : cszAux n l = n := by
  cases l with
  | nil => rfl
  | cons c r => unfold cszAux; rw [if_neg h]
theorem csz_le : ∀ (l : List Ch) (n : Nat), (∀ c ∈ l, c.small) → cszAux n l ≤ max n 1048576 + 281474976702464
  | [], n, _ => by unfold cszAux; omega
  | c :: r, n, h => by
    have ih := csz_le r (n + c.key.size + c.val.size) (fun d hd => h d (List.mem_cons_of_mem _ hd))
    obtain ⟨h1, h2⟩ := h c (List.mem_cons_self ..)
    unfold cszAux
    split
    · by_cases h3 : n + c.key.size + c.val.size ≤ 1048576
      · omega
      · rw [csz_stop r _ h3]; omega
    · omega
theorem Ak.sz_le {x : Ak} (hs : x.small) (hc : ∀ c ∈ x.chs, c.small) (hl : x.chs.length ≤ 140737488351232) : x.sz ≤ 2000000000000000 := by
  obtain ⟨_, s1, s2, s3, s4, _⟩ := hs
  have := csz_le x.chs x.chs.length hc
  unfold Ak.sz Ak.base
  split <;> omega
set_option maxRecDepth 100000 in
set_option maxHeartbeats 1000000 in
theorem asize_any (w : World) (x : Ak) (a : Option Addr) (cap : Nat) (h : ChsAt w x.chs a cap) (hs : x.small) : Calls Try.prog 27 #[.agg (x.row (.slice a x.chs.length cap))] w fun e w' => e = .returned (.int .i64 (x.sz : Nat)) ∧ Ext w w' := by
  obtain ⟨_, s1, s2, s3, s4, s5⟩ := hs
  have hll : x.chs.length ≤ 140737488351232 := by have := h.2.1; omega
  have hcl := csz_le x.chs x.chs.length h.2.2
  obtain ⟨S, hS⟩ : ∃ S, S = x.sz := ⟨_, rfl⟩
  rw [← hS]
  have hS' := Lib.hid hS
  clear hS
  obtain ⟨W, hW⟩ : ∃ W, W = w.alloc (.cells (x.row (.slice a x.chs.length cap)) 32) := ⟨_, rfl⟩
  have hE : Ext w W := by rw [hW]; exact (Ext.refl _).alloc _
  have hX : W.heap[w.heap.size]? = some (.cells (x.row (.slice a x.chs.length cap)) 32 (0, 0)) := by rw [hW]; exact heap_alloc_new w _
  obtain ⟨c0, c1, c2, c3, c4, c5, c6, c7⟩ := askc hX
  have hW' := Lib.hid hW
  clear hW hX
  unfold Ak.row at hW'
  unfold Ak.row
  by_cases hb : x.base ≤ 1048576
  · have hbi : 1 + (x.key.size : Int) + (x.val.size : Int) + (x.old.size : Int) + (x.to.size : Int) ≤ 1048576 := by unfold Ak.base at hb; omega
    have hSS : S = x.base + cszAux x.chs.length x.chs := by rw [hS'.out]; unfold Ak.sz; rw [if_pos hb]
    have hSS' := Lib.hid hSS
    have hbb : x.base = 1 + x.key.size + x.val.size + x.old.size + x.to.size := rfl
    have hbb' := Lib.hid hbb
    clear hSS hS' hbb
    have hcc := csize_any W x.chs a cap h.2.2 hll (h.1.ext hE)
    generalize cszAux x.chs.length x.chs = C at *
    have hcc' := Lib.hid hcc
    clear hcc
    go_enter Try.func27, Try.ntmps27
    go_upto_region 1 with fail
    rw [← hW'.out]
    clear hW'
    go_wp2_with fail
    refine hcc'.out.mono ?_
    rintro e w2 ⟨rfl, hE2⟩
    have hC : C ≤ 500000000000000 := by omega
    clear hcl
    go_wp2_with fail
    go_ret
    refine ⟨?_, hE.trans hE2⟩
    rw [hSS'.out, hbb'.out]
    refine congrArg Ending.returned ?_
    refine congrArg (Value.int IntKind.i64) ?_
    omega
  · have hbi : ¬ 1 + (x.key.size : Int) + (x.val.size : Int) + (x.old.size : Int) + (x.to.size : Int) ≤ 1048576 := by unfold Ak.base at hb; omega
    have hSS : S = x.base := by rw [hS'.out]; unfold Ak.sz; rw [if_neg hb]
    have hSS' := Lib.hid hSS
    have hbb : x.base = 1 + x.key.size + x.val.size + x.old.size + x.to.size := rfl
    have hbb' := Lib.hid hbb
    clear hSS hS' hbb hcl
    go_enter Try.func27, Try.ntmps27
    go_upto_region 1 with fail
    rw [← hW'.out]
    clear hW'
    go_wp2_with fail
    go_ret
    refine ⟨?_, hE⟩
    rw [hSS'.out, hbb'.out]
    refine congrArg Ending.returned ?_
    refine congrArg (Value.int IntKind.i64) ?_
    omega
end Go.Proofs.Ytgbiifefpidebaa
