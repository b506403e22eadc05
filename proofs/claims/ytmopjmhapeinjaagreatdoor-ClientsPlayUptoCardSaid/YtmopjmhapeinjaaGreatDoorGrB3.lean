/- Several texts in one: Sz3 Gr0 Itoa Wd. No condition. -/
import Derived.Test.YtmopjmhapeinjaaGreatDoorGrA5
import Derived.Test.YtmopjmhapeinjaaGreatDoorGrA6
import Derived.Test.YtmopjmhapeinjaaGreatDoorTwM
import Derived.Test.YtmopjmhapeinjaaGreatDoorGrA1
import Derived.StillTailTactics
import Derived.Deep.CutRange
import Derived.Shelf.LaysM
import Derived.Shelf.Strconv.Itoa3
import Derived.Test.YtmopjmhapeinjaaGreatDoorProg
import Derived.Test.YtmopjmhapeinjaaGreatDoorGrA0
import Derived.Lib.ItoaMem
/- MsgSize; what it says. (Printed by mkgr.py.) No condition. -/
namespace Go.Proofs.YtmopjmhapeinjaaGreatDoor
open Go.RowKit
set_option maxRecDepth 100000
set_option maxHeartbeats 2000000
theorem ysize_any (w : World) (a : Option Addr) (n cap : Nat) : Calls Tryz.prog 95 #[.slice a n cap] w fun e w' => e = .returned (.int .i64 (n : Int)) ∧ Ext w w' := by
  go_enter Tryz.func95, Tryz.ntmps95
  go_wp2_with fail
  go_ret
  exact ⟨rfl, Ext.refl _⟩
theorem nsize_any (w : World) (a : Option Addr) (n cap : Nat) : Calls Tryz.prog 96 #[.slice a n cap] w fun e w' => e = .returned (.int .i64 (n : Int)) ∧ Ext w w' := by
  go_enter Tryz.func96, Tryz.ntmps96
  go_wp2_with fail
  go_ret
  exact ⟨rfl, Ext.refl _⟩
/-- One part more, if it is not too much already. -/
def stp (n p : Nat) : Nat := if n ≤ 1048576 then n + p else n
theorem stp_big {n p : Nat} (h : ¬ n ≤ 1048576) : stp n p = n := if_neg h
theorem stp_small {n p : Nat} (h : n ≤ 1048576) : stp n p = n + p := if_pos h
theorem stp_le {n p B : Nat} (h : n ≤ B) (h2 : 1048576 + p ≤ B) : stp n p ≤ B := by
  unfold stp
  split <;> omega
def Ms.msz (x : Ms) : Nat := stp (stp (stp (stp (stp (1 + x.ch.length) x.ha.length) (itsAux x.it.length x.it)) (rszAux x.ro.length x.ro)) (sdsAux x.sa.length x.sa)) (1 + rszAux x.rr.length x.rr)
theorem tiny_smR {l : List Rw} (h : rwsTiny l) : smRs l := ⟨by have := h.1; omega, fun r hr => by have := h.2 r hr; exact ⟨by have := this.1; omega, by have := this.2; omega⟩⟩
theorem goodI_ok {w : World} {y : It} (h : y.goodD w) : y.okI := by
  obtain ⟨a, c, _, h2⟩ := h
  exact ⟨h2.2.1, h2.1.2.2, h2.1.2.1⟩
theorem msize_any (w : World) (x : Ms) (p : Ml) (h : MsAt w x p) (ht : x.tiny) : Calls Tryz.prog 27 #[.agg (x.arr p)] w fun e w' => e = .returned (.int .i64 (x.msz : Nat)) ∧ Ext w w' := by
  obtain ⟨X, hX⟩ : ∃ X, X = w.heap.size := ⟨_, rfl⟩
  obtain ⟨V, hV⟩ : ∃ W, W = w.alloc (.cells (x.arr p) 63) := ⟨_, rfl⟩
  have hE0 : Ext w V := by rw [hV]; exact (Ext.refl _).alloc _
  have hrow : V.heap[X]? = some (.cells (x.arr p) 63 (0, 0)) := by rw [hV, hX]; exact heap_alloc_new w _
  have hcl := Lib.hid (fun W (hW : Ext V W) => ms_cells (hW.row hrow))
  have hioI : ∀ y ∈ x.it, y.okI := fun y hy => goodI_ok (h.its y hy)
  have q0 := Lib.hid (fun W (_ : Ext V W) => ysize_any W p.a8 x.ch.length p.c8)
  have q1 := Lib.hid (fun W (_ : Ext V W) => nsize_any W p.a9 x.ha.length p.c9)
  have q2 := Lib.hid (fun W (hW : Ext V W) => itssize_any W x.it p.aI p.cI hioI (ItAt.ext (goodI_at h.its) (hE0.trans hW)) (by have := ht.it; omega) (h.it.ext (hE0.trans hW)))
  have q3 := Lib.hid (fun W (hW : Ext V W) => rsize_any W x.ro p.aR p.cR (tiny_smR ht.ro).2 (tiny_smR ht.ro).1 (h.ro.ext (hE0.trans hW)))
  have q4 := Lib.hid (fun W (hW : Ext V W) => sdssize_any W x.sa p.aS p.cS (fun y hy => tiny_smR (ht.sas y hy)) (SaAt.ext (goodS_at h.sas) (hE0.trans hW)) (by have := ht.sa; omega) (h.sa.ext (hE0.trans hW)))
  have q5 := Lib.hid (fun W (hW : Ext V W) => rpsize_any W x.e x.yes x.rr p.aY p.cY (tiny_smR ht.rr) (h.rr.ext (hE0.trans hW)))
  have b2 := its_le x.it x.it.length hioI
  have b3 := rsz_le x.ro x.ro.length (tiny_smR ht.ro).2
  have b4 := sds_le x.sa x.sa.length (fun y hy => tiny_smR (ht.sas y hy))
  have b5 := rsz_le x.rr x.rr.length (tiny_smR ht.rr).2
  have z0 := ht.ch
  have z1 := ht.ha
  have z2 := ht.it
  have z3 := ht.ro.1
  have z4 := ht.sa
  have z5 := ht.rr.1
  obtain ⟨S, hS⟩ : ∃ S, S = x.msz := ⟨_, rfl⟩
  rw [← hS]
  unfold Ms.msz at hS
  obtain ⟨P2, hP2⟩ : ∃ P, P = itsAux x.it.length x.it := ⟨_, rfl⟩
  obtain ⟨P3, hP3⟩ : ∃ P, P = rszAux x.ro.length x.ro := ⟨_, rfl⟩
  obtain ⟨P4, hP4⟩ : ∃ P, P = sdsAux x.sa.length x.sa := ⟨_, rfl⟩
  obtain ⟨P5, hP5⟩ : ∃ P, P = 1 + rszAux x.rr.length x.rr := ⟨_, rfl⟩
  rw [← hP2] at q2 b2 hS
  rw [← hP3] at q3 b3 hS
  rw [← hP4] at q4 b4 hS
  rw [← hP5] at q5 hS
  obtain ⟨P0, hP0⟩ : ∃ P, P = x.ch.length := ⟨_, rfl⟩
  obtain ⟨P1, hP1⟩ : ∃ P, P = x.ha.length := ⟨_, rfl⟩
  have l2 : P2 ≤ 4000000000000000 := by omega
  have l3 : P3 ≤ 4000000000000000 := by omega
  have l4 : P4 ≤ 4000000000000000 := by omega
  have l5 : P5 ≤ 4000000000000000 := by omega
  rw [← hP0] at z0 hS
  rw [← hP1] at z1 hS
  have q0' : Hid (∀ W, Ext V W → Calls Tryz.prog 95 #[.slice p.a8 x.ch.length p.c8] W fun e w' => e = .returned (.int .i64 (P0 : Int)) ∧ Ext W w') := Lib.hid (fun W hW => by rw [hP0]; exact q0.out W hW)
  have q1' : Hid (∀ W, Ext V W → Calls Tryz.prog 96 #[.slice p.a9 x.ha.length p.c9] W fun e w' => e = .returned (.int .i64 (P1 : Int)) ∧ Ext W w') := Lib.hid (fun W hW => by rw [hP1]; exact q1.out W hW)
  have hS' := Lib.hid hS
  have hV' := Lib.hid hV
  have hX' := Lib.hid hX
  clear h ht hV hX hrow hioI q0 q1 b2 b3 b4 b5 z2 z3 z4 z5 hS hP0 hP1 hP2 hP3 hP4 hP5
  unfold Ms.arr Ms.row Mg.row at hV' ⊢
  go_enter Tryz.func27, Tryz.ntmps27
  go_upto_region 1 with fail
  rw [← hV'.out, ← hX'.out]
  obtain ⟨x0, x1, x2, x3, x4, x5, x6, x7, x8, x9, x10, x11, x12, x13, x14, x15⟩ := hcl.out V (Ext.refl V)
  go_wp2_with fail
  refine (q0'.out V (Ext.refl V)).mono ?_
  rintro e w1 ⟨rfl, hQ1⟩
  have hE1 : Ext V w1 := (Ext.refl V).trans hQ1
  clear x0 x1 x2 x3 x4 x5 x6 x7 x8 x9 x10 x11 x12 x13 x14 x15 hQ1
  by_cases s1 : 1 + P0 ≤ 1048576
  case neg =>
    have si : ¬ 1 + (P0 : Int) ≤ 1048576 := by omega
    go_wp2_with fail
    go_ret
    refine ⟨congrArg Ending.returned (congrArg (Value.int IntKind.i64) ?_), hE0.trans hE1⟩
    rw [hS'.out, stp_big s1, stp_big s1, stp_big s1, stp_big s1, stp_big s1]
    push_cast
    rfl
  have si1 : 1 + (P0 : Int) ≤ 1048576 := by omega
  obtain ⟨x0, x1, x2, x3, x4, x5, x6, x7, x8, x9, x10, x11, x12, x13, x14, x15⟩ := hcl.out w1 hE1
  go_wp2_with fail
  refine (q1'.out w1 hE1).mono ?_
  rintro e w2 ⟨rfl, hQ2⟩
  have hE2 : Ext V w2 := hE1.trans hQ2
  clear x0 x1 x2 x3 x4 x5 x6 x7 x8 x9 x10 x11 x12 x13 x14 x15 hQ2
  by_cases s2 : 1 + P0 + P1 ≤ 1048576
  case neg =>
    have si : ¬ 1 + (P0 : Int) + (P1 : Int) ≤ 1048576 := by omega
    go_wp2_with fail
    go_ret
    refine ⟨congrArg Ending.returned (congrArg (Value.int IntKind.i64) ?_), hE0.trans hE2⟩
    rw [hS'.out, stp_small s1, stp_big s2, stp_big s2, stp_big s2, stp_big s2]
    push_cast
    rfl
  have si2 : 1 + (P0 : Int) + (P1 : Int) ≤ 1048576 := by omega
  obtain ⟨x0, x1, x2, x3, x4, x5, x6, x7, x8, x9, x10, x11, x12, x13, x14, x15⟩ := hcl.out w2 hE2
  go_wp2_with fail
  refine (q2.out w2 hE2).mono ?_
  rintro e w3 ⟨rfl, hQ3⟩
  have hE3 : Ext V w3 := hE2.trans hQ3
  clear x0 x1 x2 x3 x4 x5 x6 x7 x8 x9 x10 x11 x12 x13 x14 x15 hQ3
  by_cases s3 : 1 + P0 + P1 + P2 ≤ 1048576
  case neg =>
    have si : ¬ 1 + (P0 : Int) + (P1 : Int) + (P2 : Int) ≤ 1048576 := by omega
    go_wp2_with fail
    go_ret
    refine ⟨congrArg Ending.returned (congrArg (Value.int IntKind.i64) ?_), hE0.trans hE3⟩
    rw [hS'.out, stp_small s1, stp_small s2, stp_big s3, stp_big s3, stp_big s3]
    push_cast
    rfl
  have si3 : 1 + (P0 : Int) + (P1 : Int) + (P2 : Int) ≤ 1048576 := by omega
  obtain ⟨x0, x1, x2, x3, x4, x5, x6, x7, x8, x9, x10, x11, x12, x13, x14, x15⟩ := hcl.out w3 hE3
  go_wp2_with fail
  refine (q3.out w3 hE3).mono ?_
  rintro e w4 ⟨rfl, hQ4⟩
  have hE4 : Ext V w4 := hE3.trans hQ4
  clear x0 x1 x2 x3 x4 x5 x6 x7 x8 x9 x10 x11 x12 x13 x14 x15 hQ4
  by_cases s4 : 1 + P0 + P1 + P2 + P3 ≤ 1048576
  case neg =>
    have si : ¬ 1 + (P0 : Int) + (P1 : Int) + (P2 : Int) + (P3 : Int) ≤ 1048576 := by omega
    go_wp2_with fail
    go_ret
    refine ⟨congrArg Ending.returned (congrArg (Value.int IntKind.i64) ?_), hE0.trans hE4⟩
    rw [hS'.out, stp_small s1, stp_small s2, stp_small s3, stp_big s4, stp_big s4]
    push_cast
    rfl
  have si4 : 1 + (P0 : Int) + (P1 : Int) + (P2 : Int) + (P3 : Int) ≤ 1048576 := by omega
  obtain ⟨x0, x1, x2, x3, x4, x5, x6, x7, x8, x9, x10, x11, x12, x13, x14, x15⟩ := hcl.out w4 hE4
  go_wp2_with fail
  refine (q4.out w4 hE4).mono ?_
  rintro e w5 ⟨rfl, hQ5⟩
  have hE5 : Ext V w5 := hE4.trans hQ5
  clear x0 x1 x2 x3 x4 x5 x6 x7 x8 x9 x10 x11 x12 x13 x14 x15 hQ5
  by_cases s5 : 1 + P0 + P1 + P2 + P3 + P4 ≤ 1048576
  case neg =>
    have si : ¬ 1 + (P0 : Int) + (P1 : Int) + (P2 : Int) + (P3 : Int) + (P4 : Int) ≤ 1048576 := by omega
    go_wp2_with fail
    go_ret
    refine ⟨congrArg Ending.returned (congrArg (Value.int IntKind.i64) ?_), hE0.trans hE5⟩
    rw [hS'.out, stp_small s1, stp_small s2, stp_small s3, stp_small s4, stp_big s5]
    push_cast
    rfl
  have si5 : 1 + (P0 : Int) + (P1 : Int) + (P2 : Int) + (P3 : Int) + (P4 : Int) ≤ 1048576 := by omega
  obtain ⟨x0, x1, x2, x3, x4, x5, x6, x7, x8, x9, x10, x11, x12, x13, x14, x15⟩ := hcl.out w5 hE5
  go_wp2_with fail
  refine (q5.out w5 hE5).mono ?_
  rintro e w6 ⟨rfl, hQ6⟩
  have hE6 : Ext V w6 := hE5.trans hQ6
  clear x0 x1 x2 x3 x4 x5 x6 x7 x8 x9 x10 x11 x12 x13 x14 x15 hQ6
  go_wp2_with fail
  go_ret
  refine ⟨congrArg Ending.returned (congrArg (Value.int IntKind.i64) ?_), hE0.trans hE6⟩
  rw [hS'.out, stp_small s1, stp_small s2, stp_small s3, stp_small s4, stp_small s5]
  push_cast
  omega
/-! ### Bounds. -/
theorem rsz_t : ∀ (l : List Rw) (n : Nat), (∀ x ∈ l, x.tiny) → rszAux n l ≤ max n 1048576 + 2097152
  | [], n, _ => by unfold rszAux; omega
  | c :: r, n, h => by
    have ih := rsz_t r (n + c.key.size + c.val.size) (fun d hd => h d (List.mem_cons_of_mem _ hd))
    obtain ⟨h1, h2⟩ := h c (List.mem_cons_self ..)
    unfold rszAux
    split
    · by_cases h3 : n + c.key.size + c.val.size ≤ 1048576
      · omega
      · rw [rsz_stop r _ h3]; omega
    · omega
theorem csz_t : ∀ (l : List Ch) (n : Nat), (∀ x ∈ l, x.tiny) → cszAux n l ≤ max n 1048576 + 2097152
  | [], n, _ => by unfold cszAux; omega
  | c :: r, n, h => by
    have ih := csz_t r (n + c.key.size + c.val.size) (fun d hd => h d (List.mem_cons_of_mem _ hd))
    obtain ⟨h1, h2⟩ := h c (List.mem_cons_self ..)
    unfold cszAux
    split
    · by_cases h3 : n + c.key.size + c.val.size ≤ 1048576
      · omega
      · rw [csz_stop r _ h3]; omega
    · omega
theorem Ak.sz_t {x : Ak} (h : x.tiny) : x.sz ≤ 9000000 := by
  obtain ⟨h1, h2, h3, h4, h5, h6⟩ := h
  have := csz_t x.chs x.chs.length h6
  unfold Ak.sz Ak.base
  split <;> omega
theorem its_t : ∀ (l : List It) (n : Nat), (∀ p ∈ l, p.ask.tiny) → itsAux n l ≤ max n 1048576 + 10000000
  | [], n, _ => by unfold itsAux; omega
  | c :: r, n, h => by
    have ih := its_t r (n + c.sz) (fun d hd => h d (List.mem_cons_of_mem _ hd))
    have h1 : c.sz ≤ 10000000 := by have := Ak.sz_t (h c (List.mem_cons_self ..)); unfold It.sz; omega
    unfold itsAux
    split
    · by_cases h3 : n + c.sz ≤ 1048576
      · omega
      · rw [its_stop r _ h3]; omega
    · omega
theorem sds_t : ∀ (l : List Sa) (n : Nat), (∀ p ∈ l, rwsTiny p.rows) → sdsAux n l ≤ max n 1048576 + 10000000
  | [], n, _ => by unfold sdsAux; omega
  | c :: r, n, h => by
    have ih := sds_t r (n + c.sz) (fun d hd => h d (List.mem_cons_of_mem _ hd))
    have h1 : c.sz ≤ 10000000 := by
      have h2 := h c (List.mem_cons_self ..)
      have := rsz_t c.rows c.rows.length h2.2
      have := h2.1
      unfold Sa.sz
      omega
    unfold sdsAux
    split
    · by_cases h3 : n + c.sz ≤ 1048576
      · omega
      · rw [sds_stop r _ h3]; omega
    · omega
theorem Ms.msz_t {x : Ms} (h : x.tiny) : x.msz ≤ 30000000 := by
  have h2 := its_t x.it x.it.length h.its
  have h3 := rsz_t x.ro x.ro.length h.ro.2
  have h4 := sds_t x.sa x.sa.length h.sas
  have h5 := rsz_t x.rr x.rr.length h.rr.2
  have z0 := h.ch
  have z1 := h.ha
  have z2 := h.it
  have z3 := h.ro.1
  have z4 := h.sa
  have z5 := h.rr.1
  unfold Ms.msz
  refine stp_le (stp_le (stp_le (stp_le (stp_le ?_ ?_) ?_) ?_) ?_) ?_ <;> omega
theorem stp_ge (n p : Nat) : n ≤ stp n p := by unfold stp; split <;> omega
theorem stp_part {n p B : Nat} (h : stp n p ≤ B) (hB : B ≤ 1048576) : n + p ≤ B := by
  have := stp_ge n p
  rw [stp_small (by omega)] at h
  exact h
theorem its_ge2 : ∀ (l : List It) (n : Nat), itsAux n l ≤ 1048576 → n ≤ itsAux n l := fun l n _ => its_ge l n
theorem csz_ge : ∀ (l : List Ch) (n : Nat), n ≤ cszAux n l
  | [], n => Nat.le_refl _
  | c :: r, n => by
    unfold cszAux
    split
    · exact Nat.le_trans (by omega) (csz_ge r _)
    · exact Nat.le_refl _
theorem its_chs : ∀ (l : List It) (n N : Nat), itsAux n l ≤ N → N ≤ 1048576 → ∀ p ∈ l, p.ask.chs.length ≤ N
  | [], _, _, _, _, _, h => nomatch h
  | c :: r, n, N, h, hN, p, hp => by
    have hn : n ≤ 1048576 := by
      have := its_ge (c :: r) n
      omega
    unfold itsAux at h
    rw [if_pos hn] at h
    rcases List.mem_cons.1 hp with rfl | hp
    · have h1 := its_ge r (n + p.sz)
      have h2 := csz_ge p.ask.chs p.ask.chs.length
      have h3 : p.sz = 1 + p.ask.sz := rfl
      unfold Ak.sz at h3
      split at h3
      · omega
      · omega
    · exact its_chs r _ N h hN p hp
/-- A message that is not large. -/
theorem Ms.parts {x : Ms} (h : x.msz ≤ 2000) : x.few ∧ x.it.length + x.sa.length ≤ x.msz := by
  have e := h
  unfold Ms.msz at h
  have h5 := stp_part h (by omega)
  have h4 := stp_part (Nat.le_trans (Nat.le_add_right _ _) h5) (by omega)
  have h3 := stp_part (Nat.le_trans (Nat.le_add_right _ _) h4) (by omega)
  have h2 := stp_part (Nat.le_trans (Nat.le_add_right _ _) h3) (by omega)
  have h1 := stp_part (Nat.le_trans (Nat.le_add_right _ _) h2) (by omega)
  have i2 := its_ge x.it x.it.length
  have i3 := rsz_ge x.ro x.ro.length
  have i4 := sds_ge x.sa x.sa.length
  have i5 := rsz_ge x.rr x.rr.length
  have hm : x.msz = 1 + x.ch.length + x.ha.length + itsAux x.it.length x.it + rszAux x.ro.length x.ro + sdsAux x.sa.length x.sa + (1 + rszAux x.rr.length x.rr) := by
    unfold Ms.msz
    rw [stp_small (n := 1 + x.ch.length) (by omega), stp_small (n := 1 + x.ch.length + x.ha.length) (by omega), stp_small (n := 1 + x.ch.length + x.ha.length + itsAux x.it.length x.it) (by omega), stp_small (n := 1 + x.ch.length + x.ha.length + itsAux x.it.length x.it + rszAux x.ro.length x.ro) (by omega), stp_small (by omega)]
  have c2 := its_chs x.it x.it.length 2000 (by omega) (by omega)
  have c4 := sds_rows x.sa x.sa.length 2000 (by omega) (by omega)
  exact ⟨⟨by omega, by omega, by omega, fun y hy => by have := c2 y hy; omega, by omega, by omega, fun y hy => by have := c4 y hy; omega, by omega⟩, by omega⟩
end Go.Proofs.YtmopjmhapeinjaaGreatDoor

/- great of layer 20: what it tells, and what it says. No condition. -/
namespace Go.Proofs.YtmopjmhapeinjaaGreatDoor
open Go.RowKit
set_option maxRecDepth 100000
set_option maxHeartbeats 4000000
def gOf (x : Ac) : Nat := 1 + x.ask.chs.length + x.ms.msz
def gsum (l : List Ac) : Nat := (l.map gOf).sum
theorem gsum_snoc (l : List Ac) (x : Ac) : gsum (l ++ [x]) = gsum l + gOf x := by unfold gsum; rw [List.map_append, List.sum_append]; simp
theorem gsum_le : ∀ (l : List Ac) (k : Nat), gsum (l.take k) ≤ gsum l
  | [], k => by simp
  | c :: r, 0 => by unfold gsum; simp
  | c :: r, k + 1 => by
    have := gsum_le r k
    unfold gsum at this ⊢
    rw [List.take_succ_cons, List.map_cons, List.sum_cons, List.map_cons, List.sum_cons]
    omega
theorem gOf_le : ∀ (l : List Ac), ∀ x ∈ l, gOf x ≤ gsum l
  | [], _, h => nomatch h
  | c :: r, x, h => by
    unfold gsum
    rw [List.map_cons, List.sum_cons]
    rcases List.mem_cons.1 h with rfl | h
    · omega
    · have := gOf_le r x h
      unfold gsum at this
      omega
theorem gsum_len : ∀ (l : List Ac), l.length ≤ gsum l
  | [] => Nat.le_refl _
  | c :: r => by
    have := gsum_len r
    unfold gsum gOf at *
    rw [List.map_cons, List.sum_cons, List.length_cons]
    omega
theorem gOf_t {w : World} {x : Ac} (h : x.good w) : gOf x ≤ 40000000 := by
  have h1 := Ms.msz_t h.tiny
  have h2 := h.ask.2.2.2.2.2.2.1
  unfold gOf
  omega
theorem acs_range {w : World} {l : List Ac} {b off : Nat} (hd : ∀ i, i < l.length * 27 → w.cell? ⟨b, off + i, none⟩ = (l.flatMap Ac.cells)[i]?) {k : Nat} {x : Ac} (h : l[k]? = some x) : w.rangeAt b (off + k * 27) x.cells := fun r v hv => by
  have hr : r < 27 := (List.getElem?_eq_some_iff.1 hv).1
  have hk : k < l.length := (List.getElem?_eq_some_iff.1 h).1
  rw [Nat.add_assoc, hd (k * 27 + r) (by omega), flatMap_at Ac.cells 27 (by decide) (fun _ => rfl) l k x h r hr _ rfl]
  exact hv
theorem ac_kind {w : World} {b o : Nat} {x : Ac} (h : w.rangeAt b o x.cells) : w.cell? ⟨b, o, none⟩ = some (.int .u8 (x.kind : Int)) := h 0 _ rfl
theorem ac_lv {w : World} {b o : Nat} {x : Ac} (h : w.rangeAt b o x.cells) : w.cell? ⟨b, o + 9, none⟩ = some (.int .u8 (x.lv : Int)) := h 9 _ rfl
theorem ac_to {w : World} {b o : Nat} {x : Ac} (h : w.rangeAt b o x.cells) : w.cell? ⟨b, o + 10, none⟩ = some (.int .u8 (x.dst : Int)) := h 10 _ rfl
theorem ac_chs {w : World} {b o : Nat} {x : Ac} (h : w.rangeAt b o x.cells) : w.cell? ⟨b, o + 8, none⟩ = some (.slice x.ad x.ask.chs.length x.cap) := h 8 _ rfl
theorem ac_ask {w : World} {b o : Nat} {x : Ac} (h : w.rangeAt b o x.cells) : w.rangeAt b (o + 1) (x.ask.row (.slice x.ad x.ask.chs.length x.cap)).toList := fun r v hv => by
  have hr : r < 8 := (List.getElem?_eq_some_iff.1 hv).1
  rw [Nat.add_assoc]
  refine h (1 + r) v ?_
  rw [← hv]
  obtain rfl | rfl | rfl | rfl | rfl | rfl | rfl | rfl : r = 0 ∨ r = 1 ∨ r = 2 ∨ r = 3 ∨ r = 4 ∨ r = 5 ∨ r = 6 ∨ r = 7 := by omega
  all_goals rfl
theorem ac_ms {w : World} {b o : Nat} {x : Ac} (h : w.rangeAt b o x.cells) : w.rangeAt b (o + 11) (x.ms.arr x.ml).toList := fun r v hv => by
  have hr : r < 16 := (List.getElem?_eq_some_iff.1 hv).1
  rw [Nat.add_assoc]
  refine h (11 + r) v ?_
  rw [← hv]
  obtain rfl | rfl | rfl | rfl | rfl | rfl | rfl | rfl | rfl | rfl | rfl | rfl | rfl | rfl | rfl | rfl : r = 0 ∨ r = 1 ∨ r = 2 ∨ r = 3 ∨ r = 4 ∨ r = 5 ∨ r = 6 ∨ r = 7 ∨ r = 8 ∨ r = 9 ∨ r = 10 ∨ r = 11 ∨ r = 12 ∨ r = 13 ∨ r = 14 ∨ r = 15 := by omega
  all_goals rfl
theorem great_any (w : World) (l : List Ac) (a : Option Addr) (cap n : Nat) (hn : n = l.length) (hg : ∀ x ∈ l, x.good w) (hl : n ≤ 1048576) (h1 : RowIs w 27 (.slice a n cap) n (l.flatMap Ac.cells)) :
    Calls Tryz.prog 4 #[.slice a n cap] w fun e w' => e = .returned (.bool (decide (2000 < gsum l))) ∧ Ext w w' := by
  obtain ⟨R, hR⟩ : ∃ R, R = decide (2000 < gsum l) := ⟨_, rfl⟩
  rw [← hR]
  have hR' := Lib.hid hR
  have hg' := Lib.hid hg
  have hn' := Lib.hid hn
  have h1' := Lib.hid h1
  clear hR hg hn h1
  go_enter Tryz.func4, Tryz.ntmps4
  go_wp2_with fail
  go_loopw [3, 4] (fun v i wr => ∃ k N : Nat, k ≤ n ∧ v = .int .i64 (N : Int) ∧ i = .int .i64 k ∧ Hid (N = gsum (l.take k)) ∧ N ≤ 40000000 * k ∧ Ext w wr) (fun _ i _ => n - (intOf i).toNat)
  case atStart => exact ⟨0, 0, by omega, rfl, rfl, Lib.hid rfl, by omega, Ext.refl _⟩
  case round =>
    obtain ⟨k, N, hk, rfl, rfl, hs, hN, hE⟩ := hrel
    by_cases hlt : k < n
    · have hli : (k : Int) < (n : Int) := by omega
      obtain ⟨c, hc⟩ : ∃ c, l[k]? = some c := ⟨_, List.getElem?_eq_getElem (by rw [← hn'.out]; exact hlt)⟩
      have hgc := hg'.out c (List.mem_of_getElem? hc)
      have htk : Hid (gsum (l.take (k + 1)) = gsum (l.take k) + gOf c) := Lib.hid (by rw [List.take_add_one, hc]; exact gsum_snoc _ _)
      obtain ⟨b, off, hat⟩ := (h1'.out.ext hE).at
      obtain ⟨rfl, _, hd⟩ := hat (by omega)
      have hrg := acs_range (by rw [← hn'.out]; exact hd) hc
      have r8 := Lib.hid (fun W (hW : Ext wr W) => hW.cell (ac_chs hrg))
      have rm := ac_ms hrg
      have hcall := Lib.hid (fun W (hW : Ext wr W) => msize_any W c.ms c.ml (hgc.ms.ext (hE.trans hW)) hgc.tiny)
      have hgt := gOf_t hgc
      have hgo : gOf c = 1 + c.ask.chs.length + c.ms.msz := rfl
      obtain ⟨S, hS⟩ : ∃ S, S = c.ms.msz := ⟨_, rfl⟩
      obtain ⟨M, hM⟩ : ∃ S, S = c.ask.chs.length := ⟨_, rfl⟩
      rw [← hS] at hcall hgo
      rw [← hM] at r8 hgo
      obtain ⟨G, hG⟩ : ∃ G, G = gOf c := ⟨_, rfl⟩
      rw [← hG] at htk hgt hgo
      clear hat hd hc hgc hrg hS hM hG
      have f1 : IntKind.i64.wrap ((N : Int) + 1) = (N : Int) + 1 := by rw [IntKind.wrap_i64]; omega
      have f2 : IntKind.i64.wrap ((N : Int) + 1 + (M : Int)) = (N : Int) + 1 + (M : Int) := by rw [IntKind.wrap_i64]; omega
      have f3 : IntKind.i64.wrap ((N : Int) + 1 + (M : Int) + (S : Int)) = (N : Int) + 1 + (M : Int) + (S : Int) := by rw [IntKind.wrap_i64]; omega
      go_upto_region 5 with fail
      refine bqRegion (Ext wr) (by kernel_rfl) (by kernel_rfl) (Ext.refl _).drew ?_
      iterate 7 (refine bqStep (fun K hK => ?_); go_simp; first | (refine hK _ ?_; clear hK K) | (refine ⟨_, fun _ _ => rfl, hK _ ?_⟩; clear hK K))
      refine bqCell (by rfl) 48 _ (by rfl) b (off + k * 27 + 8) (by rfl) _ (fun w' h => r8.out w' h) _ Tryz.underlying48 rfl ?_
      simp only [Act.put, List.setIfInBounds_toArray, List.set_cons_zero, List.set_cons_succ]
      iterate 6 (refine bqStep (fun K hK => ?_); go_simp; first | (refine hK _ ?_; clear hK K) | (refine ⟨_, fun _ _ => rfl, hK _ ?_⟩; clear hK K))
      refine bqMid (by rfl) 63 _ (by rfl) b (off + k * 27 + 11) (by rfl) _ _ (fun w' h r u hu => h.cell (rm r u hu)) Tryz.underlying63 rfl (by exact info_msg) ?_
      simp only [Act.put, List.setIfInBounds_toArray, List.set_cons_zero, List.set_cons_succ]
      refine bqStep (fun K hK => ?_); go_simp
      refine ⟨_, fun w' hw => calls_ext hw (hcall.out w' hw), hK _ ?_⟩; clear hK K
      iterate 2 (refine bqStep (fun K hK => ?_); go_simp; first | (refine hK _ ?_; clear hK K) | (refine ⟨_, fun _ _ => rfl, hK _ ?_⟩; clear hK K))
      refine bqNil (fun w5 hE5 => ?_)
      clear r8 rm hcall
      go_wp2_with fail
      go_roundw
      case rel => exact ⟨k + 1, N + G, by omega, by rw [hgo]; go_num, by go_num, Lib.hid (by rw [htk.out, ← hs.out]), by omega, hE.trans hE5⟩
      case measure => simp [intOf]; omega
    · have hli : ¬ (k : Int) < (n : Int) := by omega
      have hNs : Hid (N = gsum l) := Lib.hid (by rw [hs.out, List.take_of_length_le (by rw [← hn'.out]; omega)])
      by_cases hb : 2000 < N
      · have hbi : (2000 : Int) < (N : Int) := by omega
        go_wp2_with fail
        go_ret
        exact ⟨by rw [hR'.out, ← hNs.out, decide_eq_true hb]; rfl, hE⟩
      · have hbi : ¬ (2000 : Int) < (N : Int) := by omega
        go_wp2_with fail
        go_ret
        exact ⟨by rw [hR'.out, ← hNs.out, decide_eq_false hb]; rfl, hE⟩
/-- Acts that are not much. -/
theorem great_no {l : List Ac} (h : decide (2000 < gsum l) = false) : gsum l ≤ 2000 ∧ l.length ≤ 2000 ∧ ∀ x ∈ l, x.ask.chs.length ≤ 2000 ∧ x.ms.few ∧ 8 + x.ms.it.length + x.ms.sa.length ≤ 8 * gOf x ∧ x.ms.it.length ≤ 2000 ∧ x.ms.sa.length ≤ 2000 := by
  have h1 := of_decide_eq_false h
  have h2 := gsum_len l
  refine ⟨by omega, by omega, fun x hx => ?_⟩
  have h3 := gOf_le l x hx
  have h4 : gOf x = 1 + x.ask.chs.length + x.ms.msz := rfl
  obtain ⟨h5, h6⟩ := Ms.parts (x := x.ms) (by omega)
  exact ⟨by omega, h5, by omega, by omega, by omega⟩
end Go.Proofs.YtmopjmhapeinjaaGreatDoor

/-
  DERIVED: THE SHELF's CONTRACTS AT THIS DUMP, IN PLAIN WORDS (tools/lay-plain.mjs out of 'YtmopjmhapeinjaaGreatDoorItoa0.lean', which tools/lay-shelf.mjs wrote): THE SAME DECLARATIONS UNDER THE SAME NAMES: 'import', 'namespace', 'open', 'def', 'theorem' AND NOTHING ELSE: no command of the shelf's: FOR A HAND-IN. Each laying: the table of numbers ('.._ren') and one theorem, a field a fact of the dump's own or the kernel's comparison; each contract: ONE APPLICATION.
-/
namespace Go.Proofs
open Go.Shelf
def Tryz.laysItoa_ren : Go.Shelf.Ren := ⟨fun | 171 => 161 | 243 => 164 | 246 => 165 | 283 => 166 | 284 => 167 | 285 => 168 | 286 => 169 | 129 => 171 | 317 => 170 | 318 => 172 | 319 => 173 | 320 => 174 | 337 => 175 | 338 => 176 | n => n, fun | 3 => 3 | 9 => 9 | 2 => 2 | 4 => 4 | 171 => 212 | 0 => 0 | 53 => 54 | 37 => 55 | 5 => 5 | 173 => 215 | 212 => 218 | 51 => 53 | 20 => 20 | 213 => 219 | 46 => 221 | 232 => 224 | 233 => 225 | n => n, fun | 17 => 0 | 18 => 1 | 19 => 2 | n => n⟩
theorem Tryz.laysItoa : Go.Proofs.LaysM.n171 Tryz.prog Tryz.laysItoa_ren := {
  mixed := by kernel_rfl
  f129 := Tryz.func171.trans (congrArg some (by kernel_rfl))
  f171 := Tryz.func161.trans (congrArg some (by kernel_rfl))
  f243 := Tryz.func164.trans (congrArg some (by kernel_rfl))
  f246 := Tryz.func165.trans (congrArg some (by kernel_rfl))
  f283 := Tryz.func166.trans (congrArg some (by kernel_rfl))
  f284 := Tryz.func167.trans (congrArg some (by kernel_rfl))
  f285 := Tryz.func168.trans (congrArg some (by kernel_rfl))
  f286 := Tryz.func169.trans (congrArg some (by kernel_rfl))
  f317 := Tryz.func170.trans (congrArg some (by kernel_rfl))
  f318 := Tryz.func172.trans (congrArg some (by kernel_rfl))
  f319 := Tryz.func173.trans (congrArg some (by kernel_rfl))
  f320 := Tryz.func174.trans (congrArg some (by kernel_rfl))
  f337 := Tryz.func175.trans (congrArg some (by kernel_rfl))
  f338 := Tryz.func176.trans (congrArg some (by kernel_rfl))
  t0 := Tryz.underlying0
  a0 := Tryz.isAgg0
  z0 := Tryz.sizeOf0
  v0 := Tryz.zeroValue0
  t2 := Tryz.underlying2
  a2 := Tryz.isAgg2
  z2 := Tryz.sizeOf2
  v2 := Tryz.zeroValue2
  t3 := Tryz.underlying3
  a3 := Tryz.isAgg3
  z3 := Tryz.sizeOf3
  v3 := Tryz.zeroValue3
  t4 := Tryz.underlying4
  a4 := Tryz.isAgg4
  z4 := Tryz.sizeOf4
  v4 := Tryz.zeroValue4
  t5 := Tryz.underlying5
  a5 := Tryz.isAgg5
  z5 := Tryz.sizeOf5
  v5 := Tryz.zeroValue5
  t9 := Tryz.underlying9
  a9 := Tryz.isAgg9
  z9 := Tryz.sizeOf9
  v9 := Tryz.zeroValue9
  t20 := Tryz.underlying20
  a20 := Tryz.isAgg20
  z20 := Tryz.sizeOf20
  v20 := Tryz.zeroValue20
  t37 := Tryz.underlying55
  a37 := Tryz.isAgg55
  z37 := Tryz.sizeOf55
  v37 := Tryz.zeroValue55
  t46 := Tryz.underlying221
  a46 := Tryz.isAgg221
  z46 := Tryz.sizeOf221
  v46 := Tryz.zeroValue221
  t51 := Tryz.underlying53
  a51 := Tryz.isAgg53
  z51 := Tryz.sizeOf53
  v51 := Tryz.zeroValue53
  t53 := Tryz.underlying54
  a53 := Tryz.isAgg54
  z53 := Tryz.sizeOf54
  v53 := Tryz.zeroValue54
  t171 := Tryz.underlying212
  a171 := Tryz.isAgg212
  z171 := Tryz.sizeOf212
  v171 := Tryz.zeroValue212
  t173 := Tryz.underlying215
  a173 := Tryz.isAgg215
  z173 := Tryz.sizeOf215
  v173 := Tryz.zeroValue215
  t212 := Tryz.underlying218
  a212 := Tryz.isAgg218
  z212 := Tryz.sizeOf218
  v212 := Tryz.zeroValue218
  t213 := Tryz.underlying219
  a213 := Tryz.isAgg219
  z213 := Tryz.sizeOf219
  t232 := Tryz.underlying224
  a232 := Tryz.isAgg224
  z232 := Tryz.sizeOf224
  v232 := Tryz.zeroValue224
  t233 := Tryz.underlying225
  a233 := Tryz.isAgg225
  z233 := Tryz.sizeOf225
  v233 := Tryz.zeroValue225
  g17 := by kernel_rfl
  g18 := by kernel_rfl
  g19 := by kernel_rfl
  i0 := by kernel_rfl
  i2 := by kernel_rfl
  i3 := by kernel_rfl
  i4 := by kernel_rfl
  i5 := by kernel_rfl
  i9 := by kernel_rfl
  i20 := by kernel_rfl
  i37 := by kernel_rfl
  i46 := by kernel_rfl
  i51 := by kernel_rfl
  i53 := by kernel_rfl
  i171 := by kernel_rfl
  i173 := by kernel_rfl
  i212 := by kernel_rfl
  i232 := by kernel_rfl
  i233 := by kernel_rfl
  m17 := by kernel_rfl
  m18 := by kernel_rfl
  m19 := by kernel_rfl }
end Go.Proofs

/- word: a mark as a text, for numbers below 1000000 (strconv.Itoa by the shelf's contract, with its table). No condition. -/
namespace Go.Proofs.YtmopjmhapeinjaaGreatDoor
open Go.RowKit
def wordB (i : Nat) : ByteArray := (⟨#[35]⟩ : ByteArray) ++ ⟨(Lib.decDigits i).toArray⟩
/-- The library's table is as its initialiser laid it. -/
def TabW (w : World) : Prop := Lib.TabIs Tryz.prog w "internal/strconv.uint64pow10" .u64 Lib.pow10Tab
def numTop : Nat := 1000000
theorem ext_grow (w : World) (k : Nat) (os : Array Obj) : Ext w (Go.Sort.grow (w.drewN k) os) :=
  ⟨rfl, rfl, rfl, by show w.heap.size ≤ (w.heap ++ os).size; rw [Array.size_append]; omega, fun i hi => Go.Sort.heap_grow_old (w.drewN k) os hi⟩
theorem itoa_any (w : World) (i : Nat) (hi : i < numTop) (ht : TabW w) : Calls Tryz.prog 161 #[.int .i64 (i : Int)] w fun e w' => e = .returned (.string ⟨(Lib.decDigits i).toArray⟩) ∧ Ext w w' := by
  unfold numTop at hi
  refine (Any.strconv_Itoa (P := Tryz.prog) (ρ := Tryz.laysItoa_ren) Tryz.laysItoa (i : Int) (by omega) (by omega) w ht).mono ?_
  rintro e w' ⟨rfl, k, os, rfl⟩
  exact ⟨by rw [Lib.itoa_nonneg], ext_grow w k os⟩
theorem dec_len0 (u : Nat) : (Lib.decDigits u).length ≤ u + 1 := by
  induction u using Nat.strongRecOn with
  | _ u ih =>
    rw [Lib.decDigits]
    split
    · simp
    · rename_i h
      have := ih (u / 10) (by omega)
      rw [List.length_append, List.length_singleton]
      omega
theorem dec_len (i : Nat) (hi : i < numTop) : (Lib.decDigits i).length ≤ 1000000 := by
  have := dec_len0 i
  unfold numTop at hi
  omega
theorem word_any (w : World) (i : Nat) (hi : i < numTop) (ht : TabW w) : Calls Tryz.prog 158 #[.int .i64 (i : Int)] w fun e w' => e = .returned (.string (wordB i)) ∧ Ext w w' := by
  have hl : ¬ 9223372036854775807 < 1 + (Lib.decDigits i).length := by have := dec_len i hi; omega
  have hit := Lib.hid (itoa_any w i hi ht)
  clear ht
  go_enter Tryz.func158, Tryz.ntmps158
  go_wp2_with fail
  refine hit.out.mono ?_
  rintro e w' ⟨rfl, hE⟩
  go_wp2_with fail
  go_ret
  exact ⟨rfl, hE⟩
end Go.Proofs.YtmopjmhapeinjaaGreatDoor
