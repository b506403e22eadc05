import Derived.Test.YtdkhcamckjidcaaSuf6
namespace Go.Proofs.Ytdkhcamckjidcaa
open Go.RowKit
theorem ch_at (l : List Ch) (k : Nat) (c : Ch) (h : l[k]? = some c) (r : Nat) (hr : r < 3) : (l.flatMap Ch.cells)[k * 3 + r]? = c.cells[r]? :=
  flatMap_at Ch.cells 3 (by decide) (fun _ => rfl) l k c h r hr _ rfl
set_option maxRecDepth 100000 in
set_option maxHeartbeats 1000000 in
theorem sameChanges_any (w : World) (l : List Ch) (a a' : Option Addr) (cap cap' : Nat) (hl : l.length ≤ 140737488351232) (h1 : RowIs w 3 (.slice a l.length cap) l.length (l.flatMap Ch.cells)) (h2 : RowIs w 3 (.slice a' l.length cap') l.length (l.flatMap Ch.cells)) :
    Calls Try.prog 31 #[.slice a l.length cap, .slice a' l.length cap'] w fun e w' => e = .returned (.bool true) ∧ Ext w w' := by
  go_enter Try.func31, Try.ntmps31
  go_wp2
  go_loopw [5] (fun i wr => ∃ k : Nat, k ≤ l.length ∧ i = .int .i64 k ∧ Ext w wr) (fun i _ => l.length - (intOf i).toNat)
  case atStart => exact ⟨0, by omega, rfl, Ext.refl _⟩
  case round =>
    obtain ⟨k, hk, rfl, hE⟩ := hrel
    by_cases hlt : k < l.length
    · have hli : (k : Int) < (l.length : Int) := by omega
      obtain ⟨c, hc⟩ : ∃ c, l[k]? = some c := ⟨_, List.getElem?_eq_getElem hlt⟩
      obtain ⟨b, off, hat⟩ := (h1.ext hE).at
      obtain ⟨b', off', hat'⟩ := (h2.ext hE).at
      obtain ⟨rfl, _, hd⟩ := hat (by omega)
      obtain ⟨rfl, _, hd'⟩ := hat' (by omega)
      have p0 := hd (k * 3 + 0) (by omega)
      have p1 := hd (k * 3 + 1) (by omega)
      have p2 := hd (k * 3 + 2) (by omega)
      have q0 := hd' (k * 3 + 0) (by omega)
      have q1 := hd' (k * 3 + 1) (by omega)
      have q2 := hd' (k * 3 + 2) (by omega)
      rw [ch_at l k c hc _ (by decide)] at p0 p1 p2 q0 q1 q2
      simp only [Ch.cells, List.getElem?_cons_zero, List.getElem?_cons_succ, Nat.add_zero] at p0 p1 p2 q0 q1 q2
      rw [← Nat.add_assoc] at p1 p2 q1 q2
      clear hd hd' hat hat' hc
      go_wp2
      go_still (by kernel_rfl)
      change Exit.then _ _ _ _ wr.drew
      go_wp2
      go_roundw
      case rel => exact ⟨k + 1, by omega, by go_num, hE.drew⟩
      case measure => simp [intOf]; omega
    · have hli : ¬ (k : Int) < (l.length : Int) := by omega
      go_wp2
      go_ret
      exact ⟨rfl, hE⟩
set_option maxRecDepth 100000 in
set_option maxHeartbeats 1000000 in
theorem sameItem_ask (w : World) (x : It) (a a' : Option Addr) (cap cap' : Nat) (hl : x.chs.length ≤ 140737488351232) (h1 : RowIs w 3 (.slice a x.chs.length cap) x.chs.length (x.chs.flatMap Ch.cells)) (h2 : RowIs w 3 (.slice a' x.chs.length cap') x.chs.length (x.chs.flatMap Ch.cells)) :
    Calls Try.prog 23 #[.agg #[.int .u8 x.kind, .string x.key, .string x.val, .string x.old, .bool x.new, .string x.to, .int .i64 x.many, .slice a x.chs.length cap], .agg #[.int .u8 x.kind, .string x.key, .string x.val, .string x.old, .bool x.new, .string x.to, .int .i64 x.many, .slice a' x.chs.length cap']] w fun e w' => e = .returned (.bool true) ∧ Ext w w' := by
  go_enter Try.func23, Try.ntmps23
  go_wp2_with fail
  refine (sameChanges_any _ x.chs a a' cap cap' hl (h1.ext (((Ext.refl _).alloc _).alloc _)) (h2.ext (((Ext.refl _).alloc _).alloc _))).mono ?_
  rintro e w' ⟨rfl, hx⟩
  go_wp2
  go_ret
  exact ⟨rfl, (((Ext.refl _).alloc _).alloc _).trans hx⟩
set_option maxRecDepth 100000 in
set_option maxHeartbeats 1000000 in
theorem sameItem_any (w : World) (x : It) (a a' : Option Addr) (cap cap' : Nat) (hl : x.chs.length ≤ 140737488351232) (h1 : RowIs w 3 (.slice a x.chs.length cap) x.chs.length (x.chs.flatMap Ch.cells)) (h2 : RowIs w 3 (.slice a' x.chs.length cap') x.chs.length (x.chs.flatMap Ch.cells)) :
    Calls Try.prog 15 #[.agg (x.row (.slice a x.chs.length cap)), .agg (x.row (.slice a' x.chs.length cap'))] w fun e w' => e = .returned (.bool true) ∧ Ext w w' := by
  unfold It.row
  go_enter Try.func15, Try.ntmps15
  go_wp2_with fail
  refine (sameItem_ask _ x a a' cap cap' hl (h1.ext (((Ext.refl _).alloc _).alloc _)) (h2.ext (((Ext.refl _).alloc _).alloc _))).mono ?_
  rintro e w' ⟨rfl, hx⟩
  go_wp2
  go_ret
  exact ⟨rfl, (((Ext.refl _).alloc _).alloc _).trans hx⟩
end Go.Proofs.Ytdkhcamckjidcaa
