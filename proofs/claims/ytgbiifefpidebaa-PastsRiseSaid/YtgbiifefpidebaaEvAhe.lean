/- pasts.Ahead told exactly. No condition. -/
import Derived.Test.YtgbiifefpidebaaEvAhd
namespace Go.Proofs.Ytgbiifefpidebaa
open Go.RowKit
set_option maxRecDepth 100000
set_option maxHeartbeats 1000000
def aheadB (l : List Ev) (i j : Nat) : Bool := match l[i]?, l[j]? with
  | some x, some y => (x.kind == 2) && ((y.kind == 2) && (l.drop (i + 1)).any y.asks)
  | _, _ => false
theorem flatMap_cut {α β : Type} (f : α → List β) (s : Nat) (hf : ∀ x, (f x).length = s) : ∀ (l : List α) (k : Nat), (l.flatMap f).drop (k * s) = (l.drop k).flatMap f ∧ (l.flatMap f).take (k * s) = (l.take k).flatMap f
  | l, 0 => by simp
  | [], k + 1 => by simp
  | x :: l, k + 1 => by
    have e : (k + 1) * s = (f x).length + k * s := by rw [hf, Nat.succ_mul, Nat.add_comm]
    obtain ⟨h1, h2⟩ := flatMap_cut f s hf l k
    rw [List.flatMap_cons, e, List.drop_append, List.take_append, List.drop_of_length_le (by omega), List.take_of_length_le (by omega)]
    rw [show (f x).length + k * s - (f x).length = k * s by omega, h1, h2]
    exact ⟨by simp, by simp⟩
theorem ev_drop (l : List Ev) (k : Nat) : (l.flatMap Ev.cells).drop (k * 17) = (l.drop k).flatMap Ev.cells := (flatMap_cut Ev.cells 17 (fun _ => rfl) l k).1
theorem ahead_ev (w : World) (l : List Ev) (a : Option Addr) (cap : Nat) (hR : RowIs w 17 (.slice a l.length cap) l.length (l.flatMap Ev.cells)) (hn : l.length ≤ 120) (i j : Nat) (hi2 : i ≤ 120) (hj2 : j ≤ 120) : Calls Try.prog 10 #[.slice a l.length cap, .int .i64 (i : Int), .int .i64 (j : Int)] w (CtE w (aheadB l i j)) := by
  obtain ⟨ln, hln⟩ : ∃ n, n = l.length := ⟨_, rfl⟩
  rw [← hln] at hR hn ⊢
  have hln' := Lib.hid hln
  obtain ⟨B, hB⟩ : ∃ B, B = aheadB l i j := ⟨_, rfl⟩
  rw [← hB]
  have hB' := Lib.hid hB
  obtain ⟨W, hW⟩ : ∃ W, W = (w.alloc (.cells #[.slice a ln cap] 22)).alloc (.cells #[.int .i64 (j : Int)] 3) := ⟨_, rfl⟩
  have hE : Ext w W := by rw [hW]; exact ((Ext.refl _).alloc _).alloc _
  have hX : W.heap[w.heap.size]? = some (.cells #[.slice a ln cap] 22 (0, 0)) := by rw [hW]; exact ((Ext.refl _).alloc _).row (heap_alloc_new w _)
  have hY : W.heap[w.heap.size + 1]? = some (.cells #[.int .i64 (j : Int)] 3 (0, 0)) := by
    have h1 := heap_alloc_new (w.alloc (.cells #[.slice a ln cap] 22)) (.cells #[.int .i64 (j : Int)] 3)
    rw [show (w.alloc (.cells #[.slice a ln cap] 22)).heap.size = w.heap.size + 1 by simp] at h1
    rw [hW]; exact h1
  have x0 : W.cell? ⟨w.heap.size, 0, none⟩ = some (.slice a ln cap) := by rw [cell_of_row _ _ _ _ 22 (0, 0) hX]; rfl
  have y0 : W.cell? ⟨w.heap.size + 1, 0, none⟩ = some (.int .i64 (j : Int)) := by rw [cell_of_row _ _ _ _ 3 (0, 0) hY]; rfl
  have hW' := Lib.hid hW
  have hR' := Lib.hid (hR.ext hE)
  clear hW hX hY hln hB hR
  go_enter Try.func10, Try.ntmps10
  go_upto_region 1 with fail
  rw [← hW'.out]
  clear hW'
  have hi0 : ¬ (i : Int) < 0 := by omega
  have hj0 : ¬ (j : Int) < 0 := by omega
  have di0 : decide ((i : Int) < 0) = false := decide_eq_false hi0
  have dj0 : decide ((j : Int) < 0) = false := decide_eq_false hj0
  by_cases hi : i < ln
  case neg =>
    have hii : (ln : Int) ≤ (i : Int) := by omega
    have hf : Hid (B = false) := Lib.hid (by
      rw [hB'.out]
      unfold aheadB
      rw [List.getElem?_eq_none (by rw [← hln'.out]; omega)])
    go_wp2_with fail
    go_ret
    exact ⟨by rw [hf.out]; rfl, hE⟩
  have hii : ¬ (ln : Int) ≤ (i : Int) := by omega
  have dii : decide ((ln : Int) ≤ (i : Int)) = false := decide_eq_false hii
  by_cases hj : j < ln
  case neg =>
    have hjj : (ln : Int) ≤ (j : Int) := by omega
    have hf : Hid (B = false) := Lib.hid (by
      rw [hB'.out]
      unfold aheadB
      rw [List.getElem?_eq_none (i := j) (by rw [← hln'.out]; omega)]
      cases l[i]? <;> rfl)
    go_wp2_with fail
    go_ret
    exact ⟨by rw [hf.out]; rfl, hE⟩
  have hjj : ¬ (ln : Int) ≤ (j : Int) := by omega
  have djj : decide ((ln : Int) ≤ (j : Int)) = false := decide_eq_false hjj
  obtain ⟨x, hx⟩ : ∃ c, l[i]? = some c := ⟨_, List.getElem?_eq_getElem (by rw [← hln'.out]; exact hi)⟩
  obtain ⟨y, hy⟩ : ∃ c, l[j]? = some c := ⟨_, List.getElem?_eq_getElem (by rw [← hln'.out]; exact hj)⟩
  have hBB : Hid (B = ((x.kind == 2) && ((y.kind == 2) && (l.drop (i + 1)).any y.asks))) := Lib.hid (by rw [hB'.out]; unfold aheadB; rw [hx, hy])
  obtain ⟨b, off, hat⟩ := hR'.out.at
  obtain ⟨rfl, hcap, hd⟩ := hat (by omega)
  have hd' := Lib.hid hd
  have px := ev_range (by rw [← hln'.out]; exact hd) hx
  have py := ev_range (by rw [← hln'.out]; exact hd) hy
  have xk := px 0 _ rfl
  have yk := py 0 _ rfl
  rw [Nat.add_zero] at xk yk
  have py' := Lib.hid py
  have hij : (i : Int) < (ln : Int) := by omega
  have hjl : (j : Int) < (ln : Int) := by omega
  clear hat hd px py hB' hx hy
  cases hk1 : (x.kind == 2)
  case false =>
    have hk1n : (x.kind != 2) = true := by unfold bne; rw [hk1]; rfl
    go_wp2_with fail
    go_ret
    exact ⟨by rw [hBB.out, hk1]; rfl, hE⟩
  have hk1n : (x.kind != 2) = false := by unfold bne; rw [hk1]; rfl
  cases hk2 : (y.kind == 2)
  case false =>
    have hk2n : (y.kind != 2) = true := by unfold bne; rw [hk2]; rfl
    go_wp2_with fail
    go_ret
    exact ⟨by rw [hBB.out, hk1, hk2]; rfl, hE⟩
  have hk2n : (y.kind != 2) = false := by unfold bne; rw [hk2]; rfl
  have hwr : IntKind.i64.wrap ((i : Int) + 1) = (i : Int) + 1 := by rw [IntKind.wrap_i64]; omega
  have hl0 : 0 ≤ (i : Int) + 1 := by omega
  have hl1 : (i : Int) + 1 ≤ (ln : Int) := by omega
  have hln2 : ((i : Int) + 1).toNat = i + 1 := by omega
  have hcp : CapAt W y w.heap.size (w.heap.size + 1) := ⟨⟨b, off, j, ln, cap, x0, y0, py'.out, hj⟩⟩
  have hcp' := Lib.hid hcp
  have hdl : Hid ((l.drop (i + 1)).length = ln - (i + 1)) := Lib.hid (by rw [List.length_drop, ← hln'.out])
  have hm : Hid (B = (l.drop (i + 1)).any y.asks) := Lib.hid (by rw [hBB.out, hk1, hk2]; rfl)
  have hdr := hR'.out.drop (i + 1)
  rw [ev_drop] at hdr
  have hdr' := Lib.hid hdr
  clear hcp hdr
  by_cases hcc : cap = i + 1
  · go_wp2_with fail
    have hz : ln - (i + 1) = 0 := by omega
    have h1 := ctf_ev W y (l.drop (i + 1)) (some ⟨b, off, none⟩) 0 (by
      have hnil : l.drop (i + 1) = [] := List.eq_nil_of_length_eq_zero (by rw [hdl.out]; exact hz)
      rw [hnil]
      exact RowIs.nil _ _ _ _ (fun _ => rfl)) (by rw [hdl.out]; omega) w.heap.size (w.heap.size + 1) hcp'.out
    rw [hdl.out, ← hm.out] at h1
    refine h1.mono ?_
    rintro e w2 ⟨rfl, hE2⟩
    go_wp2_with fail
    go_ret
    exact ⟨rfl, hE.trans hE2⟩
  · go_wp2_with fail
    have h1 := ctf_ev W y (l.drop (i + 1)) (some ⟨b, off + (i + 1) * 17, none⟩) (cap - (i + 1)) (by
      have := hdr'.out
      unfold tailAddr at this
      rw [if_neg hcc] at this
      rw [hdl.out]
      exact this) (by rw [hdl.out]; omega) w.heap.size (w.heap.size + 1) hcp'.out
    rw [hdl.out, ← hm.out] at h1
    refine h1.mono ?_
    rintro e w2 ⟨rfl, hE2⟩
    go_wp2_with fail
    go_ret
    exact ⟨rfl, hE.trans hE2⟩
end Go.Proofs.Ytgbiifefpidebaa
