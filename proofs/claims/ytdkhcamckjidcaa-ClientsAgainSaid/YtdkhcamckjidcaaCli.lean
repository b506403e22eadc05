/- A client: its block, and what its methods do: New, Drops, Waits, Ask. No condition. -/
import Derived.Test.YtdkhcamckjidcaaChk2
import Derived.Lib.SliceRun
import Derived.Test.YtdkhcamckjidcaaOff
import Derived.Test.YtdkhcamckjidcaaKit3
namespace Go.Proofs.Ytdkhcamckjidcaa
open Go.RowKit
theorem ch_eql_nil (w : World) (a : Option Addr) (n c n' c' : Nat) : (binOp .eql 30 (.slice a n c) (.slice none n' c')).run Try.prog w = .ok (.bool a.isNone) w := Lib.run_eql_slice_nil w _ _ a n c n' c' Try.underlying30
theorem made_row (w : World) (e : TypeId) (size : Nat) : (w.alloc (.cells #[] e)).ownsRow w.heap.size e size (.slice (some ⟨w.heap.size, 0, none⟩) 0 0) 0 [] := World.ownsRow_made w #[] 0 (Nat.le_refl _) (Nat.zero_le _) (by simp)
theorem own_slice {w : World} {base : Nat} {e : TypeId} {size : Nat} {v : Value} {n : Nat} {xs : List Value} (h : w.ownsRow base e size v n xs) : ∃ a cap, v = .slice a n cap ∧ n ≤ cap := by
  obtain ⟨_, ⟨h1, h0⟩ | ⟨g, cap, cur, rfl, hb, _, hc, hm, _⟩⟩ := h
  · exact ⟨none, 0, by rw [h1, h0], by omega⟩
  · exact ⟨_, cap, rfl, hc⟩
/-- What Clone of n changes tells: a slice of the call's own. -/
def Cloned (w : World) (n : Nat) (xs : List Value) (e : Ending) (w' : World) : Prop := ∃ a cap, e = .returned (.slice a n cap) ∧ n ≤ cap ∧ w'.ownsRow w.heap.size 77 3 (.slice a n cap) n xs ∧ Ext w w'
/-- slices.Clone of changes, its block the call's own. -/
theorem clone_ch (w : World) (l : List Ch) (a : Option Addr) (cap : Nat) (h : ChsAt w l a cap) :
    Calls Try.prog 25 #[.slice a l.length cap] w (Cloned w l.length (l.flatMap Ch.cells)) := by
  obtain ⟨hr, hn, _⟩ := h
  have h1 := ch_one l
  generalize l.flatMap Ch.cells = xs at *
  generalize l.length = n at *
  have q30 := ch_eql_nil
  cases a with
  | none =>
    obtain ⟨hl, _, ⟨rfl, a', cap', he, hc⟩ | ⟨b, off, cap', he, _⟩⟩ := hr
    · injection he with e1 _ e3
      subst e1 e3
      obtain rfl := hc rfl
      obtain rfl : xs = [] := List.eq_nil_of_length_eq_zero (by simpa using hl)
      go_enter Try.func25, Try.ntmps25
      go_wp2
      go_ret
      exact ⟨none, 0, rfl, Nat.le_refl _, World.ownsRow_nil _ _ _ _, Ext.refl _⟩
    · injection he with e1; cases e1
  | some ad =>
    have hl := hr.2.1
    go_enter Try.func25, Try.ntmps25
    go_wp2_with (at_builtin; refine wpList_append_row rfl (.tmp 5) (.tmp 6) 30 77 rfl Try.underlying30 el_ch (w.alloc (.cells #[] 77)) w.heap.size 0 [] _ (by rfl) (made_row w 77 3) (.slice (some ad) n cap) n xs rfl (hr.ext ((Ext.refl w).alloc _)) h1 (by omega) (by omega) (by simp) ?_; intro v' w' hown hb)
    go_ret
    rw [Nat.zero_add, List.nil_append] at hown
    obtain ⟨a', cap', rfl, hc⟩ := own_slice hown
    exact ⟨a', cap', rfl, hc, hown, Below.trans ((Ext.refl w).alloc _) hb⟩
theorem clip_ch (w : World) (a : Option Addr) (n cap : Nat) (hc : n ≤ cap) : Calls Try.prog 27 #[.slice a n cap] w fun e w' => e = .returned (.slice a n n) ∧ w = w' := by
  go_enter Try.func27, Try.ntmps27
  go_wp2
  go_ret
  exact ⟨rfl, rfl⟩
/-- A client's block. -/
def ClAt (w : World) (c : Nat) (id num : Int) (p : Option Addr) : Prop := w.heap[c]? = some (.cells #[.int .u8 id, .int .u32 num, .pointer p] 83 (0, 0))
theorem ClAt.cells {w : World} {c : Nat} {id num : Int} {p : Option Addr} (h : ClAt w c id num p) : w.cell? ⟨c, 0, none⟩ = some (.int .u8 id) ∧ w.cell? ⟨c, 1, none⟩ = some (.int .u32 num) ∧ w.cell? ⟨c, 2, none⟩ = some (.pointer p) ∧ ∀ o, w.frozen? ⟨c, o, none⟩ = false := by
  refine ⟨?_, ?_, ?_, fun o => ?_⟩
  · rw [cell_of_row _ _ 0 _ 83 (0, 0) h]; rfl
  · rw [cell_of_row _ _ 1 _ 83 (0, 0) h]; rfl
  · rw [cell_of_row _ _ 2 _ 83 (0, 0) h]; rfl
  · unfold World.frozen?; rw [h]; simp
theorem ClAt.put1 {w : World} {c : Nat} {id num : Int} {p : Option Addr} (h : ClAt w c id num p) (n : Int) : ClAt (w.setCell ⟨c, 1, none⟩ (.int .u32 n)) c id n p := by
  unfold ClAt at h ⊢
  rw [setCell_eq_setRow _ _ _ _ _ _ _ h, setRow_heap _ _ _ _ _ _ h]; rfl
theorem ClAt.put2 {w : World} {c : Nat} {id num : Int} {p : Option Addr} (h : ClAt w c id num p) (q : Option Addr) : ClAt (w.setCell ⟨c, 2, none⟩ (.pointer q)) c id num q := by
  unfold ClAt at h ⊢
  rw [setCell_eq_setRow _ _ _ _ _ _ _ h, setRow_heap _ _ _ _ _ _ h]; rfl
theorem ClAt.off {B : Nat → Prop} {w w' : World} {c : Nat} {id num : Int} {p : Option Addr} (h : ClAt w c id num p) (he : OffB B w w') (hb : ¬ B c) : ClAt w' c id num p := by
  unfold ClAt at h ⊢
  rw [he.block c (Array.getElem?_eq_some_iff.1 h).1 hb]; exact h
theorem ClAt.ext {w w' : World} {c : Nat} {id num : Int} {p : Option Addr} (h : ClAt w c id num p) (he : Ext w w') : ClAt w' c id num p := he.row h
/-- What a client waits for: its block, and where the changes lie. -/
def WaAt (w : World) (g : Nat) (x : Ak) (lv : Int) (a : Option Addr) (cap : Nat) : Prop := w.heap[g]? = some (.cells ((x.row (.slice a x.chs.length cap)).push (.int .u8 lv)) 86 (0, 0)) ∧ ChsAt w x.chs a cap
theorem WaAt.ext {w w' : World} {g : Nat} {x : Ak} {lv : Int} {a : Option Addr} {cap : Nat} (h : WaAt w g x lv a cap) (he : Ext w w') : WaAt w' g x lv a cap := ⟨he.row h.1, h.2.ext he⟩
theorem WaAt.cells {w : World} {g : Nat} {x : Ak} {lv : Int} {a : Option Addr} {cap : Nat} (h : WaAt w g x lv a cap) :
    w.rangeAt g 0 (x.row (.slice a x.chs.length cap)).toList ∧ w.cell? ⟨g, 8, none⟩ = some (.int .u8 lv) := by
  refine ⟨fun r v hv => ?_, ?_⟩
  · have hr : r < 8 := (List.getElem?_eq_some_iff.1 hv).1
    rw [Nat.zero_add, cell_of_row _ _ r _ 86 (0, 0) h.1, Array.getElem?_push_lt (by exact hr), ← hv, Array.getElem?_toList]
    exact (Array.getElem?_eq_getElem (by exact hr)).symm
  · rw [cell_of_row _ _ 8 _ 86 (0, 0) h.1]; rfl
theorem cnew_ok (w : World) (id : Int) (h1 : 1 ≤ id) (h2 : id ≤ 8) : Calls Try.prog 18 #[.int .u8 id] w fun e w' => e = .returned (.tuple #[.pointer (some ⟨w.heap.size, 0, none⟩), .int .i64 0]) ∧ w' = w.alloc (.cells #[.int .u8 id, .int .u32 0, .pointer none] 83) := by
  have h3 : ¬ id < 1 := by omega
  have h4 : ¬ 8 < id := by omega
  go_enter Try.func18, Try.ntmps18
  go_wp2
  go_ret2
  exact ⟨rfl, rfl⟩
theorem cnew_arg (w : World) (id : Int) (h : id < 1 ∨ 8 < id) : Calls Try.prog 18 #[.int .u8 id] w fun e w' => e = .returned (.tuple #[.pointer none, .int .i64 1]) ∧ w = w' := by
  rcases h with h | h
  · go_enter Try.func18, Try.ntmps18
    go_wp2
    go_ret2
    exact ⟨rfl, rfl⟩
  · have h3 : ¬ id < 1 := by omega
    go_enter Try.func18, Try.ntmps18
    go_wp2
    go_ret2
    exact ⟨rfl, rfl⟩
theorem there_nil (w : World) : Calls Try.prog 29 #[.pointer none] w fun e w' => e = .returned (.bool false) ∧ w = w' := by
  go_enter Try.func29, Try.ntmps29
  go_wp2
  go_ret
  exact ⟨rfl, rfl⟩
theorem there_any (w : World) (c : Nat) (id num : Int) (p : Option Addr) (h : ClAt w c id num p) (h1 : 1 ≤ id) : Calls Try.prog 29 #[.pointer (some ⟨c, 0, none⟩)] w fun e w' => e = .returned (.bool true) ∧ w = w' := by
  obtain ⟨c0, c1, c2, cf⟩ := h.cells
  have h3 : 0 < id := by omega
  clear h cf
  go_enter Try.func29, Try.ntmps29
  go_wp2
  go_ret
  exact ⟨rfl, rfl⟩
theorem drops_nil (w : World) : Calls Try.prog 21 #[.pointer none] w fun e w' => e = .returned (.int .i64 2) ∧ w = w' := by
  go_enter Try.func21, Try.ntmps21
  go_wp2_with fail
  refine (there_nil _).mono ?_
  rintro e w' ⟨rfl, rfl⟩
  go_wp2
  go_ret
  exact ⟨rfl, rfl⟩
theorem drops_idle (w : World) (c : Nat) (id num : Int) (h : ClAt w c id num none) (h1 : 1 ≤ id) : Calls Try.prog 21 #[.pointer (some ⟨c, 0, none⟩)] w fun e w' => e = .returned (.int .i64 9) ∧ w = w' := by
  obtain ⟨c0, c1, c2, cf⟩ := h.cells
  clear cf
  go_enter Try.func21, Try.ntmps21
  go_wp2_with fail
  refine (there_any _ c id num _ h h1).mono ?_
  rintro e w' ⟨rfl, rfl⟩
  go_wp2
  go_ret
  exact ⟨rfl, rfl⟩
theorem drops_waits (w : World) (c : Nat) (id num : Int) (g : Addr) (h : ClAt w c id num (some g)) (h1 : 1 ≤ id) : Calls Try.prog 21 #[.pointer (some ⟨c, 0, none⟩)] w fun e w' => e = .returned (.int .i64 0) ∧ ClAt w' c id num none ∧ OffB (fun k => k = c) w w' := by
  obtain ⟨c0, c1, c2, cf⟩ := h.cells
  have cf2 := cf 2
  have hp := h.put2 none
  have ho : OffB (fun k => k = c) w (w.setCell ⟨c, 2, none⟩ (.pointer none)) := OffB.setCell (B := fun k => k = c) (OffB.refl w) rfl _
  clear cf
  go_enter Try.func21, Try.ntmps21
  go_wp2_with fail
  refine (there_any _ c id num _ h h1).mono ?_
  rintro e w' ⟨rfl, rfl⟩
  go_wp2
  go_ret
  exact ⟨rfl, hp, ho⟩
end Go.Proofs.Ytdkhcamckjidcaa
