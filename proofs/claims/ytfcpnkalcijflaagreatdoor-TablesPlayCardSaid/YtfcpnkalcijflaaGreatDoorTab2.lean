/- A table's methods: there, Len, Bytes, New, ahead. No condition. -/
import Derived.Test.YtfcpnkalcijflaaGreatDoorTab
import Derived.Test.YtfcpnkalcijflaaGreatDoorCmp
import Derived.Test.YtfcpnkalcijflaaGreatDoorKit6
import Derived.Deep.LoopGhost
namespace Go.Proofs.YtfcpnkalcijflaaGreatDoor
open Go.RowKit
def zEn : En := ⟨⟨⟨#[]⟩, 0, false⟩, ⟨#[]⟩⟩
def headN (hd : Nat) : Nd := ⟨hd, zEn, 8⟩
def sizeL : List Nd → Nat
  | [] => 0
  | n :: r => n.e.mark.key.size + n.e.val.size + sizeL r
/-- A table. -/
structure SkAt (w : World) (tb hd : Nat) (ns : List Nd) : Prop where
  tab : w.heap[tb]? = some (.cells #[.pointer (some ⟨hd, 0, none⟩), .int .i64 (ns.length : Int), .int .i64 (sizeL ns : Int)] 66 (0, 0))
  chain : Chain w (headN hd :: ns)
  nd : (tb :: hd :: ns.map Nd.blk).Nodup
  tall : ∀ n ∈ ns, 1 ≤ n.tall ∧ n.tall ≤ 8
  rises : Rises (ns.map Nd.e)
  fit : ∀ n ∈ ns, n.e.mark.key.size + n.e.val.size ≤ 288
theorem sizeL_le : ∀ {ns : List Nd}, (∀ n ∈ ns, n.e.mark.key.size + n.e.val.size ≤ 288) → sizeL ns ≤ 288 * ns.length
  | [], _ => by simp [sizeL]
  | n :: r, h => by
    have h1 := h n (List.mem_cons_self ..)
    have h2 := sizeL_le (ns := r) (fun x hx => h x (List.mem_cons_of_mem _ hx))
    simp only [sizeL, List.length_cons]; omega
theorem sizeL_append : ∀ (a b : List Nd), sizeL (a ++ b) = sizeL a + sizeL b
  | [], b => by simp [sizeL]
  | n :: a, b => by simp only [List.cons_append, sizeL, sizeL_append a b]; omega
/-- The blocks of a table. -/
def skB (tb hd : Nat) (ns : List Nd) (k : Nat) : Prop := k = tb ∨ k = hd ∨ ∃ n ∈ ns, n.blk = k
theorem SkAt.off {B : Nat → Prop} {w w' : World} {tb hd : Nat} {ns : List Nd} (h : SkAt w tb hd ns) (he : OffB B w w') (hb : ∀ k, skB tb hd ns k → ¬ B k) : SkAt w' tb hd ns := by
  refine ⟨?_, h.chain.off he (fun n hn => ?_), h.nd, h.tall, h.rises, h.fit⟩
  · rw [he.block tb (Array.getElem?_eq_some_iff.1 h.tab).1 (hb tb (.inl rfl))]; exact h.tab
  · rcases List.mem_cons.1 hn with rfl | hn
    · exact hb hd (.inr (.inl rfl))
    · exact hb _ (.inr (.inr ⟨n, hn, rfl⟩))
theorem SkAt.ext {w w' : World} {tb hd : Nat} {ns : List Nd} (h : SkAt w tb hd ns) (he : Ext w w') : SkAt w' tb hd ns := h.off (B := fun _ => False) (.of_ext he) (fun _ _ => id)
theorem SkAt.lt {w : World} {tb hd : Nat} {ns : List Nd} (h : SkAt w tb hd ns) {k : Nat} (hk : skB tb hd ns k) : k < w.heap.size := by
  rcases hk with rfl | rfl | ⟨n, hn, rfl⟩
  · exact (Array.getElem?_eq_some_iff.1 h.tab).1
  · exact h.chain.lt (n := headN k) (List.mem_cons_self ..)
  · exact h.chain.lt (List.mem_cons_of_mem _ hn)
theorem SkAt.cells {w : World} {tb hd : Nat} {ns : List Nd} (h : SkAt w tb hd ns) : w.cell? ⟨tb, 0, none⟩ = some (.pointer (some ⟨hd, 0, none⟩)) ∧ w.cell? ⟨tb, 1, none⟩ = some (.int .i64 (ns.length : Int)) ∧ w.cell? ⟨tb, 2, none⟩ = some (.int .i64 (sizeL ns : Int)) ∧ ∀ o, w.frozen? ⟨tb, o, none⟩ = false := by
  have ht := h.tab
  refine ⟨?_, ?_, ?_, fun o => ?_⟩
  · rw [cell_of_row _ _ 0 _ 66 (0, 0) ht]; rfl
  · rw [cell_of_row _ _ 1 _ 66 (0, 0) ht]; rfl
  · rw [cell_of_row _ _ 2 _ 66 (0, 0) ht]; rfl
  · unfold World.frozen?; rw [ht]; simp
theorem there_ok {w : World} {tb hd : Nat} {ns : List Nd} (h : SkAt w tb hd ns) : Calls Tryz.prog 19 #[.pointer (some ⟨tb, 0, none⟩)] w fun e w' => e = .returned (.bool true) ∧ w = w' := by
  obtain ⟨c0, _, _, _⟩ := h.cells
  go_enter Tryz.func19, Tryz.ntmps19
  go_wp2
  go_ret
  exact ⟨rfl, rfl⟩
theorem tlen_ok {w : World} {tb hd : Nat} {ns : List Nd} (h : SkAt w tb hd ns) : Calls Tryz.prog 14 #[.pointer (some ⟨tb, 0, none⟩)] w fun e w' => e = .returned (.int .i64 (ns.length : Int)) ∧ w = w' := by
  obtain ⟨_, c1, _, _⟩ := h.cells
  go_enter Tryz.func14, Tryz.ntmps14
  go_wp2
  go_ret
  exact ⟨rfl, rfl⟩
theorem tbytes_ok {w : World} {tb hd : Nat} {ns : List Nd} (h : SkAt w tb hd ns) : Calls Tryz.prog 16 #[.pointer (some ⟨tb, 0, none⟩)] w fun e w' => e = .returned (.int .i64 (sizeL ns : Int)) ∧ w = w' := by
  obtain ⟨_, _, c2, _⟩ := h.cells
  go_enter Tryz.func16, Tryz.ntmps16
  go_wp2
  go_ret
  exact ⟨rfl, rfl⟩
theorem tnew_any (w : World) : Calls Tryz.prog 5 #[] w fun e w' => e = .returned (.pointer (some ⟨w.heap.size + 1, 0, none⟩)) ∧ SkAt w' (w.heap.size + 1) w.heap.size [] ∧ Ext w w' := by
  go_enter Tryz.func5, Tryz.ntmps5
  go_wp2
  go_ret
  refine ⟨rfl, ?_, ((Ext.refl _).alloc _).alloc _⟩
  have h1 := heap_alloc_new w (.cells (twRow zEn (fun _ => none)) 64)
  have h2 := heap_alloc_new (w.alloc (.cells (twRow zEn (fun _ => none)) 64)) (.cells #[.pointer (some ⟨w.heap.size, 0, none⟩), .int .i64 0, .int .i64 0] 66)
  rw [show (w.alloc (.cells (twRow zEn (fun _ => none)) 64)).heap.size = w.heap.size + 1 by simp] at h2
  refine ⟨h2, ⟨?_, trivial⟩, by simp, fun n hn => by simp at hn, List.Pairwise.nil, fun n hn => by simp at hn⟩
  have h3 : TwAt ((w.alloc (.cells (twRow zEn (fun _ => none)) 64)).alloc (.cells #[.pointer (some ⟨w.heap.size, 0, none⟩), .int .i64 0, .int .i64 0] 66)) w.heap.size zEn (fun _ => none) := ((Ext.refl _).alloc _).row h1
  exact TwAt.congr h3 (fun k hk => by unfold links headN nextAt; simp)
def aheadN (ns : List Nd) (m : Mk) : List Nd := ns.takeWhile (fun n => n.e.mark.ltB m)
def restN (ns : List Nd) (m : Mk) : List Nd := ns.dropWhile (fun n => n.e.mark.ltB m)
theorem aheadN_rest (ns : List Nd) (m : Mk) : aheadN ns m ++ restN ns m = ns := List.takeWhile_append_dropWhile ..
theorem aheadN_map (ns : List Nd) (m : Mk) : (aheadN ns m).map Nd.e = aheadL (ns.map Nd.e) m := by
  unfold aheadN aheadL; rw [List.takeWhile_map]; rfl
theorem restN_map (ns : List Nd) (m : Mk) : (restN ns m).map Nd.e = restL (ns.map Nd.e) m := by
  unfold restN restL; rw [List.dropWhile_map]; rfl
/-- What stands behind what is not ahead of m is not ahead either. -/
theorem rises_ge {l r : List En} {x : En} {m : Mk} (h : Rises (l ++ x :: r)) (hx : x.mark.ltB m = false) : ∀ y ∈ r, y.mark.ltB m = false := fun y hy => by
  have h1 := (List.pairwise_cons.1 (List.pairwise_append.1 h).2.1).1 y hy
  cases h2 : y.mark.ltB m with
  | false => rfl
  | true => rw [Mk.trans h1 h2] at hx; cases hx
theorem rises_lt {l r : List En} {x : En} {m : Mk} (h : Rises (l ++ x :: r)) (hx : x.mark.ltB m = true) : ∀ y ∈ l, y.mark.ltB m = true := fun y hy =>
  Mk.trans ((List.pairwise_append.1 h).2.2 y hy x (List.mem_cons_self ..)) hx
theorem takeWhile_split {α : Type} (p : α → Bool) : ∀ {l r : List α}, (∀ x ∈ l, p x = true) → (∀ x ∈ r, p x = false) → (l ++ r).takeWhile p = l ∧ (l ++ r).dropWhile p = r
  | [], [], _, _ => ⟨rfl, rfl⟩
  | [], y :: r, _, h => by have := h y (List.mem_cons_self ..); simp [this]
  | x :: l, r, h1, h2 => by
    have hx := h1 x (List.mem_cons_self ..)
    obtain ⟨a, b⟩ := takeWhile_split p (l := l) (r := r) (fun y hy => h1 y (List.mem_cons_of_mem _ hy)) h2
    simp [hx, a, b]
/-- What the walk down knows: 'at' is x; what stands ahead of x, and x, is ahead of the mark, or is the head; the last ones from height j on are told. -/
structure Down (hd : Nat) (ns : List Nd) (m : Mk) (j : Nat) (x : Nd) (q : List Nd) (f : Nat → Option Addr) : Prop where
  pre : ∃ p, ns = p ++ q ∧ (∀ y ∈ p, y.e.mark.ltB m = true) ∧ ((p = [] ∧ x = headN hd) ∨ ∃ s, p = s ++ [x])
  tall : j ≤ x.tall
  j8 : j ≤ 8
  told : ∀ k, j ≤ k → k < 8 → f k = lastAt (headN hd :: aheadN ns m) k
theorem Down.start (hd : Nat) (ns : List Nd) (m : Mk) (f : Nat → Option Addr) : Down hd ns m 8 (headN hd) ns f :=
  ⟨⟨[], rfl, fun y hy => (by cases hy), .inl ⟨rfl, rfl⟩⟩, Nat.le_refl _, Nat.le_refl _, fun k h1 h2 => by omega⟩
theorem Down.split {hd : Nat} {ns : List Nd} {m : Mk} {j : Nat} {x : Nd} {q : List Nd} {f : Nat → Option Addr} (d : Down hd ns m j x q f) : ∃ p, headN hd :: ns = p ++ x :: q := by
  obtain ⟨p, hp, _, ⟨rfl, rfl⟩ | ⟨s, rfl⟩⟩ := d.pre
  · exact ⟨[], by rw [hp]; rfl⟩
  · exact ⟨headN hd :: s, by rw [hp]; simp⟩
theorem arr_put (f : Nat → Option Addr) (h : Nat) (hh : h < 8) (p : Option Addr) : (#[Value.pointer (f 0), .pointer (f 1), .pointer (f 2), .pointer (f 3), .pointer (f 4), .pointer (f 5), .pointer (f 6), .pointer (f 7)] : Array Value).setIfInBounds h (.pointer p) =
    #[Value.pointer (if 0 = h then p else f 0), .pointer (if 1 = h then p else f 1), .pointer (if 2 = h then p else f 2), .pointer (if 3 = h then p else f 3), .pointer (if 4 = h then p else f 4), .pointer (if 5 = h then p else f 5), .pointer (if 6 = h then p else f 6), .pointer (if 7 = h then p else f 7)] := by
  obtain rfl | rfl | rfl | rfl | rfl | rfl | rfl | rfl : h = 0 ∨ h = 1 ∨ h = 2 ∨ h = 3 ∨ h = 4 ∨ h = 5 ∨ h = 6 ∨ h = 7 := by omega
  all_goals rfl
/-- The walk moves on to n. -/
theorem Down.move {hd : Nat} {ns : List Nd} {m : Mk} {h : Nat} {x n : Nd} {q r : List Nd} {f : Nat → Option Addr} (d : Down hd ns m (h + 1) x (q ++ n :: r) f) (hs : Rises (ns.map Nd.e)) (hh : hit h n = true) (hn : n.e.mark.ltB m = true) : Down hd ns m (h + 1) n r f := by
  obtain ⟨p, hp, hlt, _⟩ := d.pre
  refine ⟨⟨p ++ q ++ [n], by rw [hp]; simp, fun y hy => ?_, .inr ⟨p ++ q, rfl⟩⟩, by unfold hit at hh; simp at hh; omega, d.j8, d.told⟩
  rcases List.mem_append.1 hy with hy | hy
  · rw [hp] at hs
    have hs2 : Rises ((p ++ q).map Nd.e ++ n.e :: r.map Nd.e) := by simpa using hs
    exact rises_lt hs2 hn _ (List.mem_map_of_mem hy)
  · simp at hy; rw [hy]; exact hn
/-- Nothing that the walk could move on to. -/
theorem Down.stop {hd : Nat} {ns : List Nd} {m : Mk} {h : Nat} {x n : Nd} {q r : List Nd} {f : Nat → Option Addr} (d : Down hd ns m (h + 1) x (q ++ n :: r) f) (hs : Rises (ns.map Nd.e)) (hq : ∀ y ∈ q, hit h y = false) (hn : n.e.mark.ltB m = false) : ∀ y ∈ q ++ n :: r, hit h y = true → y.e.mark.ltB m = false := by
  obtain ⟨p, hp, _, _⟩ := d.pre
  intro y hy hy2
  rcases List.mem_append.1 hy with hy | hy
  · rw [hq y hy] at hy2; cases hy2
  · rcases List.mem_cons.1 hy with rfl | hy
    · exact hn
    · rw [hp] at hs
      have hs2 : Rises ((p ++ q).map Nd.e ++ n.e :: r.map Nd.e) := by simpa using hs
      exact rises_ge hs2 hn _ (List.mem_map_of_mem hy)
/-- The walk goes down: at height h the last one is x. -/
theorem Down.down {hd : Nat} {ns : List Nd} {m : Mk} {h : Nat} {x : Nd} {q : List Nd} {f : Nat → Option Addr} (d : Down hd ns m (h + 1) x q f) (hq : ∀ y ∈ q, hit h y = true → y.e.mark.ltB m = false) : Down hd ns m h x q (fun k => if k = h then some x.addr else f k) := by
  have hx : hit h x = true := by have := d.tall; unfold hit; simp; omega
  refine ⟨d.pre, by have := d.tall; omega, by have := d.j8; omega, fun k h1 h2 => ?_⟩
  by_cases hk : k = h
  · subst hk
    simp only [if_true]
    obtain ⟨p, hp, hlt, hx2⟩ := d.pre
    have ha : aheadN ns m = p ++ aheadN q m := by
      unfold aheadN; rw [hp, List.takeWhile_append_of_pos hlt]
    have hno : ∀ y ∈ aheadN q m, hit k y = false := fun y hy => by
      have h3 : y.e.mark.ltB m = true := by
        have := ahead_lt (l := q.map Nd.e) (m := m) (e := y.e) (by rw [← aheadN_map]; exact List.mem_map_of_mem hy)
        exact this
      cases h4 : hit k y with
      | false => rfl
      | true =>
        have h5 : y ∈ q := by
          have : y ∈ aheadN q m ++ restN q m := List.mem_append.2 (.inl hy)
          rw [aheadN_rest] at this; exact this
        rw [hq y h5 h4] at h3; cases h3
    rw [ha]
    rcases hx2 with ⟨rfl, rfl⟩ | ⟨s, rfl⟩
    · exact (lastAt_hit (l := []) hx hno).symm
    · have := lastAt_hit (l := headN hd :: s) hx hno
      rw [← this]; simp
  · simp only [if_neg hk]
    exact d.told k (by omega) h2
/-- At the end all last ones are told. -/
def lastRow (l : List Nd) : Array Value := #[.pointer (lastAt l 0), .pointer (lastAt l 1), .pointer (lastAt l 2), .pointer (lastAt l 3), .pointer (lastAt l 4), .pointer (lastAt l 5), .pointer (lastAt l 6), .pointer (lastAt l 7)]
end Go.Proofs.YtfcpnkalcijflaaGreatDoor
