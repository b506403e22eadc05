/- A table in memory: towers, each with the next ones at its heights. No condition. -/
import Derived.Test.YtfcpnkalcijflaaGreatDoorMark
import Derived.Test.YtfcpnkalcijflaaGreatDoorOff
import Derived.Test.YtfcpnkalcijflaaGreatDoorKit2
namespace Go.Proofs.YtfcpnkalcijflaaGreatDoor
open Go.RowKit
/-- A tower: its block, its entry, its height. -/
structure Nd where
  blk : Nat
  e : En
  tall : Nat
def hit (h : Nat) (n : Nd) : Bool := decide (h < n.tall)
def Nd.addr (n : Nd) : Addr := ⟨n.blk, 0, none⟩
def nextAt (r : List Nd) (h : Nat) : Option Addr := (r.find? (hit h)).map Nd.addr
def lastAt (l : List Nd) (h : Nat) : Option Addr := (l.reverse.find? (hit h)).map Nd.addr
theorem nextAt_skip {q r : List Nd} {h : Nat} (hq : ∀ x ∈ q, hit h x = false) : nextAt (q ++ r) h = nextAt r h := by
  unfold nextAt
  rw [List.find?_append, List.find?_eq_none.2 (fun x hx => by simp [hq x hx])]
  simp
theorem nextAt_hit {n : Nd} {r : List Nd} {h : Nat} (hn : hit h n = true) : nextAt (n :: r) h = some n.addr := by
  unfold nextAt; rw [List.find?_cons, hn]; rfl
theorem nextAt_miss {n : Nd} {r : List Nd} {h : Nat} (hn : hit h n = false) : nextAt (n :: r) h = nextAt r h := by
  unfold nextAt; rw [List.find?_cons, hn]
theorem nextAt_cases (r : List Nd) (h : Nat) : (nextAt r h = none ∧ ∀ x ∈ r, hit h x = false) ∨ ∃ q n r', r = q ++ n :: r' ∧ (∀ x ∈ q, hit h x = false) ∧ hit h n = true ∧ nextAt r h = some n.addr := by
  unfold nextAt
  cases hf : r.find? (hit h) with
  | none => exact .inl ⟨rfl, fun x hx => by have := List.find?_eq_none.1 hf x hx; simpa using this⟩
  | some n =>
    obtain ⟨h1, q, r', h2, h3⟩ := List.find?_eq_some_iff_append.1 hf
    exact .inr ⟨q, n, r', h2, fun x hx => by have := h3 x hx; simpa using this, h1, rfl⟩
theorem lastAt_hit {l : List Nd} {n : Nd} {q : List Nd} {h : Nat} (hn : hit h n = true) (hq : ∀ x ∈ q, hit h x = false) : lastAt (l ++ n :: q) h = some n.addr := by
  unfold lastAt
  rw [List.reverse_append, List.reverse_cons, List.append_assoc, List.find?_append, List.find?_eq_none.2 (fun x hx => by simp [hq x (List.mem_reverse.1 hx)])]
  simp [hn]
/-- A tower's cells. -/
def twRow (e : En) (f : Nat → Option Addr) : Array Value := #[.string e.mark.key, .int .u64 (e.mark.seq : Int), .bool e.mark.gone, .string e.val, .pointer (f 0), .pointer (f 1), .pointer (f 2), .pointer (f 3), .pointer (f 4), .pointer (f 5), .pointer (f 6), .pointer (f 7)]
def TwAt (w : World) (b : Nat) (e : En) (f : Nat → Option Addr) : Prop := w.heap[b]? = some (.cells (twRow e f) 64 (0, 0))
def links (n : Nd) (r : List Nd) (h : Nat) : Option Addr := if h < n.tall then nextAt r h else none
def Chain (w : World) : List Nd → Prop
  | [] => True
  | n :: r => TwAt w n.blk n.e (links n r) ∧ Chain w r
theorem Chain.at {w : World} : ∀ {p : List Nd} {n : Nd} {r : List Nd}, Chain w (p ++ n :: r) → TwAt w n.blk n.e (links n r)
  | [], _, _, h => h.1
  | _ :: p, _, _, h => Chain.at (p := p) h.2
theorem Chain.right {w : World} : ∀ {p r : List Nd}, Chain w (p ++ r) → Chain w r
  | [], _, h => h
  | _ :: p, _, h => Chain.right (p := p) h.2
theorem Chain.off {B : Nat → Prop} {w w' : World} (he : OffB B w w') : ∀ {l : List Nd}, Chain w l → (∀ n ∈ l, ¬ B n.blk) → Chain w' l
  | [], _, _ => trivial
  | n :: l, h, hb => ⟨by
      have h1 := h.1
      unfold TwAt at h1 ⊢
      rw [he.block n.blk (Array.getElem?_eq_some_iff.1 h1).1 (hb n (List.mem_cons_self ..))]; exact h1, Chain.off he h.2 (fun x hx => hb x (List.mem_cons_of_mem _ hx))⟩
theorem Chain.lt {w : World} {l : List Nd} (h : Chain w l) {n : Nd} (hn : n ∈ l) : n.blk < w.heap.size := by
  obtain ⟨p, r, rfl⟩ := List.append_of_mem hn
  exact (Array.getElem?_eq_some_iff.1 h.at).1
theorem TwAt.cells {w : World} {b : Nat} {e : En} {f : Nat → Option Addr} (h : TwAt w b e f) :
    w.cell? ⟨b, 0, none⟩ = some (.string e.mark.key) ∧ w.cell? ⟨b, 1, none⟩ = some (.int .u64 (e.mark.seq : Int)) ∧ w.cell? ⟨b, 2, none⟩ = some (.bool e.mark.gone) ∧ w.cell? ⟨b, 3, none⟩ = some (.string e.val) ∧ (∀ k, k < 8 → w.cell? ⟨b, 4 + k, none⟩ = some (.pointer (f k))) ∧ ∀ o, w.frozen? ⟨b, o, none⟩ = false := by
  refine ⟨?_, ?_, ?_, ?_, fun k hk => ?_, fun o => ?_⟩
  · rw [cell_of_row _ _ _ _ 64 (0, 0) h]; rfl
  · rw [cell_of_row _ _ _ _ 64 (0, 0) h]; rfl
  · rw [cell_of_row _ _ _ _ 64 (0, 0) h]; rfl
  · rw [cell_of_row _ _ _ _ 64 (0, 0) h]; rfl
  · rw [cell_of_row _ _ _ _ 64 (0, 0) h]
    obtain rfl | rfl | rfl | rfl | rfl | rfl | rfl | rfl : k = 0 ∨ k = 1 ∨ k = 2 ∨ k = 3 ∨ k = 4 ∨ k = 5 ∨ k = 6 ∨ k = 7 := by omega
    all_goals rfl
  · unfold World.frozen?; rw [h]; simp
/-- A store of a next one. -/
theorem TwAt.put {w : World} {b : Nat} {e : En} {f : Nat → Option Addr} (h : TwAt w b e f) (k : Nat) (hk : k < 8) (p : Option Addr) : TwAt (w.setCell ⟨b, 4 + k, none⟩ (.pointer p)) b e (fun i => if i = k then p else f i) := by
  unfold TwAt at h ⊢
  rw [setCell_eq_setRow _ _ _ _ _ _ _ h, setRow_heap _ _ _ _ _ _ h]
  obtain rfl | rfl | rfl | rfl | rfl | rfl | rfl | rfl : k = 0 ∨ k = 1 ∨ k = 2 ∨ k = 3 ∨ k = 4 ∨ k = 5 ∨ k = 6 ∨ k = 7 := by omega
  all_goals rfl
theorem TwAt.congr {w : World} {b : Nat} {e : En} {f g : Nat → Option Addr} (h : TwAt w b e f) (hfg : ∀ k, k < 8 → f k = g k) : TwAt w b e g := by
  unfold TwAt at h ⊢
  have hr : twRow e f = twRow e g := by
    unfold twRow
    rw [hfg 0 (by omega), hfg 1 (by omega), hfg 2 (by omega), hfg 3 (by omega), hfg 4 (by omega), hfg 5 (by omega), hfg 6 (by omega), hfg 7 (by omega)]
  rw [← hr]; exact h
theorem Chain.front {w w' : World} : ∀ {p r r' : List Nd}, Chain w (p ++ r) → Chain w' r' → (∀ x ∈ p, w'.heap[x.blk]? = w.heap[x.blk]?) → (∀ x ∈ p, ∀ s : List Nd, ∀ h, h < 8 → links x (s ++ r) h = links x (s ++ r') h) → Chain w' (p ++ r')
  | [], _, _, _, hr, _, _ => hr
  | x :: p, r, r', hc, hr, hb, hl => by
    refine ⟨?_, Chain.front (p := p) hc.2 hr (fun y hy => hb y (List.mem_cons_of_mem _ hy)) (fun y hy => hl y (List.mem_cons_of_mem _ hy))⟩
    have h1 : TwAt w x.blk x.e (links x (p ++ r)) := hc.1
    have h2 : TwAt w' x.blk x.e (links x (p ++ r)) := by
      unfold TwAt at h1 ⊢
      rw [hb x (List.mem_cons_self ..)]; exact h1
    exact h2.congr (hl x (List.mem_cons_self ..) p)
theorem nextAt_repl {n n' : Nd} {h : Nat} (hh : hit h n = hit h n') (ha : n.addr = n'.addr) (q r : List Nd) : nextAt (q ++ n :: r) h = nextAt (q ++ n' :: r) h := by
  unfold nextAt
  rw [List.find?_append, List.find?_append, List.find?_cons, List.find?_cons, ← hh]
  cases hq : q.find? (hit h) with
  | some y => simp
  | none => cases hit h n <;> simp [ha]
theorem nextAt_cut {l : Nd} {h : Nat} (hl : hit h l = true) (q r r' : List Nd) : nextAt (q ++ l :: r) h = nextAt (q ++ l :: r') h := by
  unfold nextAt
  rw [List.find?_append, List.find?_append, List.find?_cons, List.find?_cons, hl]
/-- A tower of height k becomes one of height k + 1: what is laid there, and what leads to it. -/
theorem Chain.raise {w : World} {p q r : List Nd} {l n : Nd} {k : Nat} (hc : Chain w (p ++ l :: (q ++ n :: r))) (hk : n.tall = k) (hk8 : k < 8) (hl : hit k l = true) (hq : ∀ x ∈ q, hit k x = false)
    (hnd : ((p ++ l :: (q ++ n :: r)).map Nd.blk).Nodup) :
    Chain ((w.setCell ⟨n.blk, 4 + k, none⟩ (.pointer (nextAt r k))).setCell ⟨l.blk, 4 + k, none⟩ (.pointer (some n.addr))) (p ++ l :: (q ++ { n with tall := k + 1 } :: r)) := by
  rw [List.map_append, List.map_cons, List.map_append, List.map_cons, List.nodup_append] at hnd
  obtain ⟨_, hnd2, hpl⟩ := hnd
  rw [List.nodup_cons, List.nodup_append] at hnd2
  obtain ⟨hlq, _, hnd3, hqn⟩ := hnd2
  rw [List.nodup_cons] at hnd3
  have hln : l.blk ≠ n.blk := fun h => hlq (by rw [h]; simp)
  have hsame : ∀ b, b ≠ n.blk → b ≠ l.blk → ((w.setCell ⟨n.blk, 4 + k, none⟩ (.pointer (nextAt r k))).setCell ⟨l.blk, 4 + k, none⟩ (.pointer (some n.addr))).heap[b]? = w.heap[b]? := fun b h1 h2 => by
    rw [Below.heap_setCell _ ⟨l.blk, 4 + k, none⟩ _ b (by simpa using h2), Below.heap_setCell _ ⟨n.blk, 4 + k, none⟩ _ b (by simpa using h1)]
  have hcn : Chain w ((p ++ l :: q) ++ n :: r) := by simpa using hc
  have hN : TwAt w n.blk n.e (links n r) := hcn.at
  have hL : TwAt w l.blk l.e (links l (q ++ n :: r)) := hc.at
  have hcr : Chain w ((p ++ l :: q ++ [n]) ++ r) := by simpa using hc
  have hR : Chain w r := hcr.right
  -- behind n
  have hR' : Chain ((w.setCell ⟨n.blk, 4 + k, none⟩ (.pointer (nextAt r k))).setCell ⟨l.blk, 4 + k, none⟩ (.pointer (some n.addr))) r := by
    have := Chain.front (w := w) (w' := (w.setCell ⟨n.blk, 4 + k, none⟩ (.pointer (nextAt r k))).setCell ⟨l.blk, 4 + k, none⟩ (.pointer (some n.addr))) (p := r) (r := []) (r' := []) (by simpa using hR) trivial (fun x hx => hsame _ (fun h => hnd3.1 (by rw [← h]; exact List.mem_map_of_mem hx)) (fun h => hlq (by rw [← h]; simp; exact .inr (.inr ⟨x, hx, rfl⟩)))) (fun _ _ _ _ _ => rfl)
    simpa using this
  -- n itself
  have hN' : TwAt ((w.setCell ⟨n.blk, 4 + k, none⟩ (.pointer (nextAt r k))).setCell ⟨l.blk, 4 + k, none⟩ (.pointer (some n.addr))) n.blk n.e (links { n with tall := k + 1 } r) := by
    have h1 := hN.put k hk8 (nextAt r k)
    have h2 : TwAt ((w.setCell ⟨n.blk, 4 + k, none⟩ (.pointer (nextAt r k))).setCell ⟨l.blk, 4 + k, none⟩ (.pointer (some n.addr))) n.blk n.e (fun i => if i = k then nextAt r k else links n r i) := by
      unfold TwAt at h1 ⊢
      rw [Below.heap_setCell _ ⟨l.blk, 4 + k, none⟩ _ n.blk (by simpa using hln.symm)]; exact h1
    refine h2.congr (fun i _ => ?_)
    unfold links
    by_cases hi : i = k
    · subst hi; simp
    · simp only [hi, if_false, hk]
      by_cases h3 : i < k
      · rw [if_pos h3, if_pos (by omega)]
      · rw [if_neg h3, if_neg (by omega)]
  have hhit : ∀ h, h ≠ k → hit h n = hit h { n with tall := k + 1 } := fun h hh => by
    unfold hit; rw [hk]; simp; omega
  -- between l and n
  have hQ : Chain ((w.setCell ⟨n.blk, 4 + k, none⟩ (.pointer (nextAt r k))).setCell ⟨l.blk, 4 + k, none⟩ (.pointer (some n.addr))) (q ++ { n with tall := k + 1 } :: r) := by
    refine Chain.front (w := w) (r := n :: r) (have h0 : Chain w ((p ++ [l]) ++ (q ++ n :: r)) := (by simpa using hc); h0.right) ⟨hN', hR'⟩ (fun x hx => hsame _ (hqn _ (List.mem_map_of_mem hx) _ (List.mem_cons_self ..)) (fun h => hlq (by rw [← h]; simp; exact .inl ⟨x, hx, rfl⟩))) (fun x hx s h _ => ?_)
    unfold links
    by_cases h3 : h < x.tall
    · rw [if_pos h3, if_pos h3]
      have h4 := hq x hx
      unfold hit at h4
      simp at h4
      exact nextAt_repl (hhit h (by omega)) rfl s r
    · rw [if_neg h3, if_neg h3]
  -- l
  have hL' : TwAt ((w.setCell ⟨n.blk, 4 + k, none⟩ (.pointer (nextAt r k))).setCell ⟨l.blk, 4 + k, none⟩ (.pointer (some n.addr))) l.blk l.e (links l (q ++ { n with tall := k + 1 } :: r)) := by
    have h0 : TwAt (w.setCell ⟨n.blk, 4 + k, none⟩ (.pointer (nextAt r k))) l.blk l.e (links l (q ++ n :: r)) := by
      unfold TwAt at hL ⊢
      rw [Below.heap_setCell _ ⟨n.blk, 4 + k, none⟩ _ l.blk (by simpa using hln)]; exact hL
    refine (h0.put k hk8 (some n.addr)).congr (fun i _ => ?_)
    have hlk : k < l.tall := by unfold hit at hl; simpa using hl
    unfold links
    by_cases hi : i = k
    · subst hi
      rw [if_pos rfl, if_pos hlk, nextAt_skip hq, nextAt_hit (by unfold hit; simp)]; rfl
    · rw [if_neg hi]
      by_cases h3 : i < l.tall
      · rw [if_pos h3, if_pos h3]; exact nextAt_repl (hhit i hi) rfl q r
      · rw [if_neg h3, if_neg h3]
  -- ahead of l
  refine Chain.front (w := w) (r := l :: (q ++ n :: r)) hc ⟨hL', hQ⟩ (fun x hx => hsame _ (hpl _ (List.mem_map_of_mem hx) _ (by simp)) (hpl _ (List.mem_map_of_mem hx) _ (by simp))) (fun x hx s h _ => ?_)
  unfold links
  by_cases h3 : h < x.tall
  · rw [if_pos h3, if_pos h3]
    by_cases hh : h = k
    · subst hh; exact nextAt_cut hl s _ _
    · have e1 : s ++ l :: (q ++ n :: r) = (s ++ l :: q) ++ n :: r := by simp
      have e2 : s ++ l :: (q ++ { n with tall := k + 1 } :: r) = (s ++ l :: q) ++ { n with tall := k + 1 } :: r := by simp
      rw [e1, e2]; exact nextAt_repl (hhit h hh) rfl _ r
  · rw [if_neg h3, if_neg h3]
end Go.Proofs.YtfcpnkalcijflaaGreatDoor
