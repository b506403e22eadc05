/- A slice of slices of the call's own, each appended to; how entries are dealt out to lists. No condition. -/
import Derived.Test.YtlgnpfchblgpoaaLw1
import Derived.Test.YtlgnpfchblgpoaaPm5
import Derived.Test.YtlgnpfchblgpoaaOwnS
namespace Go.Proofs.Ytlgnpfchblgpoaa
open Go.RowKit
/-- The block b holds the slices vs, each with entries of its own. -/
structure DL (w1 w : World) (b N : Nat) (vs : List Value) (ls : List (List En)) : Prop where
  at_ : b = w1.heap.size
  ext : Ext w1 w
  row : w.heap[b]? = some (.cells vs.toArray 22 (0, 0))
  nv : vs.length = N
  nl : ls.length = N
  own : ∀ (k : Nat) (v : Value) (l : List En), vs[k]? = some v → ls[k]? = some l → OwnC w (b + 1) 31 4 v l.length (l.flatMap enL)
  sep : ∀ (j k : Nat) (u v : Value), j ≠ k → vs[j]? = some u → vs[k]? = some v → Sep u v
section
variable {w1 w w' : World} {b N : Nat} {vs : List Value} {ls : List (List En)}
theorem DL.past (h : DL w1 w b N vs ls) (he : Ext w w') : DL w1 w' b N vs ls :=
  ⟨h.at_, h.ext.trans he, he.row h.row, h.nv, h.nl, fun k v l h1 h2 => (h.own k v l h1 h2).ext he, h.sep⟩
theorem DL.start (w1 : World) (N : Nat) : DL w1 (w1.alloc (.cells (List.replicate N (.slice none 0 0)).toArray 22)) w1.heap.size N (List.replicate N (.slice none 0 0)) (List.replicate N []) := by
  refine ⟨rfl, (Ext.refl _).alloc _, heap_alloc_new w1 _, by simp, by simp, fun k v l h1 h2 => ?_, fun j k u v _ h1 h2 => ?_⟩
  · rw [List.getElem?_replicate] at h1 h2
    split at h1 <;> rename_i hk
    · rw [if_pos hk] at h2
      injection h1 with h1
      injection h2 with h2
      rw [← h1, ← h2]
      exact OwnC.nil _ _ _ _
    · cases h1
  · rw [List.getElem?_replicate] at h1
    split at h1
    · injection h1 with h1
      rw [← h1]
      exact Sep.nil _
    · cases h1
theorem DL.cell (h : DL w1 w b N vs ls) {k : Nat} {v : Value} (hv : vs[k]? = some v) : w.cell? ⟨b, k, none⟩ = some v ∧ w.frozen? ⟨b, k, none⟩ = false := by
  refine ⟨?_, ?_⟩
  · rw [cell_of_row _ _ _ _ 22 (0, 0) h.row]
    simpa using hv
  · unfold World.frozen?
    rw [h.row]
    simp
theorem DL.step (h : DL w1 w b N vs ls) {k : Nat} {v v' : Value} {l : List En} {x : En} (hv : vs[k]? = some v) (_hl : ls[k]? = some l) (hA : AppE w w' (b + 1) 31 4 v v' (l.length + 1) (l.flatMap enL ++ (enRow x).toList)) :
    w'.cell? ⟨b, k, none⟩ = some v ∧ w'.frozen? ⟨b, k, none⟩ = false ∧ DL w1 (w'.setCell ⟨b, k, none⟩ v') b N (vs.set k v') (ls.set k (l ++ [x])) := by
  have hb : b < w.heap.size := (Array.getElem?_eq_some_iff.1 h.row).1
  have hrow : w'.heap[b]? = some (.cells vs.toArray 22 (0, 0)) := (hA.below.block b (by omega)).trans h.row
  have hk : k < vs.length := (List.getElem?_eq_some_iff.1 hv).1
  refine ⟨?_, ?_, ?_⟩
  · rw [cell_of_row _ _ _ _ 22 (0, 0) hrow]
    simpa using hv
  · unfold World.frozen?
    rw [hrow]
    simp
  · have hO : OffB (fun j => j = b) w' (w'.setCell ⟨b, k, none⟩ v') := (OffB.refl (B := fun j => j = b) w').setCell (p := ⟨b, k, none⟩) rfl v'
    have hoff : ∀ (u : Value) (n : Nat) (xs : List Value), OwnC w' (b + 1) 31 4 u n xs → OwnC (w'.setCell ⟨b, k, none⟩ v') (b + 1) 31 4 u n xs := fun u n xs hu => hu.off hO (fun q hq hB => by have := (hu.lt q hq).1; omega)
    refine ⟨h.at_, ?_, ?_, by rw [List.length_set]; exact h.nv, by rw [List.length_set]; exact h.nl, ?_, ?_⟩
    · exact Below.trans h.ext (Below.trans (hA.below.mono (by rw [h.at_]; omega)) (hO.below (by rintro j rfl; rw [h.at_]; exact Nat.le_refl _) (Nat.le_trans h.ext.size (Below.size hA.below))))
    · rw [setCell_eq_setRow _ _ _ _ _ _ _ hrow, setRow_heap _ _ _ _ _ _ hrow, List.setIfInBounds_toArray]
    · intro j u m hu hm
      by_cases hjk : k = j
      · subst hjk
        rw [List.getElem?_set_self hk] at hu
        rw [List.getElem?_set_self (by rw [h.nl, ← h.nv]; exact hk)] at hm
        injection hu with hu
        injection hm with hm
        subst hu hm
        have := hA.own
        rw [List.length_append, List.flatMap_append]
        exact hoff _ _ _ this
      · rw [List.getElem?_set_ne hjk] at hu hm
        exact hoff _ _ _ (hA.keep _ _ _ _ _ _ (h.own j u m hu hm) (h.sep k j v u hjk hv hu)).1
    · intro i j u u' hij hu hu'
      have hlk : ∀ (j : Nat) (q : Value), vs[j]? = some q → ∃ m, ls[j]? = some m := fun j q hq => ⟨_, List.getElem?_eq_getElem (by rw [h.nl, ← h.nv]; exact (List.getElem?_eq_some_iff.1 hq).1)⟩
      by_cases hik : k = i
      · subst hik
        rw [List.getElem?_set_self hk] at hu
        rw [List.getElem?_set_ne hij] at hu'
        injection hu with hu
        subst hu
        obtain ⟨m, hm⟩ := hlk j u' hu'
        exact (hA.keep _ _ _ _ _ _ (h.own j u' m hu' hm) (h.sep k j v u' hij hv hu')).2
      · rw [List.getElem?_set_ne hik] at hu
        by_cases hjk : k = j
        · subst hjk
          rw [List.getElem?_set_self hk] at hu'
          injection hu' with hu'
          subst hu'
          obtain ⟨m, hm⟩ := hlk i u hu
          exact (hA.keep _ _ _ _ _ _ (h.own i u m hu hm) (h.sep k i v u hik hv hu)).2.symm
        · rw [List.getElem?_set_ne hjk] at hu'
          exact h.sep i j u u' hij hu hu'
theorem DL.lists (h : DL w1 w b N vs ls) : ∀ p ∈ vs.zip ls, SlIs w p.1 p.2 := by
  intro p hp
  obtain ⟨k, hk⟩ := List.mem_iff_getElem?.1 hp
  rw [List.getElem?_zip_eq_some] at hk
  have := h.own k p.1 p.2 hk.1 hk.2
  obtain ⟨a, cap, e, _⟩ := this.form
  exact ⟨a, cap, e, this.row⟩
/-- What a round reads, in every world that leaves all that is below the block b. -/
theorem DL.read (h : DL w1 w b N vs ls) {w0 : World} (h0 : Ext w0 w1) {a : Option Addr} {n cap : Nat} {l : List En} (hS : SlIs w0 (.slice a n cap) l) (hn : n = l.length) {j : Nat} {x : En} (hx : l[j]? = some x) :
    ∃ lb lo, a = some ⟨lb, lo, none⟩ ∧ n ≤ cap ∧ ∀ w', Below b w w' → w'.cell? ⟨lb, lo + j * 4, none⟩ = some (.string x.mark.key) ∧ w'.cell? ⟨lb, lo + j * 4 + 1, none⟩ = some (.int .u64 (x.mark.seq : Int)) ∧ w'.cell? ⟨lb, lo + j * 4 + 2, none⟩ = some (.bool x.mark.gone) ∧ w'.cell? ⟨lb, lo + j * 4 + 3, none⟩ = some (.string x.val) := by
  have hj : j < n := by rw [hn]; exact (List.getElem?_eq_some_iff.1 hx).1
  obtain ⟨a1, c1, e1, hrr⟩ := hS
  rw [← hn] at hrr
  obtain ⟨lb, lo, hat⟩ := hrr.at
  obtain ⟨rfl, hcap, hd⟩ := hat (by omega)
  have hrg := ens_range (by rw [← hn]; exact hd) hx
  have hw : ∀ (i : Nat) (u : Value), (enRow x).toList[i]? = some u → ∀ w', Below b w w' → w'.cell? ⟨lb, lo + j * 4 + i, none⟩ = some u := fun i u hu w' hB => by
    have h1 := hrg i u hu
    have hlt : lb < w0.heap.size := World.block_lt_of_cell? w0 _ h1
    have h2 : w.cell? ⟨lb, lo + j * 4 + i, none⟩ = some u := (h0.trans h.ext).cell h1
    have h3 : lb < b := by have := h0.size; have := h.at_; omega
    exact (Below.cell hB (p := ⟨lb, lo + j * 4 + i, none⟩) h3).trans h2
  refine ⟨lb, lo, rfl, hcap, fun w' hB => ⟨?_, hw 1 _ rfl w' hB, hw 2 _ rfl w' hB, hw 3 _ rfl w' hB⟩⟩
  have := hw 0 (.string x.mark.key) rfl w' hB
  simpa using this
theorem DL.read8 (h : DL w1 w b N vs ls) {w0 : World} (h0 : Ext w0 w1) {a : Option Addr} {n cap : Nat} {l : List Nat} (hS : RowIs w0 1 (.slice a n cap) n (l.flatMap fun (c : Nat) => [Value.int .u8 (c : Int)])) (hn : n = l.length) {j c : Nat} (hx : l[j]? = some c) :
    ∃ lb lo, a = some ⟨lb, lo, none⟩ ∧ ∀ w', Below b w w' → w'.cell? ⟨lb, lo + j, none⟩ = some (.int .u8 (c : Int)) := by
  have hj : j < n := by rw [hn]; exact (List.getElem?_eq_some_iff.1 hx).1
  obtain ⟨lb, lo, hat⟩ := hS.at
  obtain ⟨rfl, hcap, hd⟩ := hat (by omega)
  refine ⟨lb, lo, rfl, fun w' hB => ?_⟩
  have h1 : w0.cell? ⟨lb, lo + j, none⟩ = some (.int .u8 (c : Int)) := by rw [hd j (by omega)]; exact u8row_at l j c hx
  have hlt : lb < w0.heap.size := World.block_lt_of_cell? w0 _ h1
  have h3 : lb < b := by have := h0.size; have := h.at_; omega
  exact (Below.cell hB (p := ⟨lb, lo + j, none⟩) h3).trans ((h0.trans h.ext).cell h1)
/-- All of one round's append. -/
theorem DL.app (h : DL w1 w b N vs ls) {k M : Nat} {v : Value} {m : List En} {x : En} (hv : vs[k]? = some v) (hm : ls[k]? = some m) (hM : M = m.length) (v' : Value) (w6 : World) (hA : AppE w.drew w6 (b + 1) 31 4 v v' (M + 1) (m.flatMap enL ++ (enRow x).toList)) :
    Below b w w6 ∧ Below b w (w6.setCell ⟨b, k, none⟩ v') ∧ w6.cell? ⟨b, k, none⟩ = some v ∧ w6.frozen? ⟨b, k, none⟩ = false ∧ Hid (DL w1 (w6.setCell ⟨b, k, none⟩ v') b N (vs.set k v') (ls.set k (m ++ [x]))) := by
  have hb : b < w.heap.size := (Array.getElem?_eq_some_iff.1 h.row).1
  rw [hM] at hA
  obtain ⟨h1, h2, h3⟩ := (h.past (Ext.refl w).drew).step hv hm hA
  have hB : Below b w w6 := Below.trans ((Ext.refl w).drew.mono (by omega)) (hA.below.mono (by omega))
  have hO : OffB (fun j => j = b) w6 (w6.setCell ⟨b, k, none⟩ v') := (OffB.refl (B := fun j => j = b) w6).setCell (p := ⟨b, k, none⟩) rfl v'
  exact ⟨hB, Below.trans hB (hO.below (by rintro j rfl; exact Nat.le_refl _) (Nat.le_trans (Nat.le_of_lt hb) (Below.size hB))), h1, h2, Lib.hid h3⟩
theorem DL.slice (h : DL w1 w b N vs ls) (hN : N ≤ 1000) : RowIs w 1 (.slice (some ⟨b, 0, none⟩) N N) N vs :=
  ⟨by rw [h.nv, Nat.mul_one], by omega, .inr ⟨b, 0, N, rfl, Nat.le_refl _, fun i _ => by rw [Nat.zero_add, cell_of_row _ _ i _ 22 (0, 0) h.row]; simp⟩⟩
end
/-- What is dealt out: each list keeps the order, all together are what was dealt. -/
structure Dealt (l : List En) (ls : List (List En)) : Prop where
  sub : ∀ m ∈ ls, m.Sublist l
  perm : ls.flatten.Perm l
theorem Dealt.start (N : Nat) : Dealt [] (List.replicate N []) := by
  refine ⟨fun m hm => ?_, ?_⟩
  · rw [(List.mem_replicate.1 hm).2]; exact List.Sublist.refl _
  · rw [show (List.replicate N ([] : List En)).flatten = [] by simp]
theorem flat_set : ∀ (ls : List (List En)) (k : Nat) (m : List En) (x : En), ls[k]? = some m → (ls.set k (m ++ [x])).flatten.Perm (ls.flatten ++ [x])
  | [], _, _, _, h => by simp at h
  | a :: ls, 0, m, x, h => by
    injection h with h
    subst h
    rw [List.set_cons_zero, List.flatten_cons, List.flatten_cons, List.append_assoc, List.append_assoc]
    exact List.Perm.append_left _ List.perm_append_comm
  | a :: ls, k + 1, m, x, h => by
    rw [List.set_cons_succ, List.flatten_cons, List.flatten_cons, List.append_assoc]
    exact List.Perm.append_left _ (flat_set ls k m x (by simpa using h))
theorem Dealt.step {l : List En} {ls : List (List En)} (h : Dealt l ls) {k : Nat} {m : List En} (x : En) (hm : ls[k]? = some m) : Dealt (l ++ [x]) (ls.set k (m ++ [x])) := by
  refine ⟨fun q hq => ?_, (flat_set ls k m x hm).trans (List.Perm.append_right _ h.perm)⟩
  rcases List.mem_or_eq_of_mem_set hq with hq | rfl
  · exact (h.sub q hq).trans (List.sublist_append_left _ _)
  · exact List.Sublist.append (h.sub m (List.mem_of_getElem? hm)) (List.Sublist.refl _)
/-- An append to a slice that is full: what it held stays as it was. -/
theorem run_append_full {P : Program} (w : World) {t ty e : TypeId} (ht : P.underlying t = some (.slice e)) {size bytes : Nat} (hel : ElemIs P e size bytes) (ad : Addr) (n : Nat) (xs : List Value) (hxs : xs.length = n * size) (hc : ∀ j u, xs[j]? = some u → w.cell? (ad.add j) = some u) (cs : Array Value) (hcs : cs.size = size)
    (hn : n < 9223372036854775807) (hb : (n + 1) * bytes ≤ 140737488355328) :
    ∃ cap w', (Builtin.append_ #[t, t] ty #[.slice (some ad) n n, .slice (some ⟨w.heap.size, 0, none⟩) 1 1]).run P (w.alloc (.cells cs e)) = .ok (.slice (some ⟨w.heap.size + 1, 0, none⟩) (n + 1) cap) w' ∧ Ext w w' ∧ RowIs w' size (.slice (some ⟨w.heap.size + 1, 0, none⟩) (n + 1) cap) (n + 1) (xs ++ cs.toList) := by
  obtain ⟨i, z, hi, hz, hsize, hby, hzs, hpos⟩ := hel
  subst hsize
  subst hby
  have hl : cs.toList.length = 1 * i.size := by simp [hcs]
  obtain ⟨W, hW⟩ : ∃ W, W = w.alloc (.cells cs e) := ⟨_, rfl⟩
  have hws : W.heap.size = w.heap.size + 1 := by rw [hW]; simp
  have hE : Ext w W := by rw [hW]; exact (Ext.refl _).alloc _
  have hnews : ∀ j u, cs.toList[j]? = some u → W.cell? ((⟨w.heap.size, 0, none⟩ : Addr).add j) = some u := by
    intro j u hu
    rw [Addr.add_mid, Nat.zero_add, hW, cell_of_row _ _ j cs e (0, 0) (heap_alloc_new w _)]
    simpa using hu
  rw [← hW]
  have hr := run_append_grow (P := P) W t ty e i z ht hi hz ad n n xs hxs (fun j u hj => hE.cell (hc j u hj)) ⟨w.heap.size, 0, none⟩ 1 1 cs.toList hl hnews (by omega) (by omega) (growslice_fits (by omega) hb)
  have hge := grownCap_ge W (n + 1) n e
  rw [hws] at hr
  refine ⟨_, _, hr, hE.trans ((Ext.refl W).drew.alloc _), ⟨by rw [List.length_append, hxs, hl, ← Nat.add_mul], by omega, .inr ⟨w.heap.size + 1, 0, _, rfl, hge, fun j hj => ?_⟩⟩⟩
  have hnew := heap_alloc_new W.drew (.cells (xs.toArray ++ cs.toList.toArray ++ Builtin.zeroCells z.cells (grownCap W (n + 1) n e - (n + 1))) e)
  rw [show W.drew.heap.size = w.heap.size + 1 from hws] at hnew
  rw [Nat.zero_add, cell_of_row _ _ j _ e (0, 0) hnew]
  have hj2 : j < (xs ++ cs.toList).length := by rw [List.length_append, hxs, hl, ← Nat.add_mul]; exact hj
  rw [Array.getElem?_append_left (by simp only [Array.size_append, List.size_toArray]; rw [List.length_append] at hj2; exact hj2)]
  simp only [← Array.getElem?_toList, Array.toList_append]
theorem wpList_append_full {P : Program} {ops : Array Oper} {rest : List Oper} {o : Oper} {a : Act} {Q : Exit → Act → World → Prop} (hgd : o.guard = none) (s x : Operand) (t e : TypeId)
    (ho : o.op = .call { callee := .builtin .append, args := #[s, x], argTypes := #[t, t] }) (ht : P.underlying t = some (.slice e)) {size bytes : Nat} (hel : ElemIs P e size bytes)
    (w : World) (ad : Addr) (n : Nat) (xs : List Value) (hxs : xs.length = n * size) (hc : ∀ j u, xs[j]? = some u → w.cell? (ad.add j) = some u) (cs : Array Value) (hcs : cs.size = size) (hn : n < 9223372036854775807) (hb : (n + 1) * bytes ≤ 140737488355328)
    (hs : a.eval s = .slice (some ad) n n) (hx : a.eval x = .slice (some ⟨w.heap.size, 0, none⟩) 1 1)
    (h : ∀ cap w', Ext w w' → RowIs w' size (.slice (some ⟨w.heap.size + 1, 0, none⟩) (n + 1) cap) (n + 1) (xs ++ cs.toList) → wpList P ops Q rest (a.put o.dst (.slice (some ⟨w.heap.size + 1, 0, none⟩) (n + 1) cap)) w') : wpList P ops Q (o :: rest) a (w.alloc (.cells cs e)) :=
  wpList_plain hgd fun _ hK => by
    obtain ⟨cap, w', hr, hE, hR⟩ := run_append_full (P := P) w (ty := o.type) ht hel ad n xs hxs hc cs hcs hn hb
    unfold Oper.wp execOp
    simp only [ho, resolve, invoke, builtin, Sem.run_bind, Sem.run_pure, Result.andThen_ok, List.map_toArray, List.map_cons, List.map_nil, hs, hx, hr]
    exact hK _ _ (h cap w' hE hR)
theorem el_sl1 : ElemIs Try.prog 22 1 24 := by
  refine ElemIs.mk (z := .slice none 0 0) (by kernel_rfl) (by rfl) (by decide)
end Go.Proofs.Ytlgnpfchblgpoaa
