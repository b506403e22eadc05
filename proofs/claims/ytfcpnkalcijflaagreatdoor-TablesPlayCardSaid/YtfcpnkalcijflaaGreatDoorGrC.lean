/- Several texts in one: BkL BkG BkKNum BkKRow BkKEntry. No condition. -/
import Derived.Test.YtfcpnkalcijflaaGreatDoorGrB
import Derived.Test.YtfcpnkalcijflaaGreatDoorRead2
import Derived.Deep.RegionLaw
import Derived.Deep.CutRange
/- A book's lists, gone through one by one. No condition. -/
namespace Go.Proofs.YtfcpnkalcijflaaGreatDoor
open Go.RowKit
theorem hdr_cells {w : World} {base : Nat} {ht : TypeId} {hv : Value} {hs : List Hd} (h : OwnC w base ht 3 hv hs.length (hs.flatMap Hd.cs)) {k : Nat} {x : Hd} (hx : hs[k]? = some x) :
    ∃ hb cap, hv = .slice (some ⟨hb, 0, none⟩) hs.length cap ∧ hs.length ≤ cap ∧ w.cell? ⟨hb, k * 3, none⟩ = some x.sl ∧ w.cell? ⟨hb, k * 3 + 1, none⟩ = some x.long ∧ w.cell? ⟨hb, k * 3 + 2, none⟩ = some (.int .i64 (x.num : Int)) ∧ (∀ j, j < 3 → w.frozen? ⟨hb, k * 3 + j, none⟩ = false) := by
  have hk : k < hs.length := (List.getElem?_eq_some_iff.1 hx).1
  obtain ⟨hl, ⟨_, h0⟩ | ⟨g, cap, cur, rfl, h2, h3, h4, h5, h6, h7⟩⟩ := h
  · omega
  · have hc : ∀ (j : Nat) (v : Value), j < 3 → x.cs[j]? = some v → w.cell? ⟨g, k * 3 + j, none⟩ = some v := fun j v hj hv => by
      rw [cell_of_row _ _ _ cur ht (0, 0) h3]
      have e1 := flatMap_at Hd.cs 3 (by decide) (fun _ => rfl) hs k x hx j hj (k * 3 + j) (by omega)
      have e2 : (cur.toList.take (hs.length * 3))[k * 3 + j]? = cur.toList[k * 3 + j]? := by rw [List.getElem?_take, if_pos (by omega)]
      rw [h7, e1, hv] at e2
      rw [← Array.getElem?_toList]
      exact e2.symm
    have c0 := hc 0 x.sl (by decide) rfl
    refine ⟨g, cap, rfl, h4, by simpa using c0, hc 1 x.long (by decide) rfl, hc 2 _ (by decide) rfl, fun j _ => ?_⟩
    unfold World.frozen?
    rw [h3]
    simp
theorem upd_self {α : Type} (f : Nat → α) (i : Nat) : upd f i (f i) = f := by
  funext j
  unfold upd
  split
  · rename_i h; rw [h]
  · rfl
section
variable {t : BkT} {base N0 g n : Nat} {T : Nat → Kd} {st : Nat → Nat} {w : World}
theorem BkI.hdr_off (h : BkI t base N0 g n T st w) (j : Nat) {wr : World} (hO : OffB (LP (T j)) w wr) : OwnC wr base (t.ht j) 3 (T j).1 (T j).2.length ((T j).2.flatMap Hd.cs) :=
  (h.hdr j).offB hO (fun q hq ⟨v, hv, hvq⟩ => h.seph j v hv q hq hvq)
theorem BkI.cellg (h : BkI t base N0 g n T st w) (j : Nat) {wr : World} (hO : OffB (LP (T j)) w wr) {i : Nat} {v : Value} (hc : w.cell? ⟨g, i, none⟩ = some v) : wr.cell? ⟨g, i, none⟩ = some v :=
  hO.cell hc (fun hq => h.sepg j (.inr hq))
/-- The first k lists are written over. -/
structure FillI (t : BkT) (base N0 : Nat) (p : Kd) (w : World) (j k : Nat) (wr : World) : Prop where
  off : OffB (LP p) w wr
  new : ∀ i x, p.2[i]? = some x → i < k → StP t j N0 base 1 wr x
  old : ∀ i x, p.2[i]? = some x → k ≤ i → StP t j N0 base 0 wr x
theorem FillI.start (h : BkI t base N0 g n T st w) (j : Nat) (h0 : st j = 0) : FillI t base N0 (T j) w j 0 w :=
  ⟨OffB.refl _, fun _ _ _ hi => absurd hi (Nat.not_lt_zero _), fun i x hx _ => by have := (h.lst j x (List.mem_of_getElem? hx)).1; rwa [h0] at this⟩
theorem sep_at {l : List Value} (h : l.Pairwise Sep) {i k : Nat} {u v : Value} (hu : l[i]? = some u) (hv : l[k]? = some v) (hik : i ≠ k) : Sep u v := by
  obtain ⟨h1, rfl⟩ := List.getElem?_eq_some_iff.1 hu
  obtain ⟨h2, rfl⟩ := List.getElem?_eq_some_iff.1 hv
  rcases Nat.lt_or_gt_of_ne hik with hlt | hlt
  · exact List.pairwise_iff_getElem.1 h i k h1 h2 hlt
  · exact (List.pairwise_iff_getElem.1 h k i h2 h1 hlt).symm
theorem FillI.next (h : BkI t base N0 g n T st w) {j k : Nat} {wr wr' : World} (hI : FillI t base N0 (T j) w j k wr) {x : Hd} (hx : (T j).2[k]? = some x) (hO : OffB (fun q => x.sl.ownBlock = some q) wr wr') (hs : StP t j N0 base 1 wr' x) : FillI t base N0 (T j) w j (k + 1) wr' := by
  have hxm : x.sl ∈ sls (T j) := List.mem_map_of_mem (List.mem_of_getElem? hx)
  have other : ∀ i y s, (T j).2[i]? = some y → i ≠ k → StP t j N0 base s wr y → StP t j N0 base s wr' y := fun i y s hy hik hst => by
    refine hst.off hO (fun q hq hq' => ?_) (fun q hq => h.fpN j q (.inr ⟨_, hxm, hq⟩))
    have h1 : (sls (T j))[i]? = some y.sl := by unfold sls; rw [List.getElem?_map, hy]; rfl
    have h2 : (sls (T j))[k]? = some x.sl := by unfold sls; rw [List.getElem?_map, hx]; rfl
    exact sep_at (h.sepl j) h1 h2 hik q hq hq'
  refine ⟨hI.off.trans (hO.mono fun q hq => ⟨_, hxm, hq⟩), fun i y hy hik => ?_, fun i y hy hik => other i y 0 hy (by omega) (hI.old i y hy (by omega))⟩
  rcases Nat.lt_or_ge i k with h1 | h1
  · exact other i y 1 hy (by omega) (hI.new i y hy h1)
  · obtain rfl : i = k := by omega
    rw [hx] at hy
    injection hy with hy
    rw [← hy]; exact hs
theorem FillI.fin (h : BkI t base N0 g n T st w) {j : Nat} {wr : World} (hI : FillI t base N0 (T j) w j (T j).2.length wr) : Below base w wr ∧ BkI t base N0 g n T (upd st j 1) wr := by
  have hb : base ≤ w.heap.size := Nat.le_trans h.gb (Nat.le_trans (Nat.le_of_lt h.gN) h.big)
  refine ⟨hI.off.below (fun q ⟨v, hv, hq⟩ => ?_) hb, ?_⟩
  · obtain ⟨x, hx, rfl⟩ := List.mem_map.1 hv
    obtain ⟨i, hi⟩ := List.mem_iff_getElem?.1 hx
    exact ((hI.new i x hi (List.getElem?_eq_some_iff.1 hi).1).1.lt q hq).1
  · have := h.turn j (hI.off.mono fun q hq => .inr hq) (T j).2 1 rfl (h.hdr_off j hI.off) (fun x hx => by
      obtain ⟨i, hi⟩ := List.mem_iff_getElem?.1 hx
      exact ⟨hI.new i x hi (List.getElem?_eq_some_iff.1 hi).1, (h.lst j x hx).2⟩)
    rwa [show ((T j).1, (T j).2) = T j from rfl, upd_self] at this
end
theorem fill_put {wr : World} {base : Nat} {e : TypeId} {z n k b cap : Nat} {c xs : List Value} (h : OwnC wr base e z (.slice (some ⟨b, 0, none⟩) n cap) n (fillL c xs k)) (hk : k < n) (hc : c.length = z) : ∀ w', Ext wr w' → w'.there b (k * z) c.length ∧ OwnC (w'.setCells b (k * z) c) base e z (.slice (some ⟨b, 0, none⟩) n cap) n (fillL c xs (k + 1)) ∧ OffB (fun q => (Value.slice (some ⟨b, 0, none⟩) n cap).ownBlock = some q) wr (w'.setCells b (k * z) c) := fun w' hE => by
  subst hc
  obtain ⟨h1, h2⟩ := (h.ext hE).put (g := b) rfl hk (cs := c) rfl
  rw [fill_step] at h2
  exact ⟨h1, h2, OffB.setCells (B := fun q => (Value.slice (some ⟨b, 0, none⟩) n cap).ownBlock = some q) (.of_ext hE) (b := b) rfl _ _⟩
end Go.Proofs.YtfcpnkalcijflaaGreatDoor

/- A book's lists, made longer one by one; looked at. No condition. -/
namespace Go.Proofs.YtfcpnkalcijflaaGreatDoor
open Go.RowKit
theorem AppK.keep {w w' : World} {base : Nat} {e : TypeId} {size : Nat} {v v' : Value} {n : Nat} {xs cs : List Value} (h : AppK w w' base e size v v' n xs cs) {u : Value} {m : Nat} {ys : List Value} (hu : OwnC w base e size u m ys) (hm : m ≤ n) : OwnC w' base e size u m ys := by
  by_cases he : u.ownBlock = v.ownBlock
  · exact h.old u m ys he hu hm
  · exact hu.offB h.off (fun q hq hq' => he (hq.trans hq'.symm))
theorem flat_set3 : ∀ (hs : List Hd) (k : Nat) (y : Hd) (lv : Value), hs[k]? = some y → (hs.flatMap Hd.cs).set (k * 3 + 1) lv = (hs.set k ⟨y.sl, y.len, y.num, lv⟩).flatMap Hd.cs
  | [], _, _, _, h => by simp at h
  | x :: hs, 0, y, lv, h => by
    injection h with h
    subst h
    rfl
  | x :: hs, k + 1, y, lv, h => by
    rw [List.set_cons_succ, List.flatMap_cons, List.flatMap_cons, ← flat_set3 hs k y lv (by simpa using h)]
    show (x.sl :: x.long :: Value.int .i64 (x.num : Int) :: (hs.flatMap Hd.cs)).set ((k + 1) * 3 + 1) lv = _
    rw [show (k + 1) * 3 + 1 = k * 3 + 1 + 1 + 1 + 1 by omega, List.set_cons_succ, List.set_cons_succ, List.set_cons_succ]
    rfl
theorem take_set {α : Type} : ∀ (l : List α) (n o : Nat) (v : α), o < n → (l.take n).set o v = (l.set o v).take n
  | [], _, _, _, _ => by simp
  | _ :: _, 0, _, _, h => by omega
  | a :: l, n + 1, 0, v, _ => rfl
  | a :: l, n + 1, o + 1, v, h => by
    rw [List.take_succ_cons, List.set_cons_succ, List.set_cons_succ, List.take_succ_cons, take_set l n o v (by omega)]
theorem hdr_set {w : World} {base : Nat} {ht : TypeId} {hb n c : Nat} {hs : List Hd} (h : OwnC w base ht 3 (.slice (some ⟨hb, 0, none⟩) n c) n (hs.flatMap Hd.cs)) (hn : n = hs.length) {k : Nat} {y : Hd} (hy : hs[k]? = some y) (lv : Value) :
    OwnC (w.setCell ⟨hb, k * 3 + 1, none⟩ lv) base ht 3 (.slice (some ⟨hb, 0, none⟩) n c) n ((hs.set k ⟨y.sl, y.len, y.num, lv⟩).flatMap Hd.cs) := by
  have hk : k < n := by rw [hn]; exact (List.getElem?_eq_some_iff.1 hy).1
  obtain ⟨hl, ⟨e, _⟩ | ⟨g, cap, cur, e, h2, h3, h4, h5, h6, h7⟩⟩ := h
  · injection e with e; cases e
  · injection e with e1 _ e3
    injection e1 with e1
    injection e1 with e1
    subst e1 e3
    refine ⟨by rw [← flat_set3 hs k y lv hy, List.length_set]; exact hl, .inr ⟨hb, c, _, rfl, h2, by rw [setCell_eq_setRow _ _ _ _ _ _ _ h3, setRow_heap _ _ _ _ _ _ h3], h4, h5, by rw [Array.size_setIfInBounds]; exact h6, ?_⟩⟩
    rw [Array.toList_setIfInBounds, ← take_set _ _ _ _ (by omega), h7]
    exact flat_set3 hs k y lv hy
/-- The first k lists have their longer slices. -/
structure GrowI (t : BkT) (base N0 : Nat) (p : Kd) (w : World) (j k : Nat) (hs : List Hd) (wr : World) : Prop where
  off : OffB (FP p) w wr
  len : hs.length = p.2.length
  hdr : OwnC wr base (t.ht j) 3 p.1 p.2.length (hs.flatMap Hd.cs)
  all : ∀ i x, p.2[i]? = some x → ∃ y, hs[i]? = some y ∧ y.sl = x.sl ∧ y.len = x.len ∧ y.num = x.num ∧ (i < k → StP t j N0 base 2 wr y) ∧ (k ≤ i → y = x ∧ StP t j N0 base 1 wr x)
section
variable {t : BkT} {base N0 g n : Nat} {T : Nat → Kd} {st : Nat → Nat} {w : World}
theorem GrowI.start (h : BkI t base N0 g n T st w) (j : Nat) (h1 : st j = 1) : GrowI t base N0 (T j) w j 0 (T j).2 w :=
  ⟨OffB.refl _, rfl, h.hdr j, fun i x hx => ⟨x, hx, rfl, rfl, rfl, fun hi => absurd hi (Nat.not_lt_zero _), fun _ => ⟨rfl, by have := (h.lst j x (List.mem_of_getElem? hx)).1; rwa [h1] at this⟩⟩⟩
theorem GrowI.cellg (h : BkI t base N0 g n T st w) {j k : Nat} {hs : List Hd} {wr : World} (hI : GrowI t base N0 (T j) w j k hs wr) {i : Nat} {v : Value} (hc : w.cell? ⟨g, i, none⟩ = some v) : wr.cell? ⟨g, i, none⟩ = some v :=
  hI.off.cell hc (fun hq => h.sepg j hq)
/-- One list more: in a world that has turned that list's block and the header's cell alone. -/
theorem GrowI.next (h : BkI t base N0 g n T st w) {j k : Nat} {hs : List Hd} {wr w2 : World} (hI : GrowI t base N0 (T j) w j k hs wr) {x : Hd} (hx : (T j).2[k]? = some x) {hb c : Nat} (hv : (T j).1 = .slice (some ⟨hb, 0, none⟩) (T j).2.length c) (hO : OffB (fun q => x.sl.ownBlock = some q) wr w2) (lv : Value)
    (h1 : OwnC w2 base (t.et j) (t.z j) x.sl x.len (reps (t.mark j x.num) x.len)) (h2 : OwnC w2 base (t.et j) (t.z j) lv (x.len + 40) (reps (t.mark j x.num) (x.len + 40))) (h3 : ∀ q, lv.ownBlock = some q → x.sl.ownBlock = some q ∨ wr.heap.size ≤ q) :
    GrowI t base N0 (T j) w j (k + 1) (hs.set k ⟨x.sl, x.len, x.num, lv⟩) (w2.setCell ⟨hb, k * 3 + 1, none⟩ lv) := by
  have hxm : x.sl ∈ sls (T j) := List.mem_map_of_mem (List.mem_of_getElem? hx)
  have hbF : (T j).1.ownBlock = some hb := by rw [hv]; rfl
  have hNr : N0 ≤ wr.heap.size := Nat.le_trans h.big hI.off.size
  have hbN : hb < N0 := h.fpN j hb (.inl hbF)
  have hsx : ∀ q, x.sl.ownBlock = some q → q ≠ hb := fun q hq e => h.seph j _ hxm hb hbF (by rw [← e]; exact hq)
  have hO2 : OffB (fun q => x.sl.ownBlock = some q ∨ q = hb) wr (w2.setCell ⟨hb, k * 3 + 1, none⟩ lv) := (hO.mono fun q hq => .inl hq).setCell (p := ⟨hb, k * 3 + 1, none⟩) (.inr rfl) _
  have hset : OffB (fun q => q = hb) w2 (w2.setCell ⟨hb, k * 3 + 1, none⟩ lv) := (OffB.refl (B := fun q => q = hb) w2).setCell (p := ⟨hb, k * 3 + 1, none⟩) rfl _
  obtain ⟨y, hy, _, _, _, _, hyx⟩ := hI.all k x hx
  obtain ⟨rfl, _⟩ := hyx (Nat.le_refl _)
  have hkl : k < hs.length := (List.getElem?_eq_some_iff.1 hy).1
  refine ⟨hI.off.trans (hO2.mono fun q hq => ?_), by rw [List.length_set]; exact hI.len, ?_, fun i z hz => ?_⟩
  · rcases hq with hq | rfl
    · exact .inr ⟨_, hxm, hq⟩
    · exact .inl hbF
  · have hh := hI.hdr.offB hO (fun q hq hq' => h.seph j _ hxm q hq hq')
    rw [hv] at hh ⊢
    exact hdr_set hh hI.len.symm hy lv
  · obtain ⟨y', hy', e1, e2, e3, hnew, hold⟩ := hI.all i z hz
    by_cases hik : k = i
    · subst hik
      rw [hx] at hz
      injection hz with hz
      subst hz
      refine ⟨⟨y.sl, y.len, y.num, lv⟩, by rw [List.getElem?_set_self hkl], rfl, rfl, rfl, fun _ => ⟨?_, ?_, fun q hq => ?_⟩, fun hh => by omega⟩
      · exact h1.offB hset (fun q hq e => hsx q hq e)
      · refine h2.offB hset (fun q hq e => ?_)
        rcases h3 q hq with h4 | h4
        · exact hsx q h4 e
        · omega
      · rcases h3 q hq with h4 | h4
        · exact .inl h4
        · exact .inr (by omega)
    · have hsep : ∀ q, z.sl.ownBlock = some q → ¬ (y.sl.ownBlock = some q ∨ q = hb) := fun q hq hB => by
        have h4 : (sls (T j))[i]? = some z.sl := by unfold sls; rw [List.getElem?_map, hz]; rfl
        have h5 : (sls (T j))[k]? = some y.sl := by unfold sls; rw [List.getElem?_map, hx]; rfl
        rcases hB with hB | rfl
        · exact sep_at (h.sepl j) h4 h5 (Ne.symm hik) q hq hB
        · exact h.seph j _ (List.mem_of_getElem? h4) q hbF hq
      have hBN : ∀ q, (y.sl.ownBlock = some q ∨ q = hb) → q < N0 := fun q hq => by
        rcases hq with hq | rfl
        · exact h.fpN j q (.inr ⟨_, hxm, hq⟩)
        · exact hbN
      refine ⟨y', by rw [List.getElem?_set_ne hik]; exact hy', e1, e2, e3, fun hlt => ?_, fun hle => ?_⟩
      · exact (hnew (by omega)).off hO2 (fun q hq => hsep q (by rw [← e1]; exact hq)) hBN
      · obtain ⟨k1, k2⟩ := hold (by omega)
        exact ⟨k1, k2.off hO2 hsep hBN⟩
theorem GrowI.fin (h : BkI t base N0 g n T st w) {j : Nat} {hs : List Hd} {wr : World} (hI : GrowI t base N0 (T j) w j (T j).2.length hs wr) : Below base w wr ∧ BkI t base N0 g n (upd T j ((T j).1, hs)) (upd st j 2) wr := by
  have hb : base ≤ w.heap.size := Nat.le_trans h.gb (Nat.le_trans (Nat.le_of_lt h.gN) h.big)
  have hlen := hI.len
  have hget : ∀ (i : Nat) (y : Hd), hs[i]? = some y → ∃ x, (T j).2[i]? = some x := fun i y hy => ⟨_, List.getElem?_eq_getElem (by rw [← hlen]; exact (List.getElem?_eq_some_iff.1 hy).1)⟩
  have hsl : hs.map Hd.sl = sls (T j) := by
    unfold sls
    refine List.ext_getElem? fun i => ?_
    rw [List.getElem?_map, List.getElem?_map]
    cases hx : (T j).2[i]? with
    | none =>
      rw [List.getElem?_eq_none (by rw [hlen]; exact List.getElem?_eq_none_iff.1 hx)]
      try rfl
    | some x =>
      obtain ⟨y, hy, e, _⟩ := hI.all i x hx
      rw [hy]
      show some y.sl = some x.sl
      rw [e]
  refine ⟨hI.off.below (fun q hq => ?_) hb, h.turn j hI.off hs 2 hsl (by rw [hlen]; exact hI.hdr) (fun y hy => ?_)⟩
  · rcases hq with hq | ⟨v, hv, hq⟩
    · exact ((h.hdr j).lt q hq).1
    · obtain ⟨x, hx, rfl⟩ := List.mem_map.1 hv
      obtain ⟨i, hi⟩ := List.mem_iff_getElem?.1 hx
      obtain ⟨y, _, e, _, _, hnew, _⟩ := hI.all i x hi
      have := (hnew (List.getElem?_eq_some_iff.1 hi).1).1
      rw [e] at this
      exact (this.lt q hq).1
  · obtain ⟨i, hi⟩ := List.mem_iff_getElem?.1 hy
    obtain ⟨x, hx⟩ := hget i y hi
    obtain ⟨y', hy', _, e2, _, hnew, _⟩ := hI.all i x hx
    rw [hi] at hy'
    injection hy' with hy'
    subst hy'
    exact ⟨hnew (List.getElem?_eq_some_iff.1 hx).1, by rw [e2]; exact (h.lst j x (List.mem_of_getElem? hx)).2⟩
end
/-- A row of marks, read. -/
theorem reps_range {w : World} {size n : Nat} {a : Option Addr} {cap : Nat} {c : List Value} (h : RowIs w size (.slice a n cap) n (reps c n)) (hc : c.length = size) (h0 : 0 < n) : ∃ b off, a = some ⟨b, off, none⟩ ∧ n ≤ cap ∧ ∀ k, k < n → w.rangeAt b (off + k * size) c := by
  subst hc
  obtain ⟨b, off, hat⟩ := h.at
  obtain ⟨ha, hn, hd⟩ := hat h0
  refine ⟨b, off, ha, hn, fun k hk j v hv => ?_⟩
  have hj : j < c.length := (List.getElem?_eq_some_iff.1 hv).1
  have h1 : k * c.length + c.length ≤ n * c.length := by
    have := Nat.mul_le_mul_right c.length (show k + 1 ≤ n from hk)
    rwa [Nat.add_mul, Nat.one_mul] at this
  rw [Nat.add_assoc, hd _ (by omega)]
  exact reps_at c n k j v hk hv
end Go.Proofs.YtfcpnkalcijflaaGreatDoor

/- keepEntry: a list more is kept. No condition. -/
namespace Go.Proofs.YtfcpnkalcijflaaGreatDoor
open Go.RowKit
set_option maxRecDepth 100000
set_option maxHeartbeats 4000000
theorem el_heldEntry : ElemIs Tryz.prog 75 3 56 := by
  refine ElemIs.mk (z := .agg #[.slice none 0 0, .slice none 0 0, .int .i64 0]) (by kernel_rfl) (by rfl) (by decide)
theorem keepEntry_any {base N0 g n : Nat} {T : Nat → Kd} {st : Nat → Nat} {w : World} (h : BkI bkT base N0 g n T st w) (h0 : ∀ j, st j = 0) (hn : n < 1000000) (hm : (T 8).2.length ≤ 1000000) (a : Option Addr) (len cap : Nat) (hx : ∃ xs, OwnC w base (bkT.et 8) (bkT.z 8) (.slice a len cap) len xs) (hxl : len ≤ 1000000) (hxg : (Value.slice a len cap).ownBlock ≠ some g) (hxf : ∀ j q, (Value.slice a len cap).ownBlock = some q → ¬ FP (T j) q) :
    Calls Tryz.prog 25 #[.pointer (some ⟨g, 0, none⟩), .slice a len cap] w fun e w' => e = .returned (.tuple #[]) ∧ Below base w w' ∧ OffB (fun q => q = g ∨ (T 8).1.ownBlock = some q) w w' ∧ ∃ v', (∀ q, v'.ownBlock = some q → (T 8).1.ownBlock = some q ∨ w.heap.size ≤ q) ∧ BkI bkT base w'.heap.size g (n + 1) (upd T 8 (v', (T 8).2 ++ [⟨.slice a len cap, len, n + 1, .slice none 0 0⟩])) st w' := by
  obtain ⟨hv, hhv⟩ : ∃ v, v = (T 8).1 := ⟨_, rfl⟩
  obtain ⟨hs, hhs⟩ : ∃ v, v = (T 8).2 := ⟨_, rfl⟩
  obtain ⟨W1, hW1⟩ : ∃ W, W = w.setCell ⟨g, 0, none⟩ (.int .i64 ((n + 1 : Nat) : Int)) := ⟨_, rfl⟩
  have hgw : g < w.heap.size := (Array.getElem?_eq_some_iff.1 h.row).1
  have c0 : w.cell? ⟨g, 0, none⟩ = some (.int .i64 (n : Int)) := by rw [cell_of_row _ _ _ _ _ _ h.row]; rfl
  have z0 : w.frozen? ⟨g, 0, none⟩ = false := by unfold World.frozen?; rw [h.row]; simp
  have hr1 : W1.heap[g]? = some (.cells (bkRow (n + 1) T) 44 (0, 0)) := by
    rw [hW1, setCell_eq_setRow _ _ _ _ _ _ _ h.row, setRow_heap _ _ _ _ _ _ h.row]
    rfl
  have hO1 : OffB (fun q => q = g ∨ hv.ownBlock = some q) w W1 := by rw [hW1]; exact (OffB.refl w).setCell (p := ⟨g, 0, none⟩) (.inl rfl) _
  have hown : OwnC w base 75 3 hv hs.length (hs.flatMap Hd.cs) := by have := h.hdr 8; rw [← hhv, ← hhs] at this; exact this
  have hsepg : ∀ q, hv.ownBlock = some q → q ≠ g := fun q hq e => h.sepg 8 (.inl (by rw [← hhv, ← e]; exact hq))
  have hown1 : OwnC W1.drew base 75 3 hv hs.length (hs.flatMap Hd.cs) := by
    refine (hown.offB (B := fun q => q = g) (w' := W1) ?_ hsepg).ext (Ext.refl _).drew
    rw [hW1]; exact (OffB.refl (B := fun q => q = g) w).setCell (p := ⟨g, 0, none⟩) rfl _
  have hsz1 : W1.drew.heap.size = w.heap.size := by show W1.heap.size = _; rw [hW1]; simp
  have hbase : base ≤ W1.drew.heap.size := by rw [hsz1]; have := h.gb; omega
  have hcell : ∀ (w' : World), w'.heap[g]? = some (.cells (bkRow (n + 1) T) 44 (0, 0)) → w'.cell? ⟨g, 0, none⟩ = some (.int .i64 ((n + 1 : Nat) : Int)) ∧ w'.cell? ⟨g, 8, none⟩ = some hv ∧ w'.frozen? ⟨g, 8, none⟩ = false := fun w' hw' => by
    refine ⟨by rw [cell_of_row _ _ _ _ _ _ hw']; rfl, by rw [cell_of_row _ _ _ _ _ _ hw', hhv]; rfl, ?_⟩
    unfold World.frozen?; rw [hw']; simp
  obtain ⟨ca0, ca1, _⟩ := hcell W1.drew hr1
  have hlit := fun o => hcell (W1.drew.alloc o) (((Ext.refl _).alloc _).row (show W1.drew.heap[g]? = _ from hr1))
  obtain ⟨cb0, cb1, _⟩ := hlit (.cells #[.slice a len cap, .slice none 0 0, .int .i64 ((n + 1 : Nat) : Int)] 75)
  have cc0 : (W1.alloc (.cells #[.slice a len cap, .slice none 0 0, .int .i64 ((n + 1 : Nat) : Int)] 75)).drew.cell? ⟨g, 0, none⟩ = _ := cb0
  have cc1 : (W1.alloc (.cells #[.slice a len cap, .slice none 0 0, .int .i64 ((n + 1 : Nat) : Int)] 75)).drew.cell? ⟨g, 8, none⟩ = _ := cb1
  have hfin : Hid (∀ v' w6, AppK W1.drew w6 base 75 3 hv v' hs.length (hs.flatMap Hd.cs) [.slice a len cap, .slice none 0 0, .int .i64 ((n + 1 : Nat) : Int)] → w6.cell? ⟨g, 8, none⟩ = some hv ∧ w6.frozen? ⟨g, 8, none⟩ = false ∧ Hid (Below base w (w6.setCell ⟨g, 8, none⟩ v') ∧ OffB (fun q => q = g ∨ (T 8).1.ownBlock = some q) w (w6.setCell ⟨g, 8, none⟩ v') ∧ (∀ q, v'.ownBlock = some q → (T 8).1.ownBlock = some q ∨ w.heap.size ≤ q) ∧ BkI bkT base (w6.setCell ⟨g, 8, none⟩ v').heap.size g (n + 1) (upd T 8 (v', (T 8).2 ++ [⟨.slice a len cap, len, n + 1, .slice none 0 0⟩])) st (w6.setCell ⟨g, 8, none⟩ v'))) := Lib.hid (fun v' w6 hA => by
    have hO6 : OffB (fun q => q = g ∨ hv.ownBlock = some q) w w6 := hO1.trans (OffB.trans (.of_ext (Ext.refl _).drew) (hA.off.mono fun q hq => .inr hq))
    have hg6 : w6.heap[g]? = some (.cells (bkRow (n + 1) T) 44 (0, 0)) := (hA.off.block g (by rw [hsz1]; exact hgw) (fun e => hsepg g e rfl)).trans hr1
    obtain ⟨_, d1, d2⟩ := hcell w6 hg6
    have hO7 : OffB (fun q => q = g ∨ hv.ownBlock = some q) w (w6.setCell ⟨g, 8, none⟩ v') := hO6.setCell (p := ⟨g, 8, none⟩) (.inl rfl) _
    have hvq : ∀ q, v'.ownBlock = some q → q ≠ g := fun q hq e => by
      rcases hA.at_ q hq with h1 | h1
      · exact hsepg q h1 e
      · rw [hsz1] at h1; omega
    have hva : ∀ q, v'.ownBlock = some q → (T 8).1.ownBlock = some q ∨ w.heap.size ≤ q := fun q hq => by
      rw [← hhv]
      rcases hA.at_ q hq with h1 | h1
      · exact .inl h1
      · rw [hsz1] at h1; exact .inr h1
    refine ⟨d1, d2, Lib.hid ⟨hO7.below (fun q hq => ?_) (by rw [← hsz1]; exact hbase), by rw [← hhv]; exact hO7, hva, h.kept 8 h0 v' ⟨.slice a len cap, len, n + 1, .slice none 0 0⟩ ?_ (by rw [← hhv]; exact hO7) ?_ hva ⟨hx, rfl⟩ hxl hxg hxf⟩⟩
    · rcases hq with rfl | hq
      · exact h.gb
      · exact (hown.lt q hq).1
    · rw [setCell_eq_setRow _ _ _ _ _ _ _ hg6, setRow_heap _ _ _ _ _ _ hg6]
      rfl
    · have h1 : OwnC w6 base 75 3 v' (hs.length + 1) (hs.flatMap Hd.cs ++ [.slice a len cap, .slice none 0 0, .int .i64 ((n + 1 : Nat) : Int)]) := hA.own
      rw [← hhs, List.flatMap_append]
      refine h1.offB (B := fun q => q = g) ((OffB.refl (B := fun q => q = g) w6).setCell (p := ⟨g, 8, none⟩) rfl _) hvq)
  have hml : hs.length ≤ 1000000 := by rw [hhs]; exact hm
  obtain ⟨m, hmm⟩ : ∃ m, m = hs.length := ⟨_, rfl⟩
  obtain ⟨xs, hxs⟩ : ∃ xs, xs = hs.flatMap Hd.cs := ⟨_, rfl⟩
  rw [← hmm] at hml hown1 hfin
  rw [← hxs] at hown1 hfin
  have hown1' := Lib.hid hown1
  have hW1' := Lib.hid hW1
  have hn1 : IntKind.i64.wrap ((n : Int) + 1) = (n : Int) + 1 := by rw [IntKind.wrap_i64]; omega
  have e1 : ((n + 1 : Nat) : Int) = (n : Int) + 1 := by omega
  rw [e1] at ca0 cb0 cb1 cc0 cc1
  clear h h0 hm hx hxl hxg hxf hhv hhs hgw hr1 hO1 hown hsepg hown1 hcell hlit hW1 hmm hxs hsz1
  go_enter Tryz.func25, Tryz.ntmps25
  go_upto_region 1 with fail
  rw [show w.setCell ⟨g, 0, none⟩ (.int .i64 ((n : Int) + 1)) = W1 by rw [hW1'.out, e1]]
  clear c0 z0 hn1
  go_region_law (first | ((refine step_append_k rfl (.tmp 15) (.tmp 22) 37 75 rfl Tryz.underlying37 el_heldEntry W1.drew base m xs hv (by rfl) hown1'.out #[.slice a len cap, .slice none 0 0, .int .i64 ((n : Int) + 1)] (by rfl) (by rfl) (by simp [Value.oneCell']) (by omega) (by omega) hbase ?_); (intro v' w6 hA; obtain ⟨oa4, oc4, rfl, _⟩ := hA.own.form; obtain ⟨hc6, hz6, hfin6⟩ := hfin.out _ w6 (by rw [e1]; exact hA); clear hA)) | fail)
  all_goals
    go_end0
    exact ⟨rfl, hfin6.out.1, hfin6.out.2.1, _, hfin6.out.2.2⟩
end Go.Proofs.YtfcpnkalcijflaaGreatDoor
