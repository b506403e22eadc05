/- Several texts in one: OwnS OwnK Bk0. No condition. -/
import Derived.Test.YtmopjmhapeinjaaGreatDoorGrA3
import Derived.Deep.Upon
import Derived.Test.YtmopjmhapeinjaaGreatDoorGrA1
import Derived.Deep.MidRow
/- Rows of the call's own that may be cut short, appended to by whatever row: append(out, xs...). No condition. -/
namespace Go.Proofs.YtmopjmhapeinjaaGreatDoor
open Go.RowKit
theorem run_append_cs {P : Program} (w : World) {t ty e : TypeId} (ht : P.underlying t = some (.slice e)) {size bytes : Nat} (hel : ElemIs P e size bytes) (base n : Nat) (xs : List Value) (v : Value) (hown : OwnC w base e size v n xs) (xv : Value) (m : Nat) (news : List Value)
    (hr : RowIs w size xv m news) (h1 : ∀ u ∈ news, u.oneCell' = true) (hn : n + m < 9223372036854775807) (hb : (n + m) * bytes ≤ 140737488355328) (hbase : base ≤ w.heap.size) :
    ∃ v' w', (Builtin.append_ #[t, t] ty #[v, xv]).run P w = .ok v' w' ∧ OwnC w' base e size v' (n + m) (xs ++ news) ∧ w.grownBy w' v.ownBlock ∧ (v'.ownBlock = v.ownBlock ∨ v'.ownBlock = some w.heap.size) := by
  obtain ⟨i, z, hi, hz, hsize, hby, hzs, hpos⟩ := hel
  subst hsize
  subst hby
  have hk : ∀ ad c, xv = .slice (some ad) m c → (∀ j u, news[j]? = some u → w.cell? (ad.add j) = some u) → news.length = m * i.size → ∃ v' w', (Builtin.append_ #[t, t] ty #[v, xv]).run P w = .ok v' w' ∧ OwnC w' base e i.size v' (n + m) (xs ++ news) ∧ w.grownBy w' v.ownBlock ∧ (v'.ownBlock = v.ownBlock ∨ v'.ownBlock = some w.heap.size) := by
    rintro ad c rfl hnews hl
    have hlen : (xs ++ news).length = (n + m) * i.size := by rw [List.length_append, hown.1, hl, Nat.add_mul]
    have grown : ∀ (old : Nat), old < n + m → ∀ (row : Option Nat),
        OwnC (w.drew.alloc (.cells (xs.toArray ++ news.toArray ++ Builtin.zeroCells z.cells (grownCap w (n + m) old e - (n + m))) e)) base e i.size
          (.slice (some ⟨w.heap.size, 0, none⟩) (n + m) (grownCap w (n + m) old e)) (n + m) (xs ++ news) ∧
        w.grownBy (w.drew.alloc (.cells (xs.toArray ++ news.toArray ++ Builtin.zeroCells z.cells (grownCap w (n + m) old e - (n + m))) e)) row := by
      intro old ho row
      have hge := grownCap_ge w (n + m) old e
      have hcm : grownCap w (n + m) old e ≤ maxLen := grownCap_le_maxLen w (n + m) old e (by unfold maxLen; omega)
      refine ⟨⟨hlen, .inr ⟨w.heap.size, _, _, rfl, hbase, heap_alloc_new w.drew _, hge, hcm, ?_, ?_⟩⟩, ⟨rfl, rfl, rfl, by simp, fun k hk _ => heap_alloc_old w.drew _ hk⟩⟩
      · simp only [Array.size_append, List.size_toArray, size_zeroCells, hzs, hown.1, hl, ← Nat.add_mul]
        refine Nat.le_of_eq ?_
        congr 1
        omega
      · simp only [Array.toList_append, List.append_assoc]
        rw [← List.append_assoc, ← hlen]
        exact List.take_left
    rcases hown.2 with ⟨rfl, rfl⟩ | ⟨g, cap, cur, rfl, hbg, hg, hnc, hcm, hcs2, htake⟩
    · have hx : xs = [] := List.eq_nil_of_length_eq_zero (by simpa using hown.1)
      subst hx
      by_cases hm : m = 0
      · subst hm
        obtain rfl : news = [] := List.eq_nil_of_length_eq_zero (by simpa using hl)
        have := run_append_nothing (P := P) w t t ty e i ht hi none 0 0 (Nat.le_refl _) (.slice (some ad) 0 c) (Src.ofSlice w ht ad 0 c [] (by simp) (fun j u h => by simp at h) (fun u h => by cases h))
        exact ⟨_, _, this, hown, ⟨rfl, rfl, rfl, Nat.le_refl _, fun _ _ _ => rfl⟩, .inl rfl⟩
      · have hr := run_append_nil (P := P) w t ty e i z ht hi hz ad m c news hl hnews (by omega) (by omega) (by have hb := hb; simp only [Nat.zero_add] at hb; omega)
        have hgr := grown 0 (by omega) (Value.ownBlock (.slice none 0 0))
        simp only [Nat.zero_add, List.nil_append, Array.empty_append] at hgr ⊢
        exact ⟨_, _, hr, hgr.1, hgr.2, Or.inr rfl⟩
    · by_cases hroom : n + m ≤ cap
      · have hcap : (n + m) * i.size ≤ cap * i.size := Nat.mul_le_mul_right _ hroom
        have hfit : n * i.size + news.length ≤ cur.size := by rw [hl, ← Nat.add_mul]; omega
        have hr := run_append_room (P := P) w t ty e i ht hi g n cap cur hg ad m c news hl hnews h1 hroom hfit
        refine ⟨_, _, hr, ⟨hlen, .inr ⟨g, cap, _, rfl, hbg, setRow_heap w g cur _ e _ hg, hroom, hcm, ?_, ?_⟩⟩, ⟨rfl, rfl, rfl, by simp, fun k _ hk => setRow_other w g k _ (fun e => hk (by simp [Value.ownBlock, e]))⟩, Or.inl rfl⟩
        · simp only [List.size_toArray, List.length_append, List.length_take, List.length_drop, Array.length_toList]
          omega
        · rw [htake, ← hlen]
          exact List.take_left
      · have holds : ∀ j u, xs[j]? = some u → w.cell? ((⟨g, 0, none⟩ : Addr).add j) = some u := hown.cells (g := g) rfl
        have hr := run_append_grow (P := P) w t ty e i z ht hi hz ⟨g, 0, none⟩ n cap xs hown.1 holds ad m c news hl hnews (by omega) (by omega) (growslice_fits (by omega) hb)
        have hgr := grown cap (by omega) (Value.ownBlock (.slice (some ⟨g, 0, none⟩) n cap))
        exact ⟨_, _, hr, hgr.1, hgr.2, Or.inr rfl⟩
  obtain ⟨hl, _, ⟨rfl, ad, c, rfl, hnil⟩ | ⟨b, off, c, rfl, hc, hd⟩⟩ := hr
  · cases ad with
    | none =>
      obtain rfl : news = [] := List.eq_nil_of_length_eq_zero (by omega)
      obtain ⟨a1, c1, rfl, hnc, _⟩ := hown.form
      have := run_append_nothing (P := P) w t t ty e i ht hi a1 n c1 hnc (.slice none 0 c) (Src.ofNil w ht c)
      exact ⟨_, _, this, by simpa using hown, ⟨rfl, rfl, rfl, Nat.le_refl _, fun _ _ _ => rfl⟩, .inl rfl⟩
    | some ad => exact hk ad c rfl (fun j u hj => by rw [List.eq_nil_of_length_eq_zero (show news.length = 0 by omega)] at hj; simp at hj) hl
  · refine hk ⟨b, off, none⟩ c rfl (fun j u hj => ?_) hl
    have hj' : j < news.length := (List.getElem?_eq_some_iff.1 hj).1
    rw [Addr.add_mid, hd j (by omega), hj]
section
variable {P : Program} {ops : Array Oper} {rest : List Oper} {o : Oper} {a : Act} {K : Act → World → Prop} {Q : Exit → Act → World → Prop}
theorem wp_append_cs (s x : Operand) (t e : TypeId)
    (ho : o.op = .call { callee := .builtin .append, args := #[s, x], argTypes := #[t, t] }) (ht : P.underlying t = some (.slice e)) {size bytes : Nat} (hel : ElemIs P e size bytes)
    (w : World) (base n : Nat) (xs : List Value) (v : Value) (hs : a.eval s = v) (hown : OwnC w base e size v n xs) (xv : Value) (m : Nat) (news : List Value)
    (hx : a.eval x = xv) (hr : RowIs w size xv m news) (h1 : ∀ u ∈ news, u.oneCell' = true) (hn : n + m < 9223372036854775807) (hb : (n + m) * bytes ≤ 140737488355328) (hbase : base ≤ w.heap.size)
    (h : ∀ v' w', OwnC w' base e size v' (n + m) (xs ++ news) → Below base w w' → K (a.put o.dst v') w') : o.wp P a w K Q := by
  obtain ⟨v', w', hrun, hE, hg, _⟩ := run_append_cs (P := P) w (ty := o.type) ht hel base n xs v hown xv m news hr h1 hn hb hbase
  unfold Oper.wp execOp
  simp only [ho, resolve, invoke, builtin, Sem.run_bind, Sem.run_pure, Result.andThen_ok, List.map_toArray, List.map_cons, List.map_nil, hs, hx, hrun]
  exact h v' w' hE ((Below.refl base w).grown hg hbase (fun k hk => (hown.lt k hk).1))
theorem wpList_append_cs (hgd : o.guard = none) (s x : Operand) (t e : TypeId)
    (ho : o.op = .call { callee := .builtin .append, args := #[s, x], argTypes := #[t, t] }) (ht : P.underlying t = some (.slice e)) {size bytes : Nat} (hel : ElemIs P e size bytes)
    (w : World) (base n : Nat) (xs : List Value) (v : Value) (hs : a.eval s = v) (hown : OwnC w base e size v n xs) (xv : Value) (m : Nat) (news : List Value)
    (hx : a.eval x = xv) (hr : RowIs w size xv m news) (h1 : ∀ u ∈ news, u.oneCell' = true) (hn : n + m < 9223372036854775807) (hb : (n + m) * bytes ≤ 140737488355328) (hbase : base ≤ w.heap.size)
    (h : ∀ v' w', OwnC w' base e size v' (n + m) (xs ++ news) → Below base w w' → wpList P ops Q rest (a.put o.dst v') w') : wpList P ops Q (o :: rest) a w :=
  wpList_plain hgd fun _ hK => wp_append_cs s x t e ho ht hel w base n xs v hs hown xv m news hx hr h1 hn hb hbase fun v' w' hE hB => hK _ _ (h v' w' hE hB)
/-- The like at an operation behind a guard that stands open. -/
theorem wpList_append_cs_g (hgd : Region.wanted o (yielded ops a.tmps) = true) (s x : Operand) (t e : TypeId)
    (ho : o.op = .call { callee := .builtin .append, args := #[s, x], argTypes := #[t, t] }) (ht : P.underlying t = some (.slice e)) {size bytes : Nat} (hel : ElemIs P e size bytes)
    (w : World) (base n : Nat) (xs : List Value) (v : Value) (hs : a.eval s = v) (hown : OwnC w base e size v n xs) (xv : Value) (m : Nat) (news : List Value)
    (hx : a.eval x = xv) (hr : RowIs w size xv m news) (h1 : ∀ u ∈ news, u.oneCell' = true) (hn : n + m < 9223372036854775807) (hb : (n + m) * bytes ≤ 140737488355328) (hbase : base ≤ w.heap.size)
    (h : ∀ v' w', OwnC w' base e size v' (n + m) (xs ++ news) → Below base w w' → wpList P ops Q rest (a.put o.dst v') w') : wpList P ops Q (o :: rest) a w :=
  wpList_step fun K hK => by
    rw [if_pos hgd]
    exact wp_append_cs s x t e ho ht hel w base n xs v hs hown xv m news hx hr h1 hn hb hbase fun v' w' hE hB => hK _ _ (h v' w' hE hB)
/-- The like, telling which block alone was written. -/
theorem wpList_append_cs_k (hgd : Region.wanted o (yielded ops a.tmps) = true) (s x : Operand) (t e : TypeId)
    (ho : o.op = .call { callee := .builtin .append, args := #[s, x], argTypes := #[t, t] }) (ht : P.underlying t = some (.slice e)) {size bytes : Nat} (hel : ElemIs P e size bytes)
    (w : World) (base n : Nat) (xs : List Value) (v : Value) (hs : a.eval s = v) (hown : OwnC w base e size v n xs) (xv : Value) (m : Nat) (news : List Value)
    (hx : a.eval x = xv) (hr : RowIs w size xv m news) (h1 : ∀ u ∈ news, u.oneCell' = true) (hn : n + m < 9223372036854775807) (hb : (n + m) * bytes ≤ 140737488355328) (hbase : base ≤ w.heap.size)
    (h : ∀ v' w', OwnC w' base e size v' (n + m) (xs ++ news) → Below base w w' → w.grownBy w' v.ownBlock → wpList P ops Q rest (a.put o.dst v') w') : wpList P ops Q (o :: rest) a w :=
  wpList_step fun K hK => by
    rw [if_pos hgd]
    obtain ⟨v', w', hrun, hE, hg, _⟩ := run_append_cs (P := P) w (ty := o.type) ht hel base n xs v hown xv m news hr h1 hn hb hbase
    unfold Oper.wp execOp
    simp only [ho, resolve, invoke, builtin, Sem.run_bind, Sem.run_pure, Result.andThen_ok, List.map_toArray, List.map_cons, List.map_nil, hs, hx, hrun]
    exact hK _ _ (h v' w' hE ((Below.refl base w).grown hg hbase (fun k hk => (hown.lt k hk).1)) hg)
end
end Go.Proofs.YtmopjmhapeinjaaGreatDoor

/- A slice of the call's own, cut short. No condition. -/
namespace Go.Proofs.YtmopjmhapeinjaaGreatDoor
open Go.RowKit
theorem OwnC.cut {w : World} {base : Nat} {e : TypeId} {size : Nat} {a : Option Addr} {n cap m : Nat} {xs : List Value} (h : OwnC w base e size (.slice a n cap) n xs) (hm : m ≤ n) : OwnC w base e size (.slice a m cap) m (xs.take (m * size)) := by
  obtain ⟨hl, ⟨e0, hn⟩ | ⟨g, cap', cur, e0, h2, h3, h4, h5, h6, h7⟩⟩ := h
  · obtain rfl : m = 0 := by omega
    subst hn
    exact ⟨by simp, .inl ⟨e0, rfl⟩⟩
  · injection e0 with e1 e2 e3
    subst e1 e3
    have hms : m * size ≤ n * size := Nat.mul_le_mul_right _ hm
    refine ⟨by rw [List.length_take, hl]; omega, .inr ⟨g, cap, cur, rfl, h2, h3, by omega, h5, by omega, ?_⟩⟩
    rw [← h7, List.take_take, Nat.min_eq_left hms]
end Go.Proofs.YtmopjmhapeinjaaGreatDoor

/- A book of lists: what its memory holds, and how that is kept. No condition. -/
namespace Go.Proofs.YtmopjmhapeinjaaGreatDoor
open Go.RowKit
/-! ### A row of the call's own: what leaves its block leaves it; an element is written over; an append that leaves the elder row. -/
theorem OwnC.offB {w w' : World} {base : Nat} {e : TypeId} {size : Nat} {v : Value} {n : Nat} {xs : List Value} {B : Nat → Prop} (h : OwnC w base e size v n xs) (ho : OffB B w w') (hb : ∀ q, v.ownBlock = some q → ¬ B q) : OwnC w' base e size v n xs := by
  have hlt := h.lt
  obtain ⟨hl, h | ⟨g, cap, cur, rfl, h2, h3, h4⟩⟩ := h
  · exact ⟨hl, .inl h⟩
  · exact ⟨hl, .inr ⟨g, cap, cur, rfl, h2, (ho.block g (hlt g rfl).2 (hb g rfl)).trans h3, h4⟩⟩
theorem set_take {α : Type} : ∀ (l : List α) (o : Nat) (v : α), o < l.length → (l.set o v).take (o + 1) = l.take o ++ [v]
  | [], _, _, h => by simp at h
  | _ :: _, 0, _, _ => rfl
  | a :: l, o + 1, v, h => by
    rw [List.set_cons_succ, List.take_succ_cons, List.take_succ_cons, set_take l o v (by simpa using h)]
    rfl
theorem set_drop {α : Type} : ∀ (l : List α) (o m : Nat) (v : α), o < m → (l.set o v).drop m = l.drop m
  | [], _, _, _, _ => by simp
  | _ :: _, _, 0, _, h => by omega
  | _ :: _, 0, _ + 1, _, _ => rfl
  | a :: l, o + 1, m + 1, v, h => by
    rw [List.set_cons_succ, List.drop_succ_cons, List.drop_succ_cons]
    exact set_drop l o m v (by omega)
theorem setCells_heap (b : Nat) (t : TypeId) (fr : Nat × Nat) : ∀ (vs : List Value) (o : Nat) (w : World) (cur : Array Value), w.heap[b]? = some (.cells cur t fr) → o + vs.length ≤ cur.size →
    (w.setCells b o vs).heap[b]? = some (.cells (cur.toList.take o ++ vs ++ cur.toList.drop (o + vs.length)).toArray t fr)
  | [], o, w, cur, h, _ => by
    rw [World.setCells, h, List.append_nil, List.length_nil, Nat.add_zero, List.take_append_drop]
  | v :: r, o, w, cur, h, hl => by
    rw [List.length_cons] at hl
    have h1 : (w.setCell ⟨b, o, none⟩ v).heap[b]? = some (.cells (cur.setIfInBounds o v) t fr) := by
      rw [setCell_eq_setRow _ _ _ _ _ _ _ h, setRow_heap _ _ _ _ _ _ h]
    rw [World.setCells, setCells_heap b t fr r (o + 1) _ _ h1 (by rw [Array.size_setIfInBounds]; omega), Array.toList_setIfInBounds, set_take _ _ _ (by rw [Array.length_toList]; omega), set_drop _ _ _ _ (by omega), List.length_cons, show o + 1 + r.length = o + (r.length + 1) by omega]
    simp only [List.append_assoc, List.cons_append, List.nil_append]
theorem OwnC.put {w : World} {base : Nat} {e : TypeId} {z n : Nat} {v : Value} {xs : List Value} (h : OwnC w base e z v n xs) {g : Nat} (hg : v.ownBlock = some g) {k : Nat} (hk : k < n) {cs : List Value} (hcs : cs.length = z) :
    w.there g (k * z) cs.length ∧ OwnC (w.setCells g (k * z) cs) base e z v n (xs.take (k * z) ++ cs ++ xs.drop (k * z + z)) := by
  obtain ⟨hl, ⟨rfl, _⟩ | ⟨g', cap, cur, rfl, h2, h3, h4, h5, h6, h7⟩⟩ := h
  · cases hg
  · obtain rfl : g' = g := by simpa [Value.ownBlock] using hg
    have hkz : k * z + z ≤ n * z := by
      have := Nat.mul_le_mul_right z (show k + 1 ≤ n from hk)
      rwa [Nat.add_mul, Nat.one_mul] at this
    have hnz : n * z ≤ cap * z := Nat.mul_le_mul_right _ h4
    refine ⟨fun j hj => ⟨?_, ?_⟩, ?_, .inr ⟨g', cap, _, rfl, h2, setCells_heap g' e (0, 0) cs (k * z) w cur h3 (by omega), h4, h5, ?_, ?_⟩⟩
    · rw [cell_of_row _ _ _ cur e (0, 0) h3, Array.getElem?_eq_getElem (by omega)]; rfl
    · unfold World.frozen?; rw [h3]; simp
    · simp only [List.length_append, List.length_take, List.length_drop, hl]
      omega
    · simp only [List.size_toArray, List.length_append, List.length_take, List.length_drop, Array.length_toList]
      omega
    · rw [← h7]
      have e1 : (cur.toList.take (k * z) ++ cs).length = k * z + z := by rw [List.length_append, List.length_take, Array.length_toList, hcs]; omega
      show List.take (n * z) (cur.toList.take (k * z) ++ cs ++ cur.toList.drop (k * z + cs.length)) = _
      rw [List.take_append, e1, List.take_of_length_le (by rw [e1]; exact hkz), List.take_take, Nat.min_eq_left (by omega), hcs, List.drop_take]
/-- What an append of one element leaves: the longer slice, the elder one, and all else. -/
structure AppK (w w' : World) (base : Nat) (e : TypeId) (size : Nat) (v v' : Value) (n : Nat) (xs cs : List Value) : Prop where
  own : OwnC w' base e size v' (n + 1) (xs ++ cs)
  old : ∀ (u : Value) (m : Nat) (ys : List Value), u.ownBlock = v.ownBlock → OwnC w base e size u m ys → m ≤ n → OwnC w' base e size u m ys
  off : OffB (fun q => v.ownBlock = some q) w w'
  at_ : ∀ q, v'.ownBlock = some q → v.ownBlock = some q ∨ w.heap.size ≤ q
theorem run_append_k {P : Program} (w : World) {t ty e : TypeId} (ht : P.underlying t = some (.slice e)) {size bytes : Nat} (hel : ElemIs P e size bytes) (base n : Nat) (xs : List Value) (v : Value) (hown : OwnC w base e size v n xs) (cs : Array Value) (hcs : cs.size = size)
    (h1 : ∀ u ∈ cs.toList, u.oneCell' = true) (hn : n < 9223372036854775807) (hb : (n + 1) * bytes ≤ 140737488355328) (hbase : base ≤ w.heap.size) :
    ∃ v' w', (Builtin.append_ #[t, t] ty #[v, .slice (some ⟨w.heap.size, 0, none⟩) 1 1]).run P (w.alloc (.cells cs e)) = .ok v' w' ∧ AppK w w' base e size v v' n xs cs.toList := by
  obtain ⟨i, z, hi, hz, hsize, hby, hzs, hpos⟩ := hel
  have hE1 : Ext w (w.alloc (.cells cs e)) := (Ext.refl w).alloc (.cells cs e)
  have hown1 := hown.ext hE1
  have hnews : ∀ j u, cs.toList[j]? = some u → (w.alloc (.cells cs e)).cell? ((⟨w.heap.size, 0, none⟩ : Addr).add j) = some u := by
    intro j u hu
    rw [Addr.add_mid, Nat.zero_add, cell_of_row _ _ j cs e (0, 0) (heap_alloc_new w _)]
    simpa using hu
  have hl : cs.toList.length = 1 * i.size := by simp [hcs, hsize]
  subst hsize
  subst hby
  have hlen : (xs ++ cs.toList).length = (n + 1) * i.size := by rw [List.length_append, hown.1, hl, Nat.add_mul]
  have hlt := hown.lt
  obtain ⟨W, hW⟩ : ∃ W, W = w.alloc (.cells cs e) := ⟨_, rfl⟩
  have hws : W.heap.size = w.heap.size + 1 := by rw [hW]; simp
  rw [← hW] at hown1 hnews hE1 ⊢
  clear hW
  have grown : ∀ (old : Nat), old < n + 1 →
      OwnC (W.drew.alloc (.cells (xs.toArray ++ cs.toList.toArray ++ Builtin.zeroCells z.cells (grownCap W (n + 1) old e - (n + 1))) e)) base e i.size
        (.slice (some ⟨W.heap.size, 0, none⟩) (n + 1) (grownCap W (n + 1) old e)) (n + 1) (xs ++ cs.toList) := by
    intro old ho
    have hge := grownCap_ge W (n + 1) old e
    have hcm : grownCap W (n + 1) old e ≤ maxLen := grownCap_le_maxLen W (n + 1) old e (by unfold maxLen; omega)
    refine ⟨hlen, .inr ⟨W.heap.size, _, _, rfl, by omega, heap_alloc_new W.drew _, hge, hcm, ?_, ?_⟩⟩
    · simp only [Array.size_append, List.size_toArray, size_zeroCells, hzs, hown.1, hl, ← Nat.add_mul]
      refine Nat.le_of_eq ?_
      congr 1
      omega
    · simp only [Array.toList_append, List.append_assoc]
      rw [← List.append_assoc, ← hlen]
      exact List.take_left
  have fin : ∀ (v' : Value) (o : Obj), OwnC (W.drew.alloc o) base e i.size v' (n + 1) (xs ++ cs.toList) → (∀ q, v'.ownBlock = some q → w.heap.size ≤ q) → AppK w (W.drew.alloc o) base e i.size v v' n xs cs.toList := fun v' o h2 h3 => by
    have hE : Ext w (W.drew.alloc o) := hE1.trans ((Ext.refl W).drew.alloc o)
    exact ⟨h2, fun u m ys _ hu _ => hu.ext hE, .of_ext hE, fun q hq => .inr (h3 q hq)⟩
  rcases hown1.2 with ⟨rfl, rfl⟩ | ⟨g, cap, cur, rfl, hbg, hg, hnc, hcm, hcs2, htake⟩
  · have hx : xs = [] := List.eq_nil_of_length_eq_zero (by simpa using hown.1)
    subst hx
    have hr := run_append_nil (P := P) W t ty e i z ht hi hz ⟨w.heap.size, 0, none⟩ 1 1 cs.toList hl hnews (by omega) (by omega) (by have hb := hb; simp only [Nat.zero_add] at hb; omega)
    have hgr := grown 0 (by omega)
    simp only [Nat.zero_add, List.nil_append, Array.empty_append] at hgr ⊢
    refine ⟨_, _, hr, fin _ _ ?_ (fun q hq => ?_)⟩
    · simpa using hgr
    · have : W.heap.size = q := by simpa [Value.ownBlock] using hq
      omega
  · by_cases hroom : n + 1 ≤ cap
    · have hcap : (n + 1) * i.size ≤ cap * i.size := Nat.mul_le_mul_right _ hroom
      have hfit : n * i.size + cs.toList.length ≤ cur.size := by rw [hl, ← Nat.add_mul]; omega
      have hr := run_append_room (P := P) W t ty e i ht hi g n cap cur hg ⟨w.heap.size, 0, none⟩ 1 1 cs.toList hl hnews h1 hroom hfit
      have hgw : g < w.heap.size := (hlt g rfl).2
      have hgw0 : w.heap[g]? = some (.cells cur e (0, 0)) := by rw [← Below.block hE1 g hgw]; exact hg
      refine ⟨_, _, hr, ⟨hlen, .inr ⟨g, cap, _, rfl, hbg, setRow_heap W g cur _ e _ hg, hroom, hcm, ?_, ?_⟩⟩, fun u m ys hub hu hm => ?_, ?_, fun q hq => .inl ?_⟩
      · simp only [List.size_toArray, List.length_append, List.length_take, List.length_drop, Array.length_toList]
        simp only [Array.length_toList] at hfit
        omega
      · rw [htake, ← hlen]
        exact List.take_left
      · obtain ⟨hul, ⟨rfl, _⟩ | ⟨g', cap', cur', rfl, k2, k3, k4, k5, k6, k7⟩⟩ := hu
        · cases hub
        · obtain rfl : g' = g := by simpa [Value.ownBlock] using hub
          rw [hgw0] at k3
          injection k3 with k3
          injection k3 with k3
          subst k3
          have hmn : m * i.size ≤ n * i.size := Nat.mul_le_mul_right _ hm
          refine ⟨hul, .inr ⟨g', cap', _, rfl, k2, setRow_heap W g' cur _ e _ hg, k4, k5, ?_, ?_⟩⟩
          · simp only [List.size_toArray, List.length_append, List.length_take, List.length_drop, Array.length_toList]
            simp only [Array.length_toList] at hfit
            omega
          · show List.take (m * i.size) (cur.toList.take (n * i.size) ++ cs.toList ++ _) = ys
            rw [List.append_assoc, List.take_append_of_le_length (by rw [List.length_take, Array.length_toList]; omega), List.take_take, Nat.min_eq_left hmn]
            exact k7
      · refine OffB.trans (.of_ext hE1) ⟨rfl, rfl, rfl, by simp, fun k _ hk => setRow_other W g k _ (fun e => hk (by simp [Value.ownBlock, e]))⟩
      · simpa [Value.ownBlock] using hq
    · have holds : ∀ j u, xs[j]? = some u → W.cell? ((⟨g, 0, none⟩ : Addr).add j) = some u := hown1.cells (g := g) rfl
      have hr := run_append_grow (P := P) W t ty e i z ht hi hz ⟨g, 0, none⟩ n cap xs hown.1 holds ⟨w.heap.size, 0, none⟩ 1 1 cs.toList hl hnews (by omega) (by omega) (growslice_fits (by omega) hb)
      have hgr := grown cap (by omega)
      refine ⟨_, _, hr, fin _ _ hgr (fun q hq => ?_)⟩
      have : W.heap.size = q := by simpa [Value.ownBlock] using hq
      omega
section
variable {P : Program} {ops : Array Oper} {rest : List Oper} {o : Oper} {a : Act} {K : Act → World → Prop} {Q : Exit → Act → World → Prop} {E : Prop}
theorem wp_append_k (s x : Operand) (t e : TypeId)
    (ho : o.op = .call { callee := .builtin .append, args := #[s, x], argTypes := #[t, t] }) (ht : P.underlying t = some (.slice e)) {size bytes : Nat} (hel : ElemIs P e size bytes)
    (w : World) (base n : Nat) (xs : List Value) (v : Value) (hs : a.eval s = v) (hown : OwnC w base e size v n xs) (cs : Array Value)
    (hx : a.eval x = .slice (some ⟨w.heap.size, 0, none⟩) 1 1) (hcs : cs.size = size) (h1 : ∀ u ∈ cs.toList, u.oneCell' = true) (hn : n < 9223372036854775807) (hb : (n + 1) * bytes ≤ 140737488355328) (hbase : base ≤ w.heap.size)
    (h : ∀ v' w', AppK w w' base e size v v' n xs cs.toList → K (a.put o.dst v') w') : o.wp P a (w.alloc (.cells cs e)) K Q := by
  obtain ⟨v', w', hr, hE⟩ := run_append_k (P := P) w (ty := o.type) ht hel base n xs v hown cs hcs h1 hn hb hbase
  unfold Oper.wp execOp
  simp only [ho, resolve, invoke, builtin, Sem.run_bind, Sem.run_pure, Result.andThen_ok, List.map_toArray, List.map_cons, List.map_nil, hs, hx, hr]
  exact h v' w' hE
theorem step_append_k (hg : Region.wanted o (yielded ops a.tmps) = true) (s x : Operand) (t e : TypeId)
    (ho : o.op = .call { callee := .builtin .append, args := #[s, x], argTypes := #[t, t] }) (ht : P.underlying t = some (.slice e)) {size bytes : Nat} (hel : ElemIs P e size bytes)
    (w : World) (base n : Nat) (xs : List Value) (v : Value) (hs : a.eval s = v) (hown : OwnC w base e size v n xs) (cs : Array Value)
    (hx : a.eval x = .slice (some ⟨w.heap.size, 0, none⟩) 1 1) (hcs : cs.size = size) (h1 : ∀ u ∈ cs.toList, u.oneCell' = true) (hn : n < 9223372036854775807) (hb : (n + 1) * bytes ≤ 140737488355328) (hbase : base ≤ w.heap.size)
    (h : ∀ v' w', AppK w w' base e size v v' n xs cs.toList → K (a.put o.dst v') w') : if Region.wanted o (yielded ops a.tmps) = true then Oper.wp P o a (w.alloc (.cells cs e)) K Q else E := by
  rw [if_pos hg]
  exact wp_append_k s x t e ho ht hel w base n xs v hs hown cs hx hcs h1 hn hb hbase h
theorem wpList_append_k (hgd : o.guard = none) (s x : Operand) (t e : TypeId)
    (ho : o.op = .call { callee := .builtin .append, args := #[s, x], argTypes := #[t, t] }) (ht : P.underlying t = some (.slice e)) {size bytes : Nat} (hel : ElemIs P e size bytes)
    (w : World) (base n : Nat) (xs : List Value) (v : Value) (hs : a.eval s = v) (hown : OwnC w base e size v n xs) (cs : Array Value)
    (hx : a.eval x = .slice (some ⟨w.heap.size, 0, none⟩) 1 1) (hcs : cs.size = size) (h1 : ∀ u ∈ cs.toList, u.oneCell' = true) (hn : n < 9223372036854775807) (hb : (n + 1) * bytes ≤ 140737488355328) (hbase : base ≤ w.heap.size)
    (h : ∀ v' w', AppK w w' base e size v v' n xs cs.toList → wpList P ops Q rest (a.put o.dst v') w') : wpList P ops Q (o :: rest) a (w.alloc (.cells cs e)) :=
  wpList_plain hgd fun _ hK => wp_append_k s x t e ho ht hel w base n xs v hs hown cs hx hcs h1 hn hb hbase fun v' w' hE => hK _ _ (h v' w' hE)
theorem step_store_mid (hg : Region.wanted o (yielded ops a.tmps) = true) (ty : TypeId) (x y : Operand) (ho : o.op = .store ty x y) (w : World)
    (b f : Nat) (cells : Array Value) (hx : a.eval x = .pointer (some ⟨b, f, none⟩)) (hy : a.eval y = .agg cells)
    (ht : w.there b f cells.size) (hi : (P.info? ty).map (·.size) = some cells.size) (h1 : cells.all (·.oneCell') = true)
    (h : K (a.put o.dst undef) (w.setCells b f cells.toList)) : if Region.wanted o (yielded ops a.tmps) = true then Oper.wp P o a w K Q else E := by
  rw [if_pos hg]
  exact wp_store_mid ty x y ho b f cells hx hy ht hi h1 h
end
theorem run_storeCells_mid {P : Program} (w : World) (b o : Nat) (vs : List Value) (ht : w.there b o vs.length) (h1 : ∀ v ∈ vs, v.oneCell' = true) : (storeCells ⟨b, o, none⟩ vs).run P w = .ok () (w.setCells b o vs) := by
  have := run_storeCells_cells (P := P) b o vs 0 w (fun j hj => by simpa using (ht j hj).1) (fun j hj => by simpa using (ht j hj).2) h1
  simpa using this
/-! ### Marks in a row. -/
def reps (c : List Value) (n : Nat) : List Value := (List.replicate n c).flatten
theorem reps_zero (c : List Value) : reps c 0 = [] := rfl
theorem reps_succ (c : List Value) (n : Nat) : reps c (n + 1) = reps c n ++ c := by
  unfold reps
  rw [List.replicate_succ', List.flatten_append, List.flatten_cons, List.flatten_nil, List.append_nil]
theorem reps_len (c : List Value) (n : Nat) : (reps c n).length = n * c.length := by
  induction n with
  | zero => simp [reps]
  | succ n ih => rw [reps_succ, List.length_append, ih, Nat.add_mul, Nat.one_mul]
theorem reps_at (c : List Value) : ∀ (n k j : Nat) (v : Value), k < n → c[j]? = some v → (reps c n)[k * c.length + j]? = some v
  | 0, _, _, _, h, _ => by omega
  | n + 1, k, j, v, hk, hv => by
    have hj : j < c.length := (List.getElem?_eq_some_iff.1 hv).1
    rw [reps_succ]
    rcases Nat.lt_or_ge k n with h | h
    · have h1 : k * c.length + c.length ≤ n * c.length := by
        have := Nat.mul_le_mul_right c.length (show k + 1 ≤ n from h)
        rwa [Nat.add_mul, Nat.one_mul] at this
      rw [List.getElem?_append_left (by rw [reps_len]; omega)]
      exact reps_at c n k j v h hv
    · obtain rfl : k = n := by omega
      rw [List.getElem?_append_right (by rw [reps_len]; omega), reps_len, Nat.add_sub_cancel_left]
      exact hv
/-- Between two rounds of the writing over. -/
def fillL (c xs : List Value) (k : Nat) : List Value := reps c k ++ xs.drop (k * c.length)
theorem fillL_zero (c xs : List Value) : fillL c xs 0 = xs := by
  unfold fillL
  rw [reps_zero, Nat.zero_mul]
  rfl
theorem fill_step (c xs : List Value) (k : Nat) : (fillL c xs k).take (k * c.length) ++ c ++ (fillL c xs k).drop (k * c.length + c.length) = fillL c xs (k + 1) := by
  unfold fillL
  have hl := reps_len c k
  rw [List.take_left' hl, reps_succ, List.drop_append, hl, List.drop_of_length_le (by rw [hl]; omega), List.nil_append, show k * c.length + c.length - k * c.length = c.length by omega, List.drop_drop, Nat.add_mul, Nat.one_mul]
theorem fill_end (c xs : List Value) (n : Nat) (h : xs.length = n * c.length) : fillL c xs n = reps c n := by
  unfold fillL
  rw [List.drop_of_length_le (by omega), List.append_nil]
theorem OwnC.weak {w : World} {base b : Nat} {e : TypeId} {z n : Nat} {v : Value} {xs : List Value} (h : OwnC w b e z v n xs) (hb : base ≤ b) : OwnC w base e z v n xs := by
  obtain ⟨hl, h | ⟨g, cap, cur, h1, h2, h3⟩⟩ := h
  · exact ⟨hl, .inl h⟩
  · exact ⟨hl, .inr ⟨g, cap, cur, h1, Nat.le_trans hb h2, h3⟩⟩
end Go.Proofs.YtmopjmhapeinjaaGreatDoor
