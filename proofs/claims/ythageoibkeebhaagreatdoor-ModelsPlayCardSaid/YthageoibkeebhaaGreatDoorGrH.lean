/- Several texts in one: Mod11 Mod12 Mod13. No condition. -/
import Derived.Test.YthageoibkeebhaaGreatDoorGrG
import Derived.WideAt
/- A state as a plain thing (Md): its rows, and who said what last; what an ask makes of it; a state in memory that holds one (StM). No condition. -/
namespace Go.Proofs.YthageoibkeebhaaGreatDoor
open Go.RowKit Go.Maps Go.WideMaps
set_option maxRecDepth 100000
structure Md where
  rows : List Rw
  sd : List Sv
def isK (k : ByteArray) (r : Rw) : Bool := r.key.data.toList == k.data.toList
def findW (l : List Rw) (k : ByteArray) : Option Rw := l.find? (isK k)
theorem find_fst (rs : List (Rw × Nat)) (k : ByteArray) : (rs.find? (keyIs k)).map Prod.fst = findW (rs.map Prod.fst) k := by
  unfold findW; rw [List.find?_map]; rfl
def casW (o : Option Rw) (x : Ak) : Bool := match o with
  | none => x.new
  | some r => !x.new && (r.val.toList == x.old.toList)
theorem casB_eq (o : Option (Rw × Nat)) (x : Ak) : casB o x = casW (o.map Prod.fst) x := by cases o <;> rfl
/-- What an ask would change. -/
def chgW (l : List Rw) (x : Ak) : List Ch :=
  if x.kind = 1 then [⟨x.key, x.val, false⟩] else if x.kind = 2 then [⟨x.key, ⟨#[]⟩, true⟩] else if x.kind = 4 then x.chs else if x.kind = 3 then (if casW (findW l x.key) x = true then [⟨x.key, x.val, false⟩] else []) else []
theorem chgL_eq (rs : List (Rw × Nat)) (x : Ak) (h : x.okB = true) : chgL rs x = chgW (rs.map Prod.fst) x := by
  unfold chgL chgW
  rw [if_pos h, casB_eq, find_fst]
def keptP (x : Ak) : Prop := x.kind ≠ 5 ∧ x.kind ≠ 6
instance (x : Ak) : Decidable (keptP x) := by unfold keptP; infer_instance
/-- What an ask is answered: yes? which rows? -/
def yesW (l : List Rw) (x : Ak) : Bool := if x.kind = 1 ∨ x.kind = 4 then true else if x.kind = 2 ∨ x.kind = 5 then (findW l x.key).isSome else if x.kind = 3 then casW (findW l x.key) x else false
def rowsW (l : List Rw) (x : Ak) : List Rw := if x.kind = 5 then (findW l x.key).toList else if x.kind = 6 then scanL x l else []
def Md.act (m : Md) (c n : Nat) (x : Ak) : Md := ⟨chsW m.rows (chgW m.rows x), if keptP x then m.sd.set c ⟨n, 0, yesW m.rows x⟩ else m.sd⟩
def Md.num (m : Md) (c : Nat) : Nat := (m.sd.getD c ⟨0, 0, false⟩).num
theorem rowsW_kept {l : List Rw} {x : Ak} (h : keptP x) : rowsW l x = [] := by unfold rowsW; rw [if_neg h.1, if_neg h.2]
theorem ok_kind {x : Ak} (h : x.okB = true) : x.kind = 1 ∨ x.kind = 2 ∨ x.kind = 3 ∨ x.kind = 4 ∨ x.kind = 5 ∨ x.kind = 6 := by
  unfold Ak.okB at h
  by_cases h1 : x.kind = 1; · exact .inl h1
  by_cases h2 : x.kind = 2; · exact .inr (.inl h2)
  by_cases h3 : x.kind = 3; · exact .inr (.inr (.inl h3))
  by_cases h4 : x.kind = 4; · exact .inr (.inr (.inr (.inl h4)))
  by_cases h5 : x.kind = 5; · exact .inr (.inr (.inr (.inr (.inl h5))))
  by_cases h6 : x.kind = 6; · exact .inr (.inr (.inr (.inr (.inr h6))))
  rw [if_neg h1, if_neg h3, if_neg h4, if_neg h6, if_neg h2, if_neg h5] at h; cases h
/-- All keys and values of the rows are as small as may be. -/
def smallR (l : List Rw) : Prop := ∀ r ∈ l, keyB r.key = true ∧ valB r.val = true
def sortR (l : List Rw) : Prop := l.Pairwise fun p q => bytesBefore p.key.data.toList q.key.data.toList = true
theorem insW_mem {x p : Rw} : ∀ {l : List Rw}, p ∈ insW x l → p = x ∨ p ∈ l
  | [], h => by simp [insW] at h; exact .inl h
  | y :: r, h => by
    unfold insW at h
    split at h
    · rcases List.mem_cons.1 h with h | h
      · exact .inl h
      · exact .inr h
    · rcases List.mem_cons.1 h with h | h
      · exact .inr (by rw [h]; exact List.mem_cons_self ..)
      · rcases insW_mem h with h | h
        · exact .inl h
        · exact .inr (List.mem_cons_of_mem _ h)
theorem insW_length (x : Rw) : ∀ l : List Rw, (insW x l).length = l.length + 1
  | [] => rfl
  | y :: r => by unfold insW; split <;> simp [insW_length x r]
theorem chW_length (l : List Rw) (c : Ch) : (chW l c).length ≤ l.length + 1 := by
  unfold chW delW putW
  have := List.length_filter_le (fun r : Rw => !(r.key.data.toList == c.key.data.toList)) l
  split
  · omega
  · rw [insW_length]; omega
theorem chsW_length : ∀ (cs : List Ch) (l : List Rw), (chsW l cs).length ≤ l.length + cs.length
  | [], l => by simp [chsW]
  | c :: cs, l => by
    have h1 := chW_length l c
    have h2 := chsW_length cs (chW l c)
    unfold chsW at *
    rw [List.foldl_cons, List.length_cons]; omega
theorem chW_small {l : List Rw} {c : Ch} (h : smallR l) (hc : c.okB = true) : smallR (chW l c) := by
  intro r hr
  unfold chW at hr
  split at hr
  · exact h r (List.mem_filter.1 hr).1
  · rcases insW_mem hr with rfl | hr
    · unfold Ch.okB at hc
      simp only [Bool.and_eq_true] at hc
      exact ⟨hc.1, hc.2.1⟩
    · exact h r (List.mem_filter.1 hr).1
theorem chsW_small : ∀ {cs : List Ch} {l : List Rw}, smallR l → (∀ c ∈ cs, c.okB = true) → smallR (chsW l cs)
  | [], _, h, _ => h
  | c :: cs, l, h, hc => by
    have := chsW_small (cs := cs) (chW_small h (hc c (List.mem_cons_self ..))) (fun d hd => hc d (List.mem_cons_of_mem _ hd))
    unfold chsW at *
    exact this
theorem chg_ok {l : List Rw} {x : Ak} (h : x.okB = true) : (∀ c ∈ chgW l x, c.okB = true) ∧ (chgW l x).length ≤ 16 := by
  have hk := ok_kind h
  unfold Ak.okB at h
  unfold chgW
  rcases hk with k | k | k | k | k | k
  all_goals simp only [k] at h ⊢
  all_goals simp at h ⊢
  · unfold Ak.putB at h
    simp only [Bool.and_eq_true] at h
    unfold Ch.okB
    simp [h.1, h.2.1]
  · unfold Ak.plainB at h
    simp only [Bool.and_eq_true] at h
    unfold Ch.okB
    simp only [h.1, Bool.true_and, Bool.not_true, Bool.false_or, Bool.and_eq_true]
    exact ⟨by rfl, (empty_iff _).2 rfl⟩
  · unfold Ak.casB at h
    simp only [Bool.and_eq_true] at h
    unfold Ch.okB
    refine ⟨fun _ => by simp [h.1, h.2.1], ?_⟩
    split <;> simp
  · unfold Ak.batchB at h
    simp only [Bool.and_eq_true, decide_eq_true_eq] at h
    refine ⟨fun c hc => List.all_eq_true.1 (show x.chs.all Ch.okB = true from h.2.2.2.1) c hc, h.2.2.1⟩
/-- A state that one may meet: its rows rise and are small; there are nine places. -/
structure Md.good (m : Md) : Prop where
  small : smallR m.rows
  len : m.sd.length = 9
theorem Md.good.act {m : Md} (h : m.good) (c n : Nat) {x : Ak} (hx : x.okB = true) : (m.act c n x).good := by
  refine ⟨chsW_small h.small (chg_ok hx).1, ?_⟩
  unfold Md.act
  simp only
  split
  · rw [List.length_set]; exact h.len
  · exact h.len
theorem Md.act_length (m : Md) (c n : Nat) {x : Ak} (hx : x.okB = true) : (m.act c n x).rows.length ≤ m.rows.length + 16 := by
  have h1 := chsW_length (chgW m.rows x) m.rows
  have h2 := (chg_ok (l := m.rows) hx).2
  unfold Md.act
  simp only
  omega
theorem keyB_size {k : ByteArray} (h : keyB k = true) : 1 ≤ k.size ∧ k.size ≤ 24 := of_decide_eq_true h
theorem valB_size {k : ByteArray} (h : valB k = true) : k.size ≤ 256 := of_decide_eq_true h
/-- A state in memory that holds m; its map's block is mb. -/
def StM (w0 w : World) (st mb : Nat) (m : Md) : Prop := ∃ rs, StX w0 w st rs m.sd ∧ rs.map Prod.fst = m.rows ∧ w.cell? ⟨st, 0, none⟩ = some (.map (some mb))
theorem StM.ground {w0 w : World} {st mb : Nat} {m : Md} (h : StM w0 w st mb m) : Ext w0 w := by obtain ⟨rs, h, _⟩ := h; exact h.1
theorem StM.ext {w0 w w' : World} {st mb : Nat} {m : Md} (h : StM w0 w st mb m) (he : Ext w w') : StM w0 w' st mb m := by
  obtain ⟨rs, h1, h2, h3⟩ := h
  exact ⟨rs, h1.ext he, h2, he.cell h3⟩
theorem StX.past {w0 w1 w : World} {st : Nat} {rs : List (Rw × Nat)} {sd : List Sv} (h : StX w1 w st rs sd) (he : Ext w0 w1) : StX w0 w st rs sd := by
  obtain ⟨h0, h1, mb, ⟨h2, h3, h4⟩, h5, h6, h7, h8⟩ := h
  have hs := he.size
  exact ⟨he.trans h0, h1, mb, ⟨h2, by omega, fun p hp => ⟨by have := (h4 p hp).1; omega, (h4 p hp).2⟩⟩, by omega, h6, h7, h8⟩
theorem StM.past {w0 w1 w : World} {st mb : Nat} {m : Md} (h : StM w1 w st mb m) (he : Ext w0 w1) : StM w0 w st mb m := by
  obtain ⟨rs, h1, h2, h3⟩ := h
  exact ⟨rs, h1.past he, h2, h3⟩
theorem StM.at {w0 w : World} {st mb : Nat} {m : Md} (h : StM w0 w st mb m) : w0.heap.size ≤ st ∧ w0.heap.size ≤ mb ∧ st < w.heap.size ∧ mb < w.heap.size ∧ st ≠ mb ∧ w.heap[st]? = some (.cells (stRow mb m.sd) 96 (0, 0)) ∧ ∃ es cl, w.heap[mb]? = some (.map es cl) := by
  obtain ⟨rs, ⟨h0, h1, mb', h2, h3, h4, h5, h6⟩, _, hc⟩ := h
  rw [cell_of_row _ _ 0 _ 96 (0, 0) h6] at hc
  obtain rfl : mb = mb' := by simpa [stRow] using hc.symm
  obtain ⟨es, cl, hb, _⟩ := h2.1
  exact ⟨h3, h2.2.1, (Array.getElem?_eq_some_iff.1 h6).1, (Array.getElem?_eq_some_iff.1 hb).1, h4, h6, es, cl, hb⟩
theorem StM.sort {w0 w : World} {st mb : Nat} {m : Md} (h : StM w0 w st mb m) : sortR m.rows := by
  obtain ⟨rs, ⟨_, _, mb', h2, _⟩, e, _⟩ := h
  rw [← e]
  unfold sortR
  rw [List.pairwise_map]
  exact h2.rise
theorem StM.len {w0 w : World} {st mb : Nat} {m : Md} (h : StM w0 w st mb m) : m.sd.length = 9 := by obtain ⟨rs, h1, _⟩ := h; exact h1.2.1
/-- A state stays while another one is turned. -/
theorem StM.off {w0 w w' : World} {st mb st' mb' : Nat} {m m' : Md} (h : StM w0 w st mb m) (h' : StM w0 w st' mb' m') (h1 : st ≠ st') (h2 : mb ≠ mb') (ho : OffB (fun i => i = st' ∨ i = mb') w w') : StM w0 w' st mb m := by
  obtain ⟨a1, a2, a3, a4, a5, a6, es', cl', a7⟩ := h'.at
  obtain ⟨b1, b2, b3, b4, b5, b6, es, cl, b7⟩ := h.at
  obtain ⟨rs, ⟨c0, c1, mb2, c2, c3, c4, c5, c6⟩, c7, c8⟩ := h
  have hc := c8
  rw [cell_of_row _ _ 0 _ 96 (0, 0) c6] at hc
  obtain rfl : mb = mb2 := by simpa [stRow] using hc.symm
  have n1 : st ≠ mb' := fun e => by rw [e, a7] at b6; cases b6
  have n2 : mb ≠ st' := fun e => by rw [e, a6] at b7; cases b7
  have n3 : ∀ p ∈ rs, p.2 ≠ st' ∧ p.2 ≠ mb' := fun p hp => by
    have h := (c2.2.2 p hp).2.2
    refine ⟨fun e => ?_, fun e => ?_⟩
    · rw [e, a6] at h
      injection h with h; injection h with _ h; cases h
    · rw [e, a7] at h; cases h
  have e1 := ho.block st b3 (by omega)
  have e2 := ho.block mb b4 (by omega)
  refine ⟨rs, ⟨?_, c1, mb, ⟨?_, c2.2.1, fun p hp => ?_⟩, c3, c4, c5, e1.trans c6⟩, c7, ?_⟩
  · exact Below.trans c0 (ho.below (fun k hk => by rcases hk with rfl | rfl <;> omega) c0.size)
  · obtain ⟨es2, cl2, d1, d2⟩ := c2.1
    exact ⟨es2, cl2, e2.trans d1, d2⟩
  · obtain ⟨d1, d2, d3⟩ := c2.2.2 p hp
    exact ⟨d1, d2, (ho.block p.2 (Array.getElem?_eq_some_iff.1 d3).1 (by have := n3 p hp; omega)).trans d3⟩
  · rw [cell_of_row _ _ 0 _ 96 (0, 0) (e1.trans c6)]; rfl
end Go.Proofs.YthageoibkeebhaaGreatDoor

/- Rows by their keys: what is found in rows behind changes; rows that rise are told by what is found in them. No condition. -/
namespace Go.Proofs.YthageoibkeebhaaGreatDoor
open Go.RowKit
theorem ba_data {a b : ByteArray} (h : a.data.toList = b.data.toList) : a = b := by
  obtain ⟨⟨a⟩⟩ := a; obtain ⟨⟨b⟩⟩ := b
  simp only at h
  rw [h]
theorem isK_iff {k : ByteArray} {r : Rw} : isK k r = true ↔ r.key = k := by
  unfold isK
  rw [beq_iff_eq]
  exact ⟨ba_data, fun h => by rw [h]⟩
theorem isK_false {k : ByteArray} {r : Rw} : isK k r = false ↔ r.key ≠ k := by
  rw [← Bool.not_eq_true, Ne, isK_iff]
theorem find_insW (x : Rw) (k : ByteArray) : ∀ l : List Rw, (∀ r ∈ l, r.key ≠ x.key) → findW (insW x l) k = if x.key = k then some x else findW l k
  | [], _ => by
    unfold insW findW
    rw [List.find?_cons]
    by_cases h : x.key = k
    · rw [isK_iff.2 h, if_pos h]
    · rw [isK_false.2 h, if_neg h]
  | y :: r, hl => by
    have ih := find_insW x k r (fun z hz => hl z (List.mem_cons_of_mem _ hz))
    have hy := hl y (List.mem_cons_self ..)
    unfold insW
    unfold findW at *
    split
    · rw [List.find?_cons]
      by_cases h : x.key = k
      · rw [isK_iff.2 h, if_pos h]
      · rw [isK_false.2 h, if_neg h]
    · rw [List.find?_cons, ih, List.find?_cons]
      by_cases h : x.key = k
      · have : y.key ≠ k := fun e => hy (e.trans h.symm)
        rw [isK_false.2 this, if_pos h]
      · rw [if_neg h, if_neg h]
theorem find_filter (k k' : ByteArray) : ∀ l : List Rw, findW (l.filter fun r => !(r.key.data.toList == k.data.toList)) k' = if k = k' then none else findW l k'
  | [] => by unfold findW; simp
  | y :: r => by
    have ih := find_filter k k' r
    unfold findW at *
    have e : (y.key.data.toList == k.data.toList) = isK k y := rfl
    rw [List.filter_cons, e, List.find?_cons]
    by_cases hy : y.key = k
    · rw [isK_iff.2 hy]
      simp only [Bool.not_true, Bool.false_eq_true, if_false]
      rw [ih]
      by_cases h : k = k'
      · rw [if_pos h, if_pos h]
      · rw [if_neg h, if_neg h, isK_false.2 (fun e => h (hy.symm.trans e))]
    · rw [isK_false.2 hy]
      simp only [Bool.not_false, if_true]
      rw [List.find?_cons, ih]
      by_cases h : k = k'
      · rw [if_pos h, if_pos h, isK_false.2 (fun e => hy (e.trans h.symm))]
      · rw [if_neg h, if_neg h]
theorem find_del (l : List Rw) (k k' : ByteArray) : findW (delW l k) k' = if k = k' then none else findW l k' := find_filter k k' l
theorem filter_ne {l : List Rw} {k : ByteArray} : ∀ r ∈ l.filter (fun r => !(r.key.data.toList == k.data.toList)), r.key ≠ k := by
  intro r hr
  have := (List.mem_filter.1 hr).2
  have e : (r.key.data.toList == k.data.toList) = isK k r := rfl
  rw [e, Bool.not_eq_true'] at this
  exact isK_false.1 this
theorem find_put (l : List Rw) (k v k' : ByteArray) : findW (putW l k v) k' = if k = k' then some ⟨k, v⟩ else findW l k' := by
  unfold putW
  rw [find_insW _ _ _ filter_ne, find_filter]
  by_cases h : k = k'
  · rw [if_pos h, if_pos h]
  · rw [if_neg h, if_neg h, if_neg h]
theorem find_ch (l : List Rw) (c : Ch) (k : ByteArray) : findW (chW l c) k = if c.key = k then (if c.gone then none else some ⟨c.key, c.val⟩) else findW l k := by
  unfold chW
  cases c.gone
  · simp only [Bool.false_eq_true, if_false]; exact find_put ..
  · simp only [if_true]; exact find_del ..
theorem find_chs_out : ∀ (cs : List Ch) (l : List Rw) (k : ByteArray), (∀ c ∈ cs, c.key ≠ k) → findW (chsW l cs) k = findW l k
  | [], _, _, _ => rfl
  | c :: cs, l, k, h => by
    have := find_chs_out cs (chW l c) k (fun d hd => h d (List.mem_cons_of_mem _ hd))
    unfold chsW at *
    rw [List.foldl_cons, this, find_ch, if_neg (h c (List.mem_cons_self ..))]
/-- What is found behind changes hangs on what was found there before. -/
theorem find_chs_congr : ∀ (cs : List Ch) (l l' : List Rw) (k : ByteArray), findW l k = findW l' k → findW (chsW l cs) k = findW (chsW l' cs) k
  | [], _, _, _, h => h
  | c :: cs, l, l', k, h => by
    have := find_chs_congr cs (chW l c) (chW l' c) k (by rw [find_ch, find_ch, h])
    unfold chsW at *
    exact this
theorem find_none {l : List Rw} {k : ByteArray} (h : findW l k = none) : ∀ r ∈ l, r.key ≠ k := fun r hr => by
  unfold findW at h
  rw [List.find?_eq_none] at h
  exact isK_false.1 (by simpa using h r hr)
theorem find_key' {l : List Rw} {k : ByteArray} {r : Rw} (h : findW l k = some r) : r.key = k ∧ r ∈ l := ⟨isK_iff.1 (List.find?_some h), List.mem_of_find?_eq_some h⟩
theorem before_irrefl (a : List UInt8) : bytesBefore a a ≠ true := by rw [Go.WideAt.bytes_irrefl]; simp
/-- Rows that rise are one if the same is found in them. -/
theorem rows_ext : ∀ {l l' : List Rw}, sortR l → sortR l' → (∀ k, findW l k = findW l' k) → l = l'
  | [], [], _, _, _ => rfl
  | [], y :: r, _, _, h => by
    have := h y.key
    unfold findW at this
    rw [List.find?_cons, isK_iff.2 rfl] at this; cases this
  | x :: r, [], _, _, h => by
    have := h x.key
    unfold findW at this
    rw [List.find?_cons, isK_iff.2 rfl] at this; cases this
  | x :: r, y :: s, h1, h2, h => by
    have a1 := List.pairwise_cons.1 h1
    have a2 := List.pairwise_cons.1 h2
    have hx := h x.key
    have hy := h y.key
    have fx : findW (x :: r) x.key = some x := by unfold findW; rw [List.find?_cons, isK_iff.2 rfl]
    have fy : findW (y :: s) y.key = some y := by unfold findW; rw [List.find?_cons, isK_iff.2 rfl]
    have hxy : x = y := by
      rw [fx] at hx
      rw [fy] at hy
      rcases List.mem_cons.1 (find_key' hx.symm).2 with e | e
      · exact e
      · rcases List.mem_cons.1 (find_key' hy).2 with e' | e'
        · exact e'.symm
        · have b1 := a2.1 x e
          have b2 := a1.1 y e'
          exact absurd (Go.WideShapes.bytes_trans _ _ _ b1 b2) (before_irrefl _)
    subst hxy
    refine congrArg (x :: ·) (rows_ext a1.2 a2.2 fun k => ?_)
    by_cases hk : x.key = k
    · have g1 : findW r k = none := by
        unfold findW
        rw [List.find?_eq_none]
        intro z hz
        have := a1.1 z hz
        rw [isK_iff]
        intro e
        rw [e, ← hk] at this
        exact before_irrefl _ this
      have g2 : findW s k = none := by
        unfold findW
        rw [List.find?_eq_none]
        intro z hz
        have := a2.1 z hz
        rw [isK_iff]
        intro e
        rw [e, ← hk] at this
        exact before_irrefl _ this
      rw [g1, g2]
    · have := h k
      unfold findW at this ⊢
      rw [List.find?_cons, List.find?_cons, isK_false.2 hk] at this
      exact this
theorem filter_ins {p : Rw → Bool} {x : Rw} (h : p x = false) : ∀ l : List Rw, (insW x l).filter p = l.filter p
  | [] => by unfold insW; simp [h]
  | y :: r => by
    unfold insW
    split
    · rw [List.filter_cons, h]; rfl
    · rw [List.filter_cons, List.filter_cons, filter_ins h r]
theorem del_put (l : List Rw) (k v : ByteArray) : delW (putW l k v) k = delW l k := by
  unfold delW putW
  rw [filter_ins (by simp), List.filter_filter]
  simp
theorem del_del (l : List Rw) (k : ByteArray) : delW (delW l k) k = delW l k := by
  unfold delW
  rw [List.filter_filter]; simp
end Go.Proofs.YthageoibkeebhaaGreatDoor

/- A scan is two scans, parted at a key; rows made of rows that rise are those. No condition. -/
namespace Go.Proofs.YthageoibkeebhaaGreatDoor
open Go.RowKit
theorem less_eq : ∀ (a b : List UInt8), Op.bytesLess a b = bytesBefore a b
  | [], [] => rfl
  | _ :: _, [] => rfl
  | [], _ :: _ => rfl
  | a :: x, b :: y => by unfold Op.bytesLess bytesBefore; rw [less_eq x y]
/-- Keys stand in an order. -/
def ltK (a b : ByteArray) : Prop := bytesBefore a.data.toList b.data.toList = true
theorem ltK_less {a b : ByteArray} : Op.bytesLess a.toList b.toList = true ↔ ltK a b := by unfold ltK; rw [less_eq, ByteArray.toList_eq, ByteArray.toList_eq]
theorem ltK_not {a b : ByteArray} : Op.bytesLess a.toList b.toList = false ↔ ¬ ltK a b := by rw [← ltK_less, Bool.not_eq_true]
theorem ltK_irr (a : ByteArray) : ¬ ltK a a := before_irrefl _
theorem ltK_trans {a b c : ByteArray} (h : ltK a b) (k : ltK b c) : ltK a c := Go.WideShapes.bytes_trans _ _ _ h k
theorem ltK_total {a b : ByteArray} (h : ¬ a = b) : ltK a b ∨ ltK b a := Go.WideAt.bytes_total _ _ (fun e => h (ba_data e))
theorem eqK {a b : ByteArray} : (a.toList == b.toList) = true ↔ a = b := by
  rw [beq_iff_eq, ByteArray.toList_eq, ByteArray.toList_eq]
  exact ⟨ba_data, fun h => by rw [h]⟩
theorem inR_iff (x : Ak) (r : Rw) : inR x r = true ↔ ¬ ltK r.key x.key ∧ ¬ ltK x.to r.key := by
  unfold inR
  rw [Bool.and_eq_true, Bool.not_eq_true', ltK_not, Bool.or_eq_true, ltK_less, eqK]
  refine and_congr_right fun _ => ⟨fun h k => ?_, fun h => ?_⟩
  · rcases h with h | h
    · exact ltK_irr _ (ltK_trans h k)
    · rw [h] at k; exact ltK_irr _ k
  · by_cases e : r.key = x.to
    · exact .inr e
    · rcases ltK_total e with h1 | h1
      · exact .inl h1
      · exact absurd h1 h
def notAt (k : ByteArray) (r : Rw) : Bool := !(r.key.toList == k.toList)
theorem notAt_iff {k : ByteArray} {r : Rw} : notAt k r = true ↔ r.key ≠ k := by unfold notAt; rw [Bool.not_eq_true', ← Bool.not_eq_true, eqK]
theorem filter_congr' {p q : Rw → Bool} : ∀ {l : List Rw}, (∀ r ∈ l, p r = q r) → l.filter p = l.filter q := fun h => List.filter_congr h
/-- A scan from a to c is the one from a to b, and the one from b to c less b's row. -/
theorem scan_parts (xa xb xc : Ak) (h1 : xb.key = xa.key) (h2 : xb.to = xc.key) (h3 : xc.to = xa.to) (ha : ¬ ltK xb.to xa.key) (hb : ¬ ltK xa.to xb.to) : ∀ (l : List Rw), sortR l →
    l.filter (inR xa) = l.filter (inR xb) ++ (l.filter (inR xc)).filter (notAt xb.to)
  | [], _ => rfl
  | r :: l, hs => by
    have hc := List.pairwise_cons.1 hs
    have ih := scan_parts xa xb xc h1 h2 h3 ha hb l hc.2
    by_cases hr : ltK xb.to r.key
    · -- all of them stand behind b
      have hall : ∀ q ∈ r :: l, ltK xb.to q.key := by
        intro q hq
        rcases List.mem_cons.1 hq with rfl | hq
        · exact hr
        · exact ltK_trans hr (hc.1 q hq)
      have e1 : (r :: l).filter (inR xb) = [] := by
        rw [List.filter_eq_nil_iff]
        intro q hq
        rw [inR_iff]
        exact fun h => h.2 (hall q hq)
      rw [e1, List.nil_append, List.filter_filter]
      refine filter_congr' fun q hq => ?_
      have hq := hall q hq
      rw [Bool.eq_iff_iff, Bool.and_eq_true, inR_iff, inR_iff, notAt_iff, h3, ← h2]
      constructor
      · rintro ⟨_, b⟩
        exact ⟨fun e => by rw [e] at hq; exact ltK_irr _ hq, fun k => ltK_irr _ (ltK_trans hq k), b⟩
      · rintro ⟨_, _, b⟩
        refine ⟨fun k => ?_, b⟩
        exact ha (ltK_trans hq k)
    · -- the first one stands at b, or ahead
      have e1 : inR xa r = inR xb r := by
        rw [Bool.eq_iff_iff, inR_iff, inR_iff, h1]
        refine and_congr_right fun _ => ⟨fun _ => hr, fun _ k => ?_⟩
        by_cases e : xa.to = xb.to
        · rw [e] at k; exact hr k
        · rcases ltK_total e with c | c
          · exact hb c
          · exact hr (ltK_trans c k)
      have e2 : ((r :: l).filter (inR xc)).filter (notAt xb.to) = (l.filter (inR xc)).filter (notAt xb.to) := by
        rw [List.filter_filter, List.filter_filter, List.filter_cons]
        rw [if_neg ?_]
        rw [Bool.and_eq_true, notAt_iff, inR_iff, ← h2]
        rintro ⟨a, b, _⟩
        rcases ltK_total a with c | c
        · exact b c
        · exact hr c
      rw [e2, List.filter_cons, List.filter_cons, ← e1, ih]
      split <;> rfl
theorem insW_last {x : Rw} : ∀ {l : List Rw}, (∀ r ∈ l, ltK r.key x.key) → insW x l = l ++ [x]
  | [], _ => rfl
  | y :: r, h => by
    unfold insW
    have h1 := h y (List.mem_cons_self ..)
    rw [if_neg (show ¬ bytesBefore x.key.data.toList y.key.data.toList = true from fun h2 => ltK_irr _ (ltK_trans h1 h2)), insW_last (fun q hq => h q (List.mem_cons_of_mem _ hq))]
    rfl
theorem putW_last {l : List Rw} {k v : ByteArray} (h : ∀ r ∈ l, ltK r.key k) : putW l k v = l ++ [⟨k, v⟩] := by
  unfold putW
  rw [List.filter_eq_self.2, insW_last h]
  intro r hr
  rw [Bool.not_eq_true', show (r.key.data.toList == k.data.toList) = isK k r from rfl, isK_false]
  intro e
  have := h r hr
  rw [e] at this
  exact ltK_irr _ this
theorem find_last {l : List Rw} {k : ByteArray} (h : ∀ r ∈ l, ltK r.key k) : findW l k = none := by
  unfold findW
  rw [List.find?_eq_none]
  intro r hr
  rw [isK_iff]
  intro e
  have := h r hr
  rw [e] at this
  exact ltK_irr _ this
end Go.Proofs.YthageoibkeebhaaGreatDoor
