/- A state as a plain thing (Md): its rows, and who said what last; what an ask makes of it; a state in memory that holds one (StM). No condition. -/
import Derived.Test.YtmjoaiepfipmaaaMod10
import Derived.Test.YtmjoaiepfipmaaaMod5
namespace Go.Proofs.Ytmjoaiepfipmaaa
open Go.RowKit Go.Maps Go.WideMaps
set_option maxRecDepth 100000
structure Md where
  rows : List Rw
  sd : List Sv
def isK (k : ByteArray) (r : Rw) : Bool := r.key.data.toList == k.data.toList
def findW (l : List Rw) (k : ByteArray) : Option Rw := l.find? (isK k)
theorem find_fst (rs : List (Rw × Nat)) (k : ByteArray) : (rs.find? (keyIs k)).map Prod.fst = findW (rs.map Prod.fst) k := by
  unfold findW; rw [List.find?_map]; rfl
def casW (o : Option Rw) (x : Ak) : Bool := match o with
  | none => x.new
  | some r => !x.new && (r.val.toList == x.old.toList)
theorem casB_eq (o : Option (Rw × Nat)) (x : Ak) : casB o x = casW (o.map Prod.fst) x := by cases o <;> rfl
/-- What an ask would change. -/
def chgW (l : List Rw) (x : Ak) : List Ch :=
  if x.kind = 1 then [⟨x.key, x.val, false⟩] else if x.kind = 2 then [⟨x.key, ⟨#[]⟩, true⟩] else if x.kind = 4 then x.chs else if x.kind = 3 then (if casW (findW l x.key) x = true then [⟨x.key, x.val, false⟩] else []) else []
theorem chgL_eq (rs : List (Rw × Nat)) (x : Ak) (h : x.okB = true) : chgL rs x = chgW (rs.map Prod.fst) x := by
  unfold chgL chgW
  rw [if_pos h, casB_eq, find_fst]
def keptP (x : Ak) : Prop := x.kind ≠ 5 ∧ x.kind ≠ 6
instance (x : Ak) : Decidable (keptP x) := by unfold keptP; infer_instance
/-- What an ask is answered: yes? which rows? -/
def yesW (l : List Rw) (x : Ak) : Bool := if x.kind = 1 ∨ x.kind = 4 then true else if x.kind = 2 ∨ x.kind = 5 then (findW l x.key).isSome else if x.kind = 3 then casW (findW l x.key) x else false
def rowsW (l : List Rw) (x : Ak) : List Rw := if x.kind = 5 then (findW l x.key).toList else if x.kind = 6 then scanL x l else []
def Md.act (m : Md) (c n : Nat) (x : Ak) : Md := ⟨chsW m.rows (chgW m.rows x), if keptP x then m.sd.set c ⟨n, 0, yesW m.rows x⟩ else m.sd⟩
def Md.num (m : Md) (c : Nat) : Nat := (m.sd.getD c ⟨0, 0, false⟩).num
theorem rowsW_kept {l : List Rw} {x : Ak} (h : keptP x) : rowsW l x = [] := by unfold rowsW; rw [if_neg h.1, if_neg h.2]
theorem ok_kind {x : Ak} (h : x.okB = true) : x.kind = 1 ∨ x.kind = 2 ∨ x.kind = 3 ∨ x.kind = 4 ∨ x.kind = 5 ∨ x.kind = 6 := by
  unfold Ak.okB at h
  by_cases h1 : x.kind = 1; · exact .inl h1
  by_cases h2 : x.kind = 2; · exact .inr (.inl h2)
  by_cases h3 : x.kind = 3; · exact .inr (.inr (.inl h3))
  by_cases h4 : x.kind = 4; · exact .inr (.inr (.inr (.inl h4)))
  by_cases h5 : x.kind = 5; · exact .inr (.inr (.inr (.inr (.inl h5))))
  by_cases h6 : x.kind = 6; · exact .inr (.inr (.inr (.inr (.inr h6))))
  rw [if_neg h1, if_neg h3, if_neg h4, if_neg h6, if_neg h2, if_neg h5] at h; cases h
/-- All keys and values of the rows are as small as may be. -/
def smallR (l : List Rw) : Prop := ∀ r ∈ l, keyB r.key = true ∧ valB r.val = true
def sortR (l : List Rw) : Prop := l.Pairwise fun p q => bytesBefore p.key.data.toList q.key.data.toList = true
theorem insW_mem {x p : Rw} : ∀ {l : List Rw}, p ∈ insW x l → p = x ∨ p ∈ l
  | [], h => by simp [insW] at h; exact .inl h
  | y :: r, h => by
    unfold insW at h
    split at h
    · rcases List.mem_cons.1 h with h | h
      · exact .inl h
      · exact .inr h
    · rcases List.mem_cons.1 h with h | h
      · exact .inr (by rw [h]; exact List.mem_cons_self ..)
      · rcases insW_mem h with h | h
        · exact .inl h
        · exact .inr (List.mem_cons_of_mem _ h)
theorem insW_length (x : Rw) : ∀ l : List Rw, (insW x l).length = l.length + 1
  | [] => rfl
  | y :: r => by unfold insW; split <;> simp [insW_length x r]
theorem chW_length (l : List Rw) (c : Ch) : (chW l c).length ≤ l.length + 1 := by
  unfold chW delW putW
  have := List.length_filter_le (fun r : Rw => !(r.key.data.toList == c.key.data.toList)) l
  split
  · omega
  · rw [insW_length]; omega
theorem chsW_length : ∀ (cs : List Ch) (l : List Rw), (chsW l cs).length ≤ l.length + cs.length
  | [], l => by simp [chsW]
  | c :: cs, l => by
    have h1 := chW_length l c
    have h2 := chsW_length cs (chW l c)
    unfold chsW at *
    rw [List.foldl_cons, List.length_cons]; omega
theorem chW_small {l : List Rw} {c : Ch} (h : smallR l) (hc : c.okB = true) : smallR (chW l c) := by
  intro r hr
  unfold chW at hr
  split at hr
  · exact h r (List.mem_filter.1 hr).1
  · rcases insW_mem hr with rfl | hr
    · unfold Ch.okB at hc
      simp only [Bool.and_eq_true] at hc
      exact ⟨hc.1, hc.2.1⟩
    · exact h r (List.mem_filter.1 hr).1
theorem chsW_small : ∀ {cs : List Ch} {l : List Rw}, smallR l → (∀ c ∈ cs, c.okB = true) → smallR (chsW l cs)
  | [], _, h, _ => h
  | c :: cs, l, h, hc => by
    have := chsW_small (cs := cs) (chW_small h (hc c (List.mem_cons_self ..))) (fun d hd => hc d (List.mem_cons_of_mem _ hd))
    unfold chsW at *
    exact this
theorem chg_ok {l : List Rw} {x : Ak} (h : x.okB = true) : (∀ c ∈ chgW l x, c.okB = true) ∧ (chgW l x).length ≤ 16 := by
  have hk := ok_kind h
  unfold Ak.okB at h
  unfold chgW
  rcases hk with k | k | k | k | k | k
  all_goals simp only [k] at h ⊢
  all_goals simp at h ⊢
  · unfold Ak.putB at h
    simp only [Bool.and_eq_true] at h
    unfold Ch.okB
    simp [h.1, h.2.1]
  · unfold Ak.plainB at h
    simp only [Bool.and_eq_true] at h
    unfold Ch.okB
    simp only [h.1, Bool.true_and, Bool.not_true, Bool.false_or, Bool.and_eq_true]
    exact ⟨by rfl, (empty_iff _).2 rfl⟩
  · unfold Ak.casB at h
    simp only [Bool.and_eq_true] at h
    unfold Ch.okB
    refine ⟨fun _ => by simp [h.1, h.2.1], ?_⟩
    split <;> simp
  · unfold Ak.batchB at h
    simp only [Bool.and_eq_true, decide_eq_true_eq] at h
    refine ⟨fun c hc => List.all_eq_true.1 (show x.chs.all Ch.okB = true from h.2.2.2.1) c hc, h.2.2.1⟩
/-- A state that one may meet: its rows rise and are small; there are nine places. -/
structure Md.good (m : Md) : Prop where
  small : smallR m.rows
  len : m.sd.length = 9
theorem Md.good.act {m : Md} (h : m.good) (c n : Nat) {x : Ak} (hx : x.okB = true) : (m.act c n x).good := by
  refine ⟨chsW_small h.small (chg_ok hx).1, ?_⟩
  unfold Md.act
  simp only
  split
  · rw [List.length_set]; exact h.len
  · exact h.len
theorem Md.act_length (m : Md) (c n : Nat) {x : Ak} (hx : x.okB = true) : (m.act c n x).rows.length ≤ m.rows.length + 16 := by
  have h1 := chsW_length (chgW m.rows x) m.rows
  have h2 := (chg_ok (l := m.rows) hx).2
  unfold Md.act
  simp only
  omega
theorem keyB_size {k : ByteArray} (h : keyB k = true) : 1 ≤ k.size ∧ k.size ≤ 24 := of_decide_eq_true h
theorem valB_size {k : ByteArray} (h : valB k = true) : k.size ≤ 256 := of_decide_eq_true h
/-- A state in memory that holds m; its map's block is mb. -/
def StM (w0 w : World) (st mb : Nat) (m : Md) : Prop := ∃ rs, StX w0 w st rs m.sd ∧ rs.map Prod.fst = m.rows ∧ w.cell? ⟨st, 0, none⟩ = some (.map (some mb))
theorem StM.ground {w0 w : World} {st mb : Nat} {m : Md} (h : StM w0 w st mb m) : Ext w0 w := by obtain ⟨rs, h, _⟩ := h; exact h.1
theorem StM.ext {w0 w w' : World} {st mb : Nat} {m : Md} (h : StM w0 w st mb m) (he : Ext w w') : StM w0 w' st mb m := by
  obtain ⟨rs, h1, h2, h3⟩ := h
  exact ⟨rs, h1.ext he, h2, he.cell h3⟩
theorem StX.past {w0 w1 w : World} {st : Nat} {rs : List (Rw × Nat)} {sd : List Sv} (h : StX w1 w st rs sd) (he : Ext w0 w1) : StX w0 w st rs sd := by
  obtain ⟨h0, h1, mb, ⟨h2, h3, h4⟩, h5, h6, h7, h8⟩ := h
  have hs := he.size
  exact ⟨he.trans h0, h1, mb, ⟨h2, by omega, fun p hp => ⟨by have := (h4 p hp).1; omega, (h4 p hp).2⟩⟩, by omega, h6, h7, h8⟩
theorem StM.past {w0 w1 w : World} {st mb : Nat} {m : Md} (h : StM w1 w st mb m) (he : Ext w0 w1) : StM w0 w st mb m := by
  obtain ⟨rs, h1, h2, h3⟩ := h
  exact ⟨rs, h1.past he, h2, h3⟩
theorem StM.at {w0 w : World} {st mb : Nat} {m : Md} (h : StM w0 w st mb m) : w0.heap.size ≤ st ∧ w0.heap.size ≤ mb ∧ st < w.heap.size ∧ mb < w.heap.size ∧ st ≠ mb ∧ w.heap[st]? = some (.cells (stRow mb m.sd) 37 (0, 0)) ∧ ∃ es cl, w.heap[mb]? = some (.map es cl) := by
  obtain ⟨rs, ⟨h0, h1, mb', h2, h3, h4, h5, h6⟩, _, hc⟩ := h
  rw [cell_of_row _ _ 0 _ 37 (0, 0) h6] at hc
  obtain rfl : mb = mb' := by simpa [stRow] using hc.symm
  obtain ⟨es, cl, hb, _⟩ := h2.1
  exact ⟨h3, h2.2.1, (Array.getElem?_eq_some_iff.1 h6).1, (Array.getElem?_eq_some_iff.1 hb).1, h4, h6, es, cl, hb⟩
theorem StM.sort {w0 w : World} {st mb : Nat} {m : Md} (h : StM w0 w st mb m) : sortR m.rows := by
  obtain ⟨rs, ⟨_, _, mb', h2, _⟩, e, _⟩ := h
  rw [← e]
  unfold sortR
  rw [List.pairwise_map]
  exact h2.rise
theorem StM.len {w0 w : World} {st mb : Nat} {m : Md} (h : StM w0 w st mb m) : m.sd.length = 9 := by obtain ⟨rs, h1, _⟩ := h; exact h1.2.1
/-- A state stays while another one is turned. -/
theorem StM.off {w0 w w' : World} {st mb st' mb' : Nat} {m m' : Md} (h : StM w0 w st mb m) (h' : StM w0 w st' mb' m') (h1 : st ≠ st') (h2 : mb ≠ mb') (ho : OffB (fun i => i = st' ∨ i = mb') w w') : StM w0 w' st mb m := by
  obtain ⟨a1, a2, a3, a4, a5, a6, es', cl', a7⟩ := h'.at
  obtain ⟨b1, b2, b3, b4, b5, b6, es, cl, b7⟩ := h.at
  obtain ⟨rs, ⟨c0, c1, mb2, c2, c3, c4, c5, c6⟩, c7, c8⟩ := h
  have hc := c8
  rw [cell_of_row _ _ 0 _ 37 (0, 0) c6] at hc
  obtain rfl : mb = mb2 := by simpa [stRow] using hc.symm
  have n1 : st ≠ mb' := fun e => by rw [e, a7] at b6; cases b6
  have n2 : mb ≠ st' := fun e => by rw [e, a6] at b7; cases b7
  have n3 : ∀ p ∈ rs, p.2 ≠ st' ∧ p.2 ≠ mb' := fun p hp => by
    have h := (c2.2.2 p hp).2.2
    refine ⟨fun e => ?_, fun e => ?_⟩
    · rw [e, a6] at h
      injection h with h; injection h with _ h; cases h
    · rw [e, a7] at h; cases h
  have e1 := ho.block st b3 (by omega)
  have e2 := ho.block mb b4 (by omega)
  refine ⟨rs, ⟨?_, c1, mb, ⟨?_, c2.2.1, fun p hp => ?_⟩, c3, c4, c5, e1.trans c6⟩, c7, ?_⟩
  · exact Below.trans c0 (ho.below (fun k hk => by rcases hk with rfl | rfl <;> omega) c0.size)
  · obtain ⟨es2, cl2, d1, d2⟩ := c2.1
    exact ⟨es2, cl2, e2.trans d1, d2⟩
  · obtain ⟨d1, d2, d3⟩ := c2.2.2 p hp
    exact ⟨d1, d2, (ho.block p.2 (Array.getElem?_eq_some_iff.1 d3).1 (by have := n3 p hp; omega)).trans d3⟩
  · rw [cell_of_row _ _ 0 _ 37 (0, 0) (e1.trans c6)]; rfl
end Go.Proofs.Ytmjoaiepfipmaaa
