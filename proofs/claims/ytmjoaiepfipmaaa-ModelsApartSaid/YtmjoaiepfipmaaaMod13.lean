/- A scan is two scans, parted at a key; rows made of rows that rise are those. No condition. -/
import Derived.Test.YtmjoaiepfipmaaaMod12
import Derived.WideAt
namespace Go.Proofs.Ytmjoaiepfipmaaa
open Go.RowKit
theorem less_eq : ∀ (a b : List UInt8), Op.bytesLess a b = bytesBefore a b
  | [], [] => rfl
  | _ :: _, [] => rfl
  | [], _ :: _ => rfl
  | a :: x, b :: y => by unfold Op.bytesLess bytesBefore; rw [less_eq x y]
/-- Keys stand in an order. -/
def ltK (a b : ByteArray) : Prop := bytesBefore a.data.toList b.data.toList = true
theorem ltK_less {a b : ByteArray} : Op.bytesLess a.toList b.toList = true ↔ ltK a b := by unfold ltK; rw [less_eq, ByteArray.toList_eq, ByteArray.toList_eq]
theorem ltK_not {a b : ByteArray} : Op.bytesLess a.toList b.toList = false ↔ ¬ ltK a b := by rw [← ltK_less, Bool.not_eq_true]
theorem ltK_irr (a : ByteArray) : ¬ ltK a a := before_irrefl _
theorem ltK_trans {a b c : ByteArray} (h : ltK a b) (k : ltK b c) : ltK a c := Go.WideShapes.bytes_trans _ _ _ h k
theorem ltK_total {a b : ByteArray} (h : ¬ a = b) : ltK a b ∨ ltK b a := Go.WideAt.bytes_total _ _ (fun e => h (ba_data e))
theorem eqK {a b : ByteArray} : (a.toList == b.toList) = true ↔ a = b := by
  rw [beq_iff_eq, ByteArray.toList_eq, ByteArray.toList_eq]
  exact ⟨ba_data, fun h => by rw [h]⟩
theorem inR_iff (x : Ak) (r : Rw) : inR x r = true ↔ ¬ ltK r.key x.key ∧ ¬ ltK x.to r.key := by
  unfold inR
  rw [Bool.and_eq_true, Bool.not_eq_true', ltK_not, Bool.or_eq_true, ltK_less, eqK]
  refine and_congr_right fun _ => ⟨fun h k => ?_, fun h => ?_⟩
  · rcases h with h | h
    · exact ltK_irr _ (ltK_trans h k)
    · rw [h] at k; exact ltK_irr _ k
  · by_cases e : r.key = x.to
    · exact .inr e
    · rcases ltK_total e with h1 | h1
      · exact .inl h1
      · exact absurd h1 h
def notAt (k : ByteArray) (r : Rw) : Bool := !(r.key.toList == k.toList)
theorem notAt_iff {k : ByteArray} {r : Rw} : notAt k r = true ↔ r.key ≠ k := by unfold notAt; rw [Bool.not_eq_true', ← Bool.not_eq_true, eqK]
theorem filter_congr' {p q : Rw → Bool} : ∀ {l : List Rw}, (∀ r ∈ l, p r = q r) → l.filter p = l.filter q := fun h => List.filter_congr h
/-- A scan from a to c is the one from a to b, and the one from b to c less b's row. -/
theorem scan_parts (xa xb xc : Ak) (h1 : xb.key = xa.key) (h2 : xb.to = xc.key) (h3 : xc.to = xa.to) (ha : ¬ ltK xb.to xa.key) (hb : ¬ ltK xa.to xb.to) : ∀ (l : List Rw), sortR l →
    l.filter (inR xa) = l.filter (inR xb) ++ (l.filter (inR xc)).filter (notAt xb.to)
  | [], _ => rfl
  | r :: l, hs => by
    have hc := List.pairwise_cons.1 hs
    have ih := scan_parts xa xb xc h1 h2 h3 ha hb l hc.2
    by_cases hr : ltK xb.to r.key
    · -- all of them stand behind b
      have hall : ∀ q ∈ r :: l, ltK xb.to q.key := by
        intro q hq
        rcases List.mem_cons.1 hq with rfl | hq
        · exact hr
        · exact ltK_trans hr (hc.1 q hq)
      have e1 : (r :: l).filter (inR xb) = [] := by
        rw [List.filter_eq_nil_iff]
        intro q hq
        rw [inR_iff]
        exact fun h => h.2 (hall q hq)
      rw [e1, List.nil_append, List.filter_filter]
      refine filter_congr' fun q hq => ?_
      have hq := hall q hq
      rw [Bool.eq_iff_iff, Bool.and_eq_true, inR_iff, inR_iff, notAt_iff, h3, ← h2]
      constructor
      · rintro ⟨_, b⟩
        exact ⟨fun e => by rw [e] at hq; exact ltK_irr _ hq, fun k => ltK_irr _ (ltK_trans hq k), b⟩
      · rintro ⟨_, _, b⟩
        refine ⟨fun k => ?_, b⟩
        exact ha (ltK_trans hq k)
    · -- the first one stands at b, or ahead
      have e1 : inR xa r = inR xb r := by
        rw [Bool.eq_iff_iff, inR_iff, inR_iff, h1]
        refine and_congr_right fun _ => ⟨fun _ => hr, fun _ k => ?_⟩
        by_cases e : xa.to = xb.to
        · rw [e] at k; exact hr k
        · rcases ltK_total e with c | c
          · exact hb c
          · exact hr (ltK_trans c k)
      have e2 : ((r :: l).filter (inR xc)).filter (notAt xb.to) = (l.filter (inR xc)).filter (notAt xb.to) := by
        rw [List.filter_filter, List.filter_filter, List.filter_cons]
        rw [if_neg ?_]
        rw [Bool.and_eq_true, notAt_iff, inR_iff, ← h2]
        rintro ⟨a, b, _⟩
        rcases ltK_total a with c | c
        · exact b c
        · exact hr c
      rw [e2, List.filter_cons, List.filter_cons, ← e1, ih]
      split <;> rfl
theorem insW_last {x : Rw} : ∀ {l : List Rw}, (∀ r ∈ l, ltK r.key x.key) → insW x l = l ++ [x]
  | [], _ => rfl
  | y :: r, h => by
    unfold insW
    have h1 := h y (List.mem_cons_self ..)
    rw [if_neg (show ¬ bytesBefore x.key.data.toList y.key.data.toList = true from fun h2 => ltK_irr _ (ltK_trans h1 h2)), insW_last (fun q hq => h q (List.mem_cons_of_mem _ hq))]
    rfl
theorem putW_last {l : List Rw} {k v : ByteArray} (h : ∀ r ∈ l, ltK r.key k) : putW l k v = l ++ [⟨k, v⟩] := by
  unfold putW
  rw [List.filter_eq_self.2, insW_last h]
  intro r hr
  rw [Bool.not_eq_true', show (r.key.data.toList == k.data.toList) = isK k r from rfl, isK_false]
  intro e
  have := h r hr
  rw [e] at this
  exact ltK_irr _ this
theorem find_last {l : List Rw} {k : ByteArray} (h : ∀ r ∈ l, ltK r.key k) : findW l k = none := by
  unfold findW
  rw [List.find?_eq_none]
  intro r hr
  rw [isK_iff]
  intro e
  have := h r hr
  rw [e] at this
  exact ltK_irr _ this
end Go.Proofs.Ytmjoaiepfipmaaa
