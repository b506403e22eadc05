/- PastsRise: the plain law. No condition. -/
import Derived.Test.YtgbiifefpidebaaPaB
namespace Go.Proofs.Ytgbiifefpidebaa
open Go.RowKit
set_option maxRecDepth 100000
def Rise (os : List Ev) : Prop := ∀ (i : Nat) (y : Ev), os[i]? = some y → y.idx = (i : Int) + 1
theorem Rise.nil : Rise [] := fun i y h => by simp at h
theorem Rise.take {os : List Ev} (h : Rise os) (n : Nat) : Rise (os.take n) := fun i y hi => by
  rw [List.getElem?_take] at hi
  split at hi
  · exact h i y hi
  · cases hi
theorem Rise.add {os : List Ev} (h : Rise os) {y : Ev} (hy : y.idx = (os.length : Int) + 1) : Rise (os ++ [y]) := fun i z hi => by
  by_cases hl : i < os.length
  · rw [List.getElem?_append_left hl] at hi; exact h i z hi
  · rw [List.getElem?_append_right (by omega)] at hi
    have h0 : i - os.length = 0 := by
      have := (List.getElem?_eq_some_iff.1 hi).1
      simp at this; omega
    rw [h0] at hi
    simp at hi
    subst hi
    have : i = os.length := by omega
    rw [this]; exact hy
theorem addI_rise : ∀ (its o : List Ev), Rise o → Rise (addI o its)
  | [], _, h => h
  | y :: its, o, h => by
    have h1 : addI o (y :: its) = addI (if y.idx = (o.length : Int) + 1 then o ++ [y] else o) its := rfl
    rw [h1]
    refine addI_rise its _ ?_
    by_cases hy : y.idx = (o.length : Int) + 1
    · rw [if_pos hy]; exact h.add hy
    · rw [if_neg hy]; exact h
theorem logS_rise {L os : List Ev} (h : Rise os) (x : Ev) : Rise (logS L os x) := by
  unfold logS
  split
  · exact addI_rise _ _ (h.take _)
  · exact h
theorem fold_rise (L : List Ev) : ∀ (l os : List Ev), (_ : Rise os) → Rise (l.foldl (logS L) os)
  | [], _, h => h
  | x :: l, _, h => fold_rise L l _ (logS_rise h x)
theorem logP_rise (l : List Ev) : Rise (logP l) := fold_rise _ l [] Rise.nil
def InL (L os : List Ev) : Prop := ∀ y ∈ os, y ∈ L ∧ y.kind = 5
theorem addI_in {L : List Ev} : ∀ (its o : List Ev), InL L o → InL L its → InL L (addI o its)
  | [], _, h, _ => h
  | y :: its, o, h, hi => by
    have h1 : addI o (y :: its) = addI (if y.idx = (o.length : Int) + 1 then o ++ [y] else o) its := rfl
    rw [h1]
    refine addI_in its _ ?_ (fun z hz => hi z (List.mem_cons_of_mem _ hz))
    by_cases hy : y.idx = (o.length : Int) + 1
    · rw [if_pos hy]
      intro z hz
      rcases List.mem_append.1 hz with hz | hz
      · exact h z hz
      · rw [List.mem_singleton.1 hz]; exact hi y (List.mem_cons_self ..)
    · rw [if_neg hy]; exact h
theorem items_in (L : List Ev) (e : Int) : InL L (itemsOf L e) := fun y hy => by
  unfold itemsOf at hy
  have := List.mem_filter.1 hy
  simp only [Bool.and_eq_true, decide_eq_true_eq] at this
  exact ⟨this.1, this.2.1⟩
theorem logS_in {L os : List Ev} (h : InL L os) (x : Ev) : InL L (logS L os x) := by
  unfold logS
  split
  · exact addI_in _ _ (fun y hy => h y (List.mem_of_mem_take hy)) (items_in L _)
  · exact h
theorem fold_in (L : List Ev) : ∀ (l os : List Ev), (_ : InL L os) → InL L (l.foldl (logS L) os)
  | [], _, h => h
  | x :: l, _, h => fold_in L l _ (logS_in h x)
theorem logP_in (l : List Ev) : InL (l.map Ev.strip) (logP l) := fold_in _ l [] (fun y hy => by cases hy)
/-- An event and an item that are the same one. -/
def matchB (x y : Ev) : Bool := (x.kind == 5) && ((x.idx == y.idx) && ((x.cl == y.cl) && ((x.num == y.num) && x.ask.sameB y.ask)))
theorem match_of {x y : Ev} (h : x.strip = y.strip) (hk : x.kind = 5) : matchB x y = true := by
  have h1 : x.strip.idx = y.strip.idx := by rw [h]
  have h2 : x.strip.cl = y.strip.cl := by rw [h]
  have h3 : x.strip.num = y.strip.num := by rw [h]
  have h4 : x.strip.ask = y.strip.ask := by rw [h]
  change x.idx = y.idx at h1
  change x.cl = y.cl at h2
  change x.num = y.num at h3
  change x.ask = y.ask at h4
  unfold matchB
  rw [h1, h2, h3, h4, hk, ak_iff.2 rfl]
  simp
theorem taken_any {l os : List Ev} (h : os.map Ev.strip = logP l) {i : Nat} {y : Ev} (hy : os[i]? = some y) : l.any (fun x => matchB x y) = true ∧ y.idx = (i : Int) + 1 := by
  have h1 : (logP l)[i]? = some y.strip := by rw [← h, List.getElem?_map, hy]; rfl
  obtain ⟨h2, h3⟩ := logP_in l y.strip (List.mem_of_getElem? h1)
  obtain ⟨x, hx, hxs⟩ := List.mem_map.1 h2
  refine ⟨List.any_eq_true.2 ⟨x, hx, match_of hxs ?_⟩, (logP_rise l i y.strip h1 : y.strip.idx = _)⟩
  have : x.strip.kind = y.strip.kind := by rw [hxs]
  rw [h3] at this
  exact this
/-- The chain behind all. -/
def chainE (e : Int) (cut : Nat) : Ev := ⟨3, e, 0, 0, ⟨0, ⟨#[]⟩, ⟨#[]⟩, ⟨#[]⟩, false, ⟨#[]⟩, 0, []⟩, none, 0, 0, 0, false, [], none, 0, cut⟩
theorem ckS_ep {s s' : Cks} {x : Ev} (h : ckS s x = some s') : s'.ep = s.ep ∨ s'.ep = x.ep := by
  unfold ckS at h
  split at h
  · cases h
  · split at h
    · split at h
      · injection h with h; rw [← h]; exact .inl rfl
      · cases h
    · split at h
      · split at h
        · injection h with h; rw [← h]; exact .inl rfl
        · cases h
      · split at h
        · split at h
          · cases h
          · injection h with h; rw [← h]; exact .inr rfl
        · injection h with h; rw [← h]; exact .inl rfl
theorem fold_ep {M : Int} : ∀ (l : List Ev) (s s' : Cks), l.foldlM ckS s = some s' → s.ep ≤ M → (∀ x ∈ l, x.ep ≤ M) → s'.ep ≤ M
  | [], s, s', h, hs, _ => by
    have : s = s' := by simpa using h
    rw [← this]; exact hs
  | x :: l, s, s', h, hs, hx => by
    rw [List.foldlM_cons] at h
    simp only [Option.bind_eq_bind] at h
    obtain ⟨s1, h1, h2⟩ := Option.bind_eq_some_iff.1 h
    refine fold_ep l s1 s' h2 ?_ (fun z hz => hx z (List.mem_cons_of_mem _ hz))
    rcases ckS_ep h1 with e | e
    · rw [e]; exact hs
    · rw [e]; exact hx x (List.mem_cons_self ..)
theorem chain_k (e : Int) (cut : Nat) : (chainE e cut).kind = 3 := rfl
theorem chain_may {e : Int} (he : 0 < e) (cut : Nat) : (chainE e cut).mayB = true := by
  unfold Ev.mayB chainE
  have : (e != 0) = true := by simp; omega
  simp [this]
theorem chain_ck {l : List Ev} {M : Int} (h : (ckL l).isSome = true) (hM : ∀ x ∈ l, x.ep ≤ M) (h0 : 0 ≤ M) (cut : Nat) : (ckL (l ++ [chainE (M + 1) cut])).isSome = true := by
  obtain ⟨s, hs⟩ := Option.isSome_iff_exists.1 h
  have he := fold_ep l _ s hs (show (0 : Int) ≤ M from h0) hM
  rw [ckL_add, hs]
  show (ckS s (chainE (M + 1) cut)).isSome = true
  unfold ckS
  rw [if_neg (by rw [chain_may (by omega)]; decide), if_neg (by rw [chain_k]; decide), if_neg (by rw [chain_k]; decide), if_pos (chain_k _ _), if_neg (by show ¬ M + 1 ≤ s.ep; omega)]
  rfl
theorem chain_log {l : List Ev} {M : Int} (hM : ∀ x ∈ l, x.ep ≤ M) (cut : Nat) : logP (l ++ [chainE (M + 1) cut]) = (logP l).take cut := by
  have h1 : ∀ e, itemsOf ((l ++ [chainE (M + 1) cut]).map Ev.strip) e = itemsOf (l.map Ev.strip) e := fun e => by
    rw [List.map_append]
    exact itemsOf_skip (x := (chainE (M + 1) cut).strip) (by show (chainE (M + 1) cut).kind ≠ 5; rw [chain_k]; decide) e
  unfold logP logL
  rw [logS_congr h1, List.foldl_append]
  obtain ⟨os, hos⟩ : ∃ os, os = l.foldl (logS (l.map Ev.strip)) [] := ⟨_, rfl⟩
  rw [← hos]
  show logS (l.map Ev.strip) os (chainE (M + 1) cut) = _
  unfold logS
  rw [if_pos (chain_k _ _)]
  have h2 : itemsOf (l.map Ev.strip) (chainE (M + 1) cut).ep = [] := by
    unfold itemsOf
    rw [List.filter_eq_nil_iff]
    intro y hy hc
    obtain ⟨x, hx, rfl⟩ := List.mem_map.1 hy
    simp only [Bool.and_eq_true, decide_eq_true_eq] at hc
    have := hM x hx
    have h3 : x.ep = M + 1 := hc.2
    omega
  rw [h2]
  show os.take (Int.toNat (cut : Int)) = _
  rw [Int.toNat_natCast]
end Go.Proofs.Ytgbiifefpidebaa
