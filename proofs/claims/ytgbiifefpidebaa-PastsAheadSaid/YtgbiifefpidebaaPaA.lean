/- Of a past that may be: who is ahead stands ahead. No condition. -/
import Derived.Test.YtgbiifefpidebaaEvChk
namespace Go.Proofs.Ytgbiifefpidebaa
open Go.RowKit
set_option maxRecDepth 100000
theorem nmV_inj {c n c' n' : Int} (h : nmV c n = nmV c' n') : c = c' ∧ n = n' := by
  unfold nmV at h
  simp at h
  exact h
theorem u8_inj {c c' : Int} (h : (Value.int .u8 c) = .int .u8 c') : c = c' := by injection h
structure InvC (p : List Ev) (s : Cks) : Prop where
  w : ∀ c n, s.wt (nmV c n) ≠ 0 → ∃ e ∈ p, e.kind = 1 ∧ e.cl = c ∧ e.num = n
  lo : ∀ c, 0 ≤ s.la (.int .u8 c) ∧ s.la (.int .u8 c) ≤ p.length
  le : ∀ e ∈ p, e.kind = 1 → e.num ≤ s.la (.int .u8 e.cl)
theorem InvC.mono {p : List Ev} {s : Cks} (h : InvC p s) (x : Ev) {W : Value → Int} {ep : Int} (hx : x.kind ≠ 1) (hW : ∀ c n, W (nmV c n) ≠ 0 → s.wt (nmV c n) ≠ 0) : InvC (p ++ [x]) ⟨W, s.la, ep⟩ where
  w := fun c n hc => by
    obtain ⟨e, he, h1⟩ := h.w c n (hW c n hc)
    exact ⟨e, List.mem_append_left _ he, h1⟩
  lo := fun c => by
    have := h.lo c
    rw [List.length_append, List.length_singleton]
    exact ⟨this.1, by show s.la _ ≤ _; omega⟩
  le := fun e he hk => by
    rcases List.mem_append.1 he with he | he
    · exact h.le e he hk
    · rw [List.mem_singleton.1 he] at hk; exact absurd hk hx
theorem InvC.step {p : List Ev} {s s' : Cks} {x : Ev} (h : InvC p s) (hp : p.length ≤ 1000) (hs : ckS s x = some s') : InvC (p ++ [x]) s' := by
  unfold ckS at hs
  split at hs
  · cases hs
  · split at hs
    · rename_i hk
      split at hs
      · rename_i hw
        injection hs with hs
        subst hs
        have hl := h.lo x.cl
        have hw2 : IntKind.u32.wrap (s.la (.int .u8 x.cl) + 1) = s.la (.int .u8 x.cl) + 1 := by rw [IntKind.wrap_u32]; omega
        rw [hw2] at hw ⊢
        refine ⟨fun c n hc => ?_, fun c => ?_, fun e he hk' => ?_⟩
        · by_cases e : nmV c n = nmV x.cl x.num
          · obtain ⟨rfl, rfl⟩ := nmV_inj e
            exact ⟨x, List.mem_append_right _ (List.mem_singleton.2 rfl), hk, rfl, rfl⟩
          · simp only at hc
            rw [setF_other _ _ e] at hc
            obtain ⟨e, he, h1⟩ := h.w c n hc
            exact ⟨e, List.mem_append_left _ he, h1⟩
        · simp only
          rw [List.length_append, List.length_singleton]
          by_cases e : c = x.cl
          · subst e; rw [setF_same]; omega
          · rw [setF_other _ _ (fun q => e (u8_inj q))]
            have := h.lo c
            omega
        · simp only
          rcases List.mem_append.1 he with he | he
          · have h1 := h.le e he hk'
            by_cases q : e.cl = x.cl
            · rw [q] at h1 ⊢; rw [setF_same]; omega
            · rw [setF_other _ _ (fun z => q (u8_inj z))]; exact h1
          · rw [List.mem_singleton.1 he, setF_same]; omega
      · cases hs
    · rename_i h1
      split at hs
      · split at hs
        · injection hs with hs
          subst hs
          refine h.mono x h1 fun c n hc => ?_
          by_cases e : nmV c n = nmV x.cl x.num
          · rw [e, setF_same] at hc; exact absurd rfl hc
          · rwa [setF_other _ _ e] at hc
        · cases hs
      · split at hs
        · split at hs
          · cases hs
          · injection hs with hs
            subst hs
            exact h.mono x h1 fun _ _ hc => hc
        · injection hs with hs
          subst hs
          exact h.mono x h1 fun _ _ hc => hc
theorem inv_take (l : List Ev) (hl : l.length ≤ 1000) : ∀ (n : Nat) (s : Cks), ckL (l.take n) = some s → InvC (l.take n) s
  | 0, s, h => by
    rw [List.take_zero] at h ⊢
    have : s = ⟨fun _ => 0, fun _ => 0, 0⟩ := by
      have h2 : ckL [] = some (⟨fun _ => 0, fun _ => 0, 0⟩ : Cks) := rfl
      rw [h2] at h
      injection h with h
      exact h.symm
    subst this
    exact ⟨fun _ _ h => absurd rfl h, fun _ => ⟨Int.le_refl _, by simp⟩, fun _ h => by cases h⟩
  | n + 1, s, h => by
    by_cases hn : n < l.length
    · have hx : l[n]? = some l[n] := List.getElem?_eq_getElem hn
      have htk : l.take (n + 1) = l.take n ++ [l[n]] := by rw [List.take_add_one, hx]; rfl
      rw [htk, ckL_add] at h
      rw [htk]
      cases hs : ckL (l.take n) with
      | none => rw [hs] at h; cases h
      | some s0 =>
        rw [hs] at h
        exact (inv_take l hl n s0 hs).step (by rw [List.length_take]; omega) h
    · rw [List.take_of_length_le (by omega)] at h ⊢
      have := inv_take l hl n s (by rw [List.take_of_length_le (by omega)]; exact h)
      rwa [List.take_of_length_le (by omega)] at this
theorem ck_at {l : List Ev} (h : (ckL l).isSome = true) {n : Nat} {x : Ev} (hx : l[n]? = some x) : ∃ s s', ckL (l.take n) = some s ∧ ckS s x = some s' := by
  have hall : ∀ m, ∃ s, ckL (l.take m) = some s := fun m => by
    cases hc : ckL (l.take m) with
    | none =>
      have := ckL_none (l.take m) (l.drop m) hc
      rw [List.take_append_drop] at this
      rw [this] at h; cases h
    | some s => exact ⟨s, rfl⟩
  obtain ⟨s, hs⟩ := hall n
  obtain ⟨s', hs'⟩ := hall (n + 1)
  have htk : l.take (n + 1) = l.take n ++ [x] := by rw [List.take_add_one, hx]; rfl
  rw [htk, ckL_add, hs] at hs'
  exact ⟨s, s', hs, hs'⟩
theorem ahead_lt {l : List Ev} (hl : l.length ≤ 1000) (h : (ckL l).isSome = true) {i j : Nat} (hA : aheadB l i j = true) : i < j := by
  unfold aheadB at hA
  split at hA
  · rename_i x y hx hy
    simp only [Bool.and_eq_true] at hA
    obtain ⟨_, hy2, hany⟩ := hA
    rw [List.any_eq_true] at hany
    obtain ⟨e, he, hask⟩ := hany
    obtain ⟨k0, hk0⟩ := List.getElem?_of_mem he
    rw [List.getElem?_drop] at hk0
    obtain ⟨k, hk⟩ : ∃ k, k = i + 1 + k0 := ⟨_, rfl⟩
    rw [← hk] at hk0
    unfold Ev.asks at hask
    simp only [Bool.and_eq_true, beq_iff_eq] at hask hy2
    obtain ⟨ek, ec, en⟩ := hask
    rcases Nat.lt_or_ge i j with hij | hij
    · exact hij
    · exfalso
      obtain ⟨s, s', hs, hs'⟩ := ck_at h hy
      obtain ⟨t, t', ht, ht'⟩ := ck_at h hk0
      have I := inv_take l hl j s hs
      have J := inv_take l hl k t ht
      -- the answer waits
      have hw : s.wt (nmV y.cl y.num) ≠ 0 := by
        by_cases hm : y.mayB = false
        · unfold ckS at hs'; rw [if_pos hm] at hs'; cases hs'
        · unfold ckS at hs'
          rw [if_neg hm, if_neg (by omega : ¬ y.kind = 1), if_pos hy2] at hs'
          split at hs'
          · rename_i hq
            rw [hq]
            intro h0
            unfold Ev.mayB Ev.level at hm
            rw [if_neg (by omega), if_pos hy2, h0] at hm
            simp at hm
          · cases hs'
      obtain ⟨a, ha, ak, ac, an⟩ := I.w _ _ hw
      have hak : a ∈ l.take k := (List.take_subset_take_left l (by omega)) ha
      have h1 := J.le a hak ak
      by_cases hm : e.mayB = false
      · unfold ckS at ht'; rw [if_pos hm] at ht'; cases ht'
      · unfold ckS at ht'
        rw [if_neg hm, if_pos ek] at ht'
        split at ht'
        · rename_i hq
          have hlo := J.lo e.cl
          have hkl : (l.take k).length ≤ 1000 := by rw [List.length_take]; omega
          rw [IntKind.wrap_u32] at hq
          rw [ac, ← ec] at h1
          omega
        · cases ht'
  · cases hA
theorem ahead_trans {l : List Ev} (hl : l.length ≤ 1000) (h : (ckL l).isSome = true) {i j c : Nat} (h1 : aheadB l i j = true) (h2 : aheadB l j c = true) : aheadB l i c = true := by
  have hij := ahead_lt hl h h1
  unfold aheadB at *
  cases hx : l[i]? with
  | none => rw [hx] at h1; cases h1
  | some x =>
    cases hy : l[j]? with
    | none => rw [hx, hy] at h1; cases h1
    | some y =>
      cases hz : l[c]? with
      | none => rw [hy, hz] at h2; cases h2
      | some z =>
        rw [hx, hy] at h1
        rw [hy, hz] at h2
        simp only [Bool.and_eq_true] at h1 h2 ⊢
        refine ⟨h1.1, h2.2.1, ?_⟩
        obtain ⟨e, he, ha⟩ := List.any_eq_true.1 h2.2.2
        refine List.any_eq_true.2 ⟨e, ?_, ha⟩
        have : l.drop (j + 1) = (l.drop (i + 1)).drop (j - i) := by rw [List.drop_drop]; congr 1; omega
        rw [this] at he
        exact List.mem_of_mem_drop he
end Go.Proofs.Ytgbiifefpidebaa
