/- Asks of unlike keys can be done in either order. No condition. -/
import Derived.Test.YtmjoaiepfipmaaaMod26
namespace Go.Proofs.Ytmjoaiepfipmaaa
open Go.RowKit
set_option maxRecDepth 100000
theorem meet_out {a b : Ak} (h : meetB a b = false) {p : ByteArray} (hp : p ∈ keysL a) : p ∉ keysL b := by
  intro hq
  unfold meetB at h
  rw [List.any_eq_false] at h
  have h1 := h p hp
  rw [Bool.not_eq_true, List.any_eq_false] at h1
  exact h1 p hq (eqK.2 rfl)
theorem meet_out' {a b : Ak} (h : meetB a b = false) {p : ByteArray} (hp : p ∈ keysL b) : p ∉ keysL a := fun hq => meet_out h hq hp
theorem key_in {x : Ak} (h : x.kind ≠ 4) : x.key ∈ keysL x := by
  unfold keysL keys0
  rw [if_neg h]
  exact List.mem_append_left _ (List.mem_singleton.2 rfl)
theorem chg_in {l : List Rw} {x : Ak} {c : Ch} (hc : c ∈ chgW l x) : c.key ∈ keysL x := by
  unfold chgW at hc
  split at hc
  · rename_i h; rw [List.mem_singleton.1 hc]; exact key_in (by omega)
  · split at hc
    · rename_i h; rw [List.mem_singleton.1 hc]; exact key_in (by omega)
    · split at hc
      · unfold keysL
        exact List.mem_append_right _ (List.mem_map.2 ⟨c, hc, rfl⟩)
      · split at hc
        · rename_i h4 h3
          split at hc
          · rw [List.mem_singleton.1 hc]; exact key_in (by omega)
          · cases hc
        · cases hc
theorem find_out {l : List Rw} {x : Ak} {k : ByteArray} (h : k ∉ keysL x) (m : List Rw) : findW (chsW m (chgW l x)) k = findW m k :=
  find_chs_out _ _ _ fun c hc e => h (by rw [← e]; exact chg_in hc)
theorem same_at {l l' : List Rw} {b : Ak} (h6 : b.kind ≠ 6) (h : b.kind ≠ 4 → findW l b.key = findW l' b.key) : yesW l b = yesW l' b ∧ chgW l b = chgW l' b ∧ rowsW l b = rowsW l' b := by
  unfold yesW chgW rowsW
  by_cases h4 : b.kind = 4
  · rw [h4]
    simp
  · rw [h h4, if_neg h6, if_neg h6]
    exact ⟨rfl, rfl, rfl⟩
/-- After asks of other keys an ask is answered the same. -/
theorem same_after {R : List Rw} {a b : Ak} (h6 : b.kind ≠ 6) (h : ∀ p ∈ keysL b, p ∉ keysL a) : yesW (chsW R (chgW R a)) b = yesW R b ∧ chgW (chsW R (chgW R a)) b = chgW R b ∧ rowsW (chsW R (chgW R a)) b = rowsW R b :=
  same_at h6 fun h4 => find_out (h _ (key_in h4)) R
def stepM (m : Md) (c : Nat) (x : Ak) : Md := m.act c 1 x
theorem apart_ans {R : List Rw} {a b : Ak} {c d : Nat} (hc1 : 1 ≤ c) (hc8 : c ≤ 8) (hd1 : 1 ≤ d) (hd8 : d ≤ 8) (hcd : c ≠ d) (ha : a.okB = true) (hb : b.okB = true) (h6 : b.kind ≠ 6) (h : ∀ p ∈ keysL b, p ∉ keysL a) :
    (⟨R, zSd⟩ : Md).ans c 1 a = ⟨0, yesW R a, rowsW R a, 0, (⟨R, zSd⟩ : Md).act c 1 a⟩ ∧
    ((⟨R, zSd⟩ : Md).act c 1 a).ans d 1 b = ⟨0, yesW R b, rowsW R b, 0, ((⟨R, zSd⟩ : Md).act c 1 a).act d 1 b⟩ := by
  refine ⟨ans_ok hc1 hc8 ha (by rw [num_zSd]; decide), ?_⟩
  have hn : ((⟨R, zSd⟩ : Md).act c 1 a).num d = 0 := by
    unfold Md.act
    split
    · unfold Md.num
      simp only
      rw [List.getD_eq_getElem?_getD, List.getElem?_set_ne hcd]
      have := num_zSd R d
      unfold Md.num at this
      simp only at this
      rw [List.getD_eq_getElem?_getD] at this
      exact this
    · exact num_zSd _ d
  rw [ans_ok hd1 hd8 hb (by rw [hn]; decide)]
  obtain ⟨e1, _, e3⟩ := same_after (R := R) h6 h
  show (⟨0, yesW (chsW R (chgW R a)) b, rowsW (chsW R (chgW R a)) b, 0, _⟩ : An) = _
  rw [e1, e3]
theorem act_comm {R : List Rw} {a b : Ak} (ha6 : a.kind ≠ 6) (hb6 : b.kind ≠ 6) (hm : meetB a b = false)
    (s1 : sortR (((⟨R, zSd⟩ : Md).act 1 1 a).act 2 1 b).rows) (s2 : sortR (((⟨R, zSd⟩ : Md).act 2 1 b).act 1 1 a).rows) :
    ((⟨R, zSd⟩ : Md).act 1 1 a).act 2 1 b = ((⟨R, zSd⟩ : Md).act 2 1 b).act 1 1 a := by
  obtain ⟨e1, e2, _⟩ := same_after (R := R) hb6 (fun p hp => meet_out' hm hp)
  obtain ⟨f1, f2, _⟩ := same_after (R := R) ha6 (fun p hp => meet_out hm hp)
  have hr : (((⟨R, zSd⟩ : Md).act 1 1 a).act 2 1 b).rows = (((⟨R, zSd⟩ : Md).act 2 1 b).act 1 1 a).rows := by
    refine rows_ext s1 s2 fun k => ?_
    show findW (chsW (chsW R (chgW R a)) (chgW (chsW R (chgW R a)) b)) k = findW (chsW (chsW R (chgW R b)) (chgW (chsW R (chgW R b)) a)) k
    rw [e2, f2]
    by_cases hk : k ∈ keysL a
    · have hb := meet_out hm hk
      rw [find_out hb]
      exact (find_chs_congr _ _ _ _ (find_out hb R)).symm
    · rw [find_out hk]
      exact find_chs_congr _ _ _ _ (find_out hk R)
  have hs : (((⟨R, zSd⟩ : Md).act 1 1 a).act 2 1 b).sd = (((⟨R, zSd⟩ : Md).act 2 1 b).act 1 1 a).sd := by
    show (if keptP b then (if keptP a then zSd.set 1 ⟨1, 0, yesW R a⟩ else zSd).set 2 ⟨1, 0, yesW (chsW R (chgW R a)) b⟩ else (if keptP a then zSd.set 1 ⟨1, 0, yesW R a⟩ else zSd)) = (if keptP a then (if keptP b then zSd.set 2 ⟨1, 0, yesW R b⟩ else zSd).set 1 ⟨1, 0, yesW (chsW R (chgW R b)) a⟩ else (if keptP b then zSd.set 2 ⟨1, 0, yesW R b⟩ else zSd))
    rw [e1, f1]
    by_cases h1 : keptP a <;> by_cases h2 : keptP b <;> simp only [h1, h2, if_true, if_false]
    exact List.set_comm _ _ (by decide)
  have : ∀ m m' : Md, m.rows = m'.rows → m.sd = m'.sd → m = m' := by
    rintro ⟨_, _⟩ ⟨_, _⟩ h1 h2
    simp only at h1 h2
    rw [h1, h2]
  exact this _ _ hr hs
end Go.Proofs.Ytmjoaiepfipmaaa
