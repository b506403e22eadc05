/- What asks of one key are answered, one behind the other. No condition. -/
import Derived.Test.YtmjoaiepfipmaaaMod23
namespace Go.Proofs.Ytmjoaiepfipmaaa
open Go.RowKit
set_option maxRecDepth 100000
structure OkM (m : Md) (n : Nat) (l : List Rw) (cap : Nat) : Prop where
  rows : m.rows = l
  num : m.num 1 = n
  len : m.sd.length = 9
  small : smallR m.rows
  le : m.rows.length ≤ cap
theorem OkM.step {m : Md} {n n' cap : Nat} {l : List Rw} {x : Ak} (h : OkM m n l cap) (hok : x.okB = true) (hk : keptP x) (hlt : n < n') : ∃ m', m.ans 1 n' x = ⟨0, yesW l x, [], 0, m'⟩ ∧ OkM m' n' (chsW l (chgW l x)) (cap + 16) := by
  have e := ans_ok (m := m) (c := 1) (n := n') (by decide) (by decide) hok (by rw [h.num]; exact hlt)
  have hs := Md.ans_small h.small 1 n' x
  have hl := Md.ans_length m 1 n' x
  rw [e] at hs hl
  simp only at hs hl
  refine ⟨m.act 1 n' x, by rw [e, h.rows, rowsW_kept hk], ?_⟩
  have h1 := h.le
  refine ⟨by rw [act_kept hk, h.rows], ?_, ?_, hs, by omega⟩
  · rw [act_kept hk, num_set (by rw [h.len]; decide)]
  · rw [act_kept hk]; show (m.sd.set 1 _).length = 9; rw [List.length_set]; exact h.len
theorem OkM.look {m : Md} {n cap : Nat} {l : List Rw} {k : ByteArray} (h : OkM m n l cap) (hk : keyB k = true) (hlt : n < 9) : m.ans 1 9 (askGet k) = ⟨0, (findW l k).isSome, (findW l k).toList, 0, m⟩ := by
  rw [ans_ok (by decide) (by decide) (by rw [ok_get]; exact hk) (by rw [h.num]; exact hlt), act_look (nk_get k) (.inl rfl), h.rows]
  rfl
theorem OkM.zero {R : List Rw} (h : smallR R) {cap : Nat} (hl : R.length ≤ cap) : OkM ⟨R, zSd⟩ 0 R cap := ⟨rfl, num_zSd _ _, rfl, h, hl⟩
theorem chs_put (l : List Rw) (k v : ByteArray) : chsW l (chgW l (askPut k v)) = putW l k v := rfl
theorem chs_del (l : List Rw) (k : ByteArray) : chsW l (chgW l (askDel k)) = delW l k := rfl
theorem chs_cas (l : List Rw) (k o v : ByteArray) : chsW l (chgW l (askCas k o v)) = if casW (findW l k) (askCas k o v) = true then putW l k v else l := by
  have : chgW l (askCas k o v) = if casW (findW l k) (askCas k o v) = true then [⟨k, v, false⟩] else [] := rfl
  rw [this]
  by_cases h : casW (findW l k) (askCas k o v) = true
  · rw [if_pos h, if_pos h]; rfl
  · rw [if_neg h, if_neg h]; rfl
theorem chs_new (l : List Rw) (k v : ByteArray) : chsW l (chgW l (askNew k v)) = if casW (findW l k) (askNew k v) = true then putW l k v else l := by
  have : chgW l (askNew k v) = if casW (findW l k) (askNew k v) = true then [⟨k, v, false⟩] else [] := rfl
  rw [this]
  by_cases h : casW (findW l k) (askNew k v) = true
  · rw [if_pos h, if_pos h]; rfl
  · rw [if_neg h, if_neg h]; rfl
theorem len_put {l : List Rw} {k v : ByteArray} : (putW l k v).length = (delW l k).length + 1 := insW_length _ _
def madeB (o : Option Rw) (old : ByteArray) : Bool := match o with
  | none => false
  | some r => r.val.toList == old.toList
theorem cas_made (o : Option Rw) (k old v : ByteArray) : casW o (askCas k old v) = madeB o old := by cases o <;> rfl
/-- The law ModelsGets's asks. -/
theorem gets_law {R : List Rw} {k v o : ByteArray} (hk : keyB k = true) (hv : valB v = true) (ho : valB o = true) (hR : smallR R) (hl : R.length ≤ 2400) :
    ∃ (made : Bool) (m1 m2 m3 m4 m5 m6 m7 : Md) (R1 R2 R3 R4 R5 R7 : List Rw),
      made = madeB (findW R k) o ∧
      (⟨R, zSd⟩ : Md).ans 1 1 (askCas k o v) = ⟨0, made, [], 0, m1⟩ ∧ OkM m1 1 R1 2416 ∧
      m1.ans 1 9 (askGet k) = ⟨0, (findW R k).isSome, ((findW R k).map fun r => ⟨k, if made then v else r.val⟩).toList, 0, m1⟩ ∧
      m1.ans 1 2 (askPut k v) = ⟨0, true, [], 0, m2⟩ ∧ OkM m2 2 R2 2432 ∧
      m2.ans 1 9 (askGet k) = ⟨0, true, [⟨k, v⟩], 0, m2⟩ ∧
      m2.ans 1 3 (askNew k ⟨#[]⟩) = ⟨0, false, [], 0, m3⟩ ∧ OkM m3 3 R3 2448 ∧
      m3.ans 1 4 (askCas k v o) = ⟨0, true, [], 0, m4⟩ ∧ OkM m4 4 R4 2464 ∧
      m4.ans 1 5 (askDel k) = ⟨0, true, [], 0, m5⟩ ∧ OkM m5 5 R5 2480 ∧
      m5.ans 1 6 (askDel k) = ⟨0, false, [], 0, m6⟩ ∧ OkM m6 6 (delW R k) 2496 ∧
      m6.ans 1 9 (askGet k) = ⟨0, false, [], 0, m6⟩ ∧
      m6.ans 1 7 (askNew k ⟨#[]⟩) = ⟨0, true, [], 0, m7⟩ ∧ OkM m7 7 R7 2512 ∧ R7.length = (delW R k).length + 1 := by
  have kc : ∀ o v, keptP (askCas k o v) := fun _ _ => kept_of (.inr (.inr (.inl rfl)))
  have kn : ∀ v, keptP (askNew k v) := fun _ => kept_of (.inr (.inr (.inl rfl)))
  have kp : keptP (askPut k v) := kept_of (.inl rfl)
  have kd : keptP (askDel k) := kept_of (.inr (.inl rfl))
  have oc : (askCas k o v).okB = true := by rw [ok_cas, hk, hv, ho]; rfl
  have oc' : (askCas k v o).okB = true := by rw [ok_cas, hk, hv, ho]; rfl
  have op : (askPut k v).okB = true := by rw [ok_put, hk, hv]; rfl
  have on : (askNew k ⟨#[]⟩).okB = true := by rw [ok_new, hk]; rfl
  have od : (askDel k).okB = true := by rw [ok_del, hk]
  obtain ⟨m1, e1, q1⟩ := (OkM.zero hR hl).step oc (kc o v) (by decide : 0 < 1)
  rw [show yesW R (askCas k o v) = madeB (findW R k) o from cas_made _ k o v] at e1
  rw [chs_cas, cas_made] at q1
  obtain ⟨made, hm⟩ : ∃ made, made = madeB (findW R k) o := ⟨_, rfl⟩
  rw [← hm] at e1 q1
  obtain ⟨R1, hR1⟩ : ∃ R1, R1 = if made = true then putW R k v else R := ⟨_, rfl⟩
  rw [← hR1] at q1
  have f1 : findW R1 k = (findW R k).map fun r => ⟨k, if made then v else r.val⟩ := by
    rw [hR1]
    cases hf : findW R k with
    | none =>
      have : made = false := by rw [hm, hf]; rfl
      rw [this]
      simpa using hf
    | some r =>
      obtain ⟨hrk, _⟩ := find_key' hf
      cases made with
      | true => rw [if_pos rfl, find_put, if_pos rfl]; rfl
      | false => rw [if_neg (by decide), hf]; cases r; simp only at hrk; subst hrk; rfl
  have d1 : delW R1 k = delW R k := by
    rw [hR1]
    split
    · exact del_put R k v
    · rfl
  have g1 := q1.look hk (by decide)
  rw [f1] at g1
  simp only [Option.isSome_map] at g1
  obtain ⟨m2, e2, q2⟩ := q1.step op kp (by decide : 1 < 2)
  rw [chs_put] at q2
  rw [show yesW R1 (askPut k v) = true from rfl] at e2
  have f2 : findW (putW R1 k v) k = some ⟨k, v⟩ := by rw [find_put, if_pos rfl]
  have g2 := q2.look hk (by decide)
  rw [f2] at g2
  obtain ⟨m3, e3, q3⟩ := q2.step on (kn _) (by decide : 2 < 3)
  rw [chs_new, f2, if_neg (show ¬ (casW (some ⟨k, v⟩) (askNew k ⟨#[]⟩) = true) from fun h => Bool.noConfusion h)] at q3
  rw [show yesW (putW R1 k v) (askNew k ⟨#[]⟩) = casW (findW (putW R1 k v) k) (askNew k ⟨#[]⟩) from rfl, f2] at e3
  obtain ⟨m4, e4, q4⟩ := q3.step oc' (kc v o) (by decide : 3 < 4)
  have c4 : casW (some ⟨k, v⟩) (askCas k v o) = true := cas_eq _ _ _ _ rfl
  rw [chs_cas, f2, if_pos c4] at q4
  rw [show yesW (putW R1 k v) (askCas k v o) = casW (findW (putW R1 k v) k) (askCas k v o) from rfl, f2, c4] at e4
  obtain ⟨m5, e5, q5⟩ := q4.step od kd (by decide : 4 < 5)
  rw [chs_del, del_put, del_put, d1] at q5
  rw [show yesW (putW (putW R1 k v) k o) (askDel k) = (findW (putW (putW R1 k v) k o) k).isSome from rfl, find_put, if_pos rfl] at e5
  obtain ⟨m6, e6, q6⟩ := q5.step od kd (by decide : 5 < 6)
  rw [chs_del, del_del] at q6
  rw [show yesW (delW R k) (askDel k) = (findW (delW R k) k).isSome from rfl, find_del, if_pos rfl] at e6
  have g6 := q6.look hk (by decide)
  rw [find_del, if_pos rfl] at g6
  obtain ⟨m7, e7, q7⟩ := q6.step on (kn _) (by decide : 6 < 7)
  rw [chs_new, find_del, if_pos rfl, if_pos (by rfl)] at q7
  rw [show yesW (delW R k) (askNew k ⟨#[]⟩) = casW (findW (delW R k) k) (askNew k ⟨#[]⟩) from rfl, find_del, if_pos rfl] at e7
  exact ⟨made, m1, m2, m3, m4, m5, m6, m7, R1, _, _, _, _, _, hm, e1, q1, g1, e2, q2, g2, e3, q3, e4, q4, e5, q5, e6, q6, g6, e7, q7, by rw [len_put, del_del]⟩
end Go.Proofs.Ytmjoaiepfipmaaa
