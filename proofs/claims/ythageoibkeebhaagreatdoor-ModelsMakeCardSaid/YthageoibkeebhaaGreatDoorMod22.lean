/- Who said what, told and made again, is that. No condition. -/
import Derived.Test.YthageoibkeebhaaGreatDoorMod21
import Derived.Test.YthageoibkeebhaaGreatDoorGrL
namespace Go.Proofs.YthageoibkeebhaaGreatDoor
open Go.RowKit
/-- Nine places; the first one is empty; an empty place holds nothing. -/
def fineS (sd : List Sv) : Prop := sd.length = 9 ∧ ∀ c s, sd[c]? = some s → (s.num = 0 → s = ⟨0, 0, false⟩) ∧ (c = 0 → s.num = 0)
theorem fine_z : fineS zSd := by
  refine ⟨rfl, fun c s h => ?_⟩
  have hc : c < 9 := (List.getElem?_eq_some_iff.1 h).1
  rw [zSd_at hc] at h
  injection h with h
  subst h
  exact ⟨fun _ => rfl, fun _ => rfl⟩
theorem fine_set {sd : List Sv} (h : fineS sd) {c n : Nat} {y : Bool} (hc : 1 ≤ c) (hn : n ≠ 0) : fineS (sd.set c ⟨n, 0, y⟩) := by
  refine ⟨by rw [List.length_set]; exact h.1, fun d s hd => ?_⟩
  by_cases e : c = d
  · subst e
    have hl : c < sd.length := by have := (List.getElem?_eq_some_iff.1 hd).1; rwa [List.length_set] at this
    rw [List.getElem?_set_self hl] at hd
    injection hd with hd
    subst hd
    exact ⟨fun h0 => absurd h0 hn, fun h0 => by omega⟩
  · rw [List.getElem?_set_ne e] at hd
    exact h.2 d s hd
theorem fine_ans {m : Md} (h : fineS m.sd) (c n : Nat) (x : Ak) : fineS (m.ans c n x).m.sd := by
  unfold Md.ans
  split
  · exact h
  · rename_i hb
    split
    · exact h
    · split
      · exact h
      · unfold Md.act
        simp only
        split
        · exact fine_set h (by have : ¬ c < 1 := fun q => hb (.inl q); omega) (fun q => hb (.inr (.inr (.inl q))))
        · exact h
theorem fine_step {m : Md} (h : fineS m.sd) (x : Ac) : fineS (stepA m x).sd := by
  unfold stepA; split
  · exact fine_ans h _ _ _
  · exact h
theorem fine_steps : ∀ (l : List Ac) {m : Md}, fineS m.sd → fineS (l.foldl stepA m).sd
  | [], _, h => h
  | x :: l, _, h => fine_steps l (fine_step h x)
theorem fine_done (l : List Ac) : fineS (doneM l).sd := fine_steps l fine_z
theorem said_mem {sd : List Sv} {s : Sv} {c : Nat} : (s, c) ∈ saidL sd ↔ sd[c]? = some s ∧ 0 < s.num := by
  unfold saidL
  rw [List.mem_filter, List.mem_zipIdx_iff_getElem?]
  simp
theorem said_nodup (sd : List Sv) : ((saidL sd).map Prod.snd).Nodup := by
  unfold saidL
  have h : (sd.zipIdx.map Prod.snd).Nodup := by rw [List.zipIdx_map_snd]; exact List.nodup_range'
  exact h.sublist (List.filter_sublist.map _)
theorem fold_in : ∀ (q : List (Sv × Nat)) (sd : List Sv) (p : Sv × Nat), p ∈ q → (q.map Prod.snd).Nodup → p.2 < sd.length → (q.foldl (fun sd p => sd.set p.2 p.1) sd)[p.2]? = some p.1
  | [], _, _, h, _, _ => by cases h
  | x :: q, sd, p, h, hn, hl => by
    rw [List.map_cons, List.nodup_cons] at hn
    rw [List.foldl_cons]
    rcases List.mem_cons.1 h with rfl | h
    · rw [sdQ_out p.2 q _ (fun r hr he => hn.1 (by rw [← he]; exact List.mem_map_of_mem hr)), List.getElem?_set_self hl]
    · exact fold_in q _ p h hn.2 (by rw [List.length_set]; exact hl)
theorem sdQ_len (q : List (Sv × Nat)) : (sdQ q).length = 9 := by
  unfold sdQ
  have : ∀ (q : List (Sv × Nat)) (sd : List Sv), (q.foldl (fun sd p => sd.set p.2 p.1) sd).length = sd.length := by
    intro q
    induction q with
    | nil => intro sd; rfl
    | cons x q ih => intro sd; rw [List.foldl_cons, ih, List.length_set]
  rw [this]; rfl
/-- A state made of what was said has it again. -/
theorem sdQ_said {sd : List Sv} (h : fineS sd) : sdQ (saidL sd) = sd := by
  refine List.ext_getElem? fun c => ?_
  by_cases hc : c < 9
  · obtain ⟨s, hs⟩ : ∃ s, sd[c]? = some s := ⟨_, List.getElem?_eq_getElem (by rw [h.1]; exact hc)⟩
    rw [hs]
    by_cases h0 : 0 < s.num
    · have := fold_in (saidL sd) zSd (s, c) (said_mem.2 ⟨hs, h0⟩) (said_nodup sd) hc
      exact this
    · have hz := (h.2 c s hs).1 (by omega)
      unfold sdQ
      rw [sdQ_out c _ _ (fun p hp he => ?_), zSd_at hc, hz]
      obtain ⟨a, b⟩ := p
      have := said_mem.1 hp
      simp only at he
      rw [he, hs] at this
      have e := this.1
      injection e with e
      rw [← e] at this
      exact h0 this.2
  · rw [List.getElem?_eq_none (by rw [sdQ_len]; omega), List.getElem?_eq_none (by rw [h.1]; omega)]
theorem said_good {sd : List Sv} (h : fineS sd) : ∀ p ∈ saidL sd, 1 ≤ p.2 ∧ p.2 ≤ 8 ∧ p.1.num ≠ 0 := by
  rintro ⟨s, c⟩ hp
  obtain ⟨h1, h2⟩ := said_mem.1 hp
  have hc := (List.getElem?_eq_some_iff.1 h1).1
  rw [h.1] at hc
  refine ⟨?_, by simp only; omega, by simp only; omega⟩
  rcases Nat.eq_zero_or_pos c with h0 | h0
  · have := (h.2 c s h1).2 h0; omega
  · exact h0
theorem mk_said (w : World) (m : Md) (a : Option Addr) (cap : Nat) (b : Option Addr) (cap' : Nat) (hr : RowIs w 2 (.slice a m.rows.length cap) m.rows.length (m.rows.flatMap rwL)) (hq : RowIs w 5 (.slice b (saidL m.sd).length cap') (saidL m.sd).length ((saidL m.sd).flatMap sdc)) (hn : m.rows.length ≤ 50000) (hso : sortR m.rows) (hsm : smallR m.rows) (hf : fineS m.sd) :
    Calls Tryz.prog 9 #[.slice a m.rows.length cap, .slice b (saidL m.sd).length cap'] w (MkE w m 0) := by
  have := st_mk w m.rows a cap hr hn hso hsm (saidL m.sd) b cap' hq (said_good hf) (said_nodup _) (by have := saidL_len m.sd; rw [hf.1] at this; omega)
  rw [sdQ_said hf] at this
  exact this
end Go.Proofs.YthageoibkeebhaaGreatDoor
