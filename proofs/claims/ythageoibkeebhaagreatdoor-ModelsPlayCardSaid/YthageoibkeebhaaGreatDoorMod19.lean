/- Do, told whole. No condition. -/
import Derived.Test.YthageoibkeebhaaGreatDoorMod17d
import Derived.Test.YthageoibkeebhaaGreatDoorMod17c
import Derived.Test.YthageoibkeebhaaGreatDoorMod18
import Derived.Test.YthageoibkeebhaaGreatDoorMod18s
namespace Go.Proofs.YthageoibkeebhaaGreatDoor
open Go.RowKit
set_option maxRecDepth 100000
theorem do_ok {w0 w : World} {st mb : Nat} {m : Md} (hS : StM w0 w st mb m) (hg : smallR m.rows) (hrn : m.rows.length ≤ 50000) (c n : Nat) (x : Ak) (a : Option Addr) (cap : Nat) (h : ChsAt w x.chs a cap) (hs : x.small) (h1 : 1 ≤ c) (h8 : c ≤ 8) (hok : x.okB = true) (hlt : m.num c < n) :
    Calls Tryz.prog 30 #[.pointer (some ⟨st, 0, none⟩), .int .u8 (c : Int), .int .u32 (n : Int), .agg (x.row (.slice a x.chs.length cap))] w (DoE w0 w st mb 0 (yesW m.rows x) (rowsW m.rows x) 0 (m.act c n x)) := by
  rcases ok_kind hok with k | k | k | k | k | k
  · have hk : keptP x := ⟨by omega, by omega⟩
    rw [rowsW_kept hk]
    exact do_put hS hg hrn c n x a cap h hs h1 h8 hok hlt hk (by rw [k]; unfold kindF; simp) (fun W hW => rep_put hW x (.inl k) _)
  · have hk : keptP x := ⟨by omega, by omega⟩
    rw [rowsW_kept hk]
    exact do_del hS hg hrn c n x a cap h hs h1 h8 hok hlt hk (by rw [k]; unfold kindF; simp) (fun W hW => rep_del hW x hs k _)
  · have hk : keptP x := ⟨by omega, by omega⟩
    rw [rowsW_kept hk]
    exact do_cas hS hg hrn c n x a cap h hs h1 h8 hok hlt hk (by rw [k]; unfold kindF; simp) (fun W hW => rep_cas hW x hs k _)
  · have hk : keptP x := ⟨by omega, by omega⟩
    rw [rowsW_kept hk]
    exact do_put hS hg hrn c n x a cap h hs h1 h8 hok hlt hk (by rw [k]; unfold kindF; simp) (fun W hW => rep_put hW x (.inr k) _)
  · exact do_get hS hg hrn c n x a cap h hs h1 h8 hok hlt k (by rw [k]; unfold kindF; simp) (fun W hW => (rep_get hW x hs k _).mono fun _ _ h => h.hid)
  · exact do_scan hS hg hrn c n x a cap h hs h1 h8 hok hlt k (by rw [k]; unfold kindF; simp) (fun W hW => (rep_scan hW hg (by omega) x k _).mono fun _ _ h => h.hid)
instance (c n : Nat) (x : Ak) : Decidable (badA c n x) := by unfold badA; infer_instance
/-- What a client's ask is answered. -/
structure An where
  e : Int
  yes : Bool
  rows : List Rw
  err : Int
  m : Md
def Md.sv (m : Md) (c : Nat) : Sv := m.sd.getD c ⟨0, 0, false⟩
def Md.ans (m : Md) (c n : Nat) (x : Ak) : An :=
  if badA c n x then ⟨0, false, [], 1, m⟩
  else if n = m.num c ∧ keptP x then ⟨(m.sv c).e, (m.sv c).yes, [], 10, m⟩
  else if n ≤ m.num c then ⟨0, false, [], 10, m⟩
  else ⟨0, yesW m.rows x, rowsW m.rows x, 0, m.act c n x⟩
def AnE (w0 w : World) (st mb : Nat) (r : An) (e : Ending) (w' : World) : Prop := DoE w0 w st mb r.e r.yes r.rows r.err r.m e w'
theorem do_all {w0 w : World} {st mb : Nat} {m : Md} (hS : StM w0 w st mb m) (hg : smallR m.rows) (hrn : m.rows.length ≤ 50000) (c n : Nat) (x : Ak) (a : Option Addr) (cap : Nat) (h : ChsAt w x.chs a cap) (hs : x.small) :
    Calls Tryz.prog 30 #[.pointer (some ⟨st, 0, none⟩), .int .u8 (c : Int), .int .u32 (n : Int), .agg (x.row (.slice a x.chs.length cap))] w (AnE w0 w st mb (m.ans c n x)) := by
  unfold AnE Md.ans
  by_cases hb : badA c n x
  · rw [if_pos hb]; exact do_arg hS c n x a cap h hs hb
  · rw [if_neg hb]
    have h1 : 1 ≤ c := by have : ¬ c < 1 := fun q => hb (.inl q); omega
    have h8 : c ≤ 8 := by have : ¬ 8 < c := fun q => hb (.inr (.inl q)); omega
    have hn : n ≠ 0 := fun q => hb (.inr (.inr (.inl q)))
    have hok : x.okB = true := by cases ho : x.okB with | true => rfl | false => exact absurd (.inr (.inr (.inr ho))) hb
    by_cases hq : n = m.num c ∧ keptP x
    · rw [if_pos hq]
      obtain ⟨s, hsc⟩ : ∃ s, m.sd[c]? = some s := ⟨_, List.getElem?_eq_getElem (by rw [hS.len]; omega)⟩
      have e1 : m.sv c = s := by unfold Md.sv; rw [List.getD_eq_getElem?_getD, hsc]; rfl
      rw [e1]
      exact do_same hS c n x a cap h hs h1 h8 hn hok hsc (by rw [hq.1, Md.num_at hsc]) hq.2
    · rw [if_neg hq]
      by_cases hl : n ≤ m.num c
      · rw [if_pos hl]; exact do_old hS c n x a cap h hs h1 h8 hn hok hl hq
      · rw [if_neg hl]; exact do_ok hS hg hrn c n x a cap h hs h1 h8 hok (by omega)
theorem Md.ans_small {m : Md} (h : smallR m.rows) (c n : Nat) (x : Ak) : smallR (m.ans c n x).m.rows := by
  unfold Md.ans
  split
  · exact h
  · split
    · exact h
    · split
      · exact h
      · rename_i hb _ _
        have hok : x.okB = true := by cases ho : x.okB with | true => rfl | false => exact absurd (.inr (.inr (.inr ho))) hb
        exact chsW_small h (chg_ok hok).1
theorem Md.ans_length (m : Md) (c n : Nat) (x : Ak) : (m.ans c n x).m.rows.length ≤ m.rows.length + 16 := by
  unfold Md.ans
  split
  · simp only; omega
  · split
    · simp only; omega
    · split
      · simp only; omega
      · rename_i hb _ _
        have hok : x.okB = true := by cases ho : x.okB with | true => rfl | false => exact absurd (.inr (.inr (.inr ho))) hb
        exact Md.act_length m c n hok
end Go.Proofs.YthageoibkeebhaaGreatDoor
