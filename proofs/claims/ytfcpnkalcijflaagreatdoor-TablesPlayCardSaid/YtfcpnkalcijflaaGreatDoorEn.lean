/- Marks and entries as parameters. No condition. -/
import Derived.Test.YtfcpnkalcijflaaGreatDoorTab5
import Derived.Test.YtfcpnkalcijflaaGreatDoorTab6
import Derived.Test.YtfcpnkalcijflaaGreatDoorRead2
namespace Go.Proofs.YtfcpnkalcijflaaGreatDoor
open Go.RowKit
set_option maxRecDepth 100000
theorem okc_str {P : Program} {w : World} {n : Nat} {t : TypeId} {cs : List Value} (ht : P.underlying t = some .string) (h : OKC P w n t cs) : ∃ s : ByteArray, cs = [.string s] ∧ s.size ≤ 140737488351232 := by
  cases n with
  | zero => exact h.elim
  | succ n => unfold OKC at h; rw [ht] at h; exact h
theorem okc_bool {P : Program} {w : World} {n : Nat} {t : TypeId} {cs : List Value} (ht : P.underlying t = some .bool) (h : OKC P w n t cs) : ∃ b : Bool, cs = [.bool b] := by
  cases n with
  | zero => exact h.elim
  | succ n => unfold OKC at h; rw [ht] at h; exact h
theorem okc_mark {w : World} {n : Nat} {cs : List Value} (h : OKC Tryz.prog w n 47 cs) : ∃ m : Mk, cs = mkRow m ∧ m.key.size ≤ 140737488351232 ∧ m.seq < 18446744073709551616 := by
  have c3 : Tryz.prog.cellsOf 47 = 3 := by kernel_rfl
  cases n with
  | zero => exact h.elim
  | succ n =>
    unfold OKC at h
    rw [Tryz.underlying47] at h
    simp only [c3] at h
    obtain ⟨hl, hi⟩ := h
    match cs, hl with
    | [x, y, z], _ =>
      simp [show Tryz.prog.cellsOf 9 = 1 by kernel_rfl, show Tryz.prog.cellsOf 45 = 1 by kernel_rfl, show Tryz.prog.cellsOf 4 = 1 by kernel_rfl] at hi
      obtain ⟨a, ha, ha2⟩ := okc_str Tryz.underlying9 hi.1
      obtain ⟨s, hs, hs2⟩ := okc_int Tryz.underlying45 hi.2.1
      obtain ⟨g, hg⟩ := okc_bool Tryz.underlying4 hi.2.2
      obtain ⟨h0, h1⟩ := wf_u64 hs2
      obtain ⟨k, rfl⟩ := Int.eq_ofNat_of_zero_le h0
      simp at ha hs hg
      subst ha; subst hs; subst hg
      exact ⟨⟨a, k, g⟩, rfl, ha2, by simp only; omega⟩
def En.good (x : En) : Prop := x.small ∧ x.mark.seq < 18446744073709551616
theorem okc_entry {w : World} {n : Nat} {cs : List Value} (h : OKC Tryz.prog w n 49 cs) : ∃ x : En, cs = enL x ∧ x.good := by
  have c4 : Tryz.prog.cellsOf 49 = 4 := by kernel_rfl
  cases n with
  | zero => exact h.elim
  | succ n =>
    unfold OKC at h
    rw [Tryz.underlying49] at h
    simp only [c4] at h
    obtain ⟨hl, hi⟩ := h
    match cs, hl with
    | [x, y, z, v], _ =>
      simp [show Tryz.prog.cellsOf 47 = 3 by kernel_rfl, show Tryz.prog.cellsOf 9 = 1 by kernel_rfl] at hi
      obtain ⟨m, hm, hm2, hm3⟩ := okc_mark hi.1
      obtain ⟨b, hb, hb2⟩ := okc_str Tryz.underlying9 hi.2
      simp [mkRow] at hm hb
      obtain ⟨h1, h2, h3⟩ := hm
      subst h1; subst h2; subst h3; subst hb
      exact ⟨⟨m, b⟩, rfl, ⟨hm2, hb2⟩, hm3⟩
/-- Entries that lie in memory. -/
theorem okc_entries {w : World} {v : Value} (h : ∃ n, OKC Tryz.prog w n 27 [v]) : ∃ (l : List En) (a : Option Addr) (cap : Nat), v = .slice a l.length cap ∧ (∀ x ∈ l, x.good) ∧ RowIs w 4 v l.length (l.flatMap enL) ∧ l.length * 48 ≤ 140737488351232 := by
  obtain ⟨n, h⟩ := h
  cases n with
  | zero => exact h.elim
  | succ n =>
    obtain ⟨l, hg, hr, hby⟩ := OKC.row enL En.good 4 Tryz.underlying27 (by kernel_rfl) (by decide) (fun _ => rfl) (fun cs hc => okc_entry hc) h
    obtain ⟨a, cap, hv⟩ := hr.form
    rw [show Tryz.prog.bytesOf 49 = 48 by kernel_rfl] at hby
    exact ⟨l, a, cap, hv, hg, hr, hby⟩
end Go.Proofs.YtfcpnkalcijflaaGreatDoor
