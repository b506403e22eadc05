import Derived.Test.YtdkhcamckjidcaaSame1
import Derived.Test.YtdkhcamckjidcaaRead2
namespace Go.Proofs.Ytdkhcamckjidcaa
open Go.RowKit
theorem okc_str {P : Program} {w : World} {n : Nat} {t : TypeId} {cs : List Value} (ht : P.underlying t = some .string) (h : OKC P w n t cs) : ∃ s : ByteArray, cs = [.string s] ∧ s.size ≤ 140737488351232 := by
  cases n with
  | zero => exact h.elim
  | succ n => unfold OKC at h; rw [ht] at h; exact h
theorem okc_bool {P : Program} {w : World} {n : Nat} {t : TypeId} {cs : List Value} (ht : P.underlying t = some .bool) (h : OKC P w n t cs) : ∃ b : Bool, cs = [.bool b] := by
  cases n with
  | zero => exact h.elim
  | succ n => unfold OKC at h; rw [ht] at h; exact h
theorem okc_ch {w : World} {n : Nat} {cs : List Value} (h : OKC Try.prog w n 77 cs) : ∃ c : Ch, cs = c.cells := by
  have c77 : Try.prog.cellsOf 77 = 3 := by kernel_rfl
  have c9 : Try.prog.cellsOf 9 = 1 := by kernel_rfl
  have c4 : Try.prog.cellsOf 4 = 1 := by kernel_rfl
  cases n with
  | zero => exact h.elim
  | succ n =>
    unfold OKC at h
    rw [Try.underlying77] at h
    simp only [c77] at h
    obtain ⟨hl, hi⟩ := h
    match cs, hl with
    | [x, y, z], _ =>
      simp [c9, c4] at hi
      obtain ⟨a, ha, _⟩ := okc_str Try.underlying9 hi.1
      obtain ⟨b, hb, _⟩ := okc_str Try.underlying9 hi.2.1
      obtain ⟨g, hg⟩ := okc_bool Try.underlying4 hi.2.2
      simp at ha hb hg
      subst ha; subst hb; subst hg
      exact ⟨⟨a, b, g⟩, rfl⟩
theorem okc_chs {w : World} {n : Nat} {cs : List Value} (h : OKC Try.prog w n 30 cs) : ∃ (l : List Ch) (a : Option Addr) (cap : Nat), cs = [.slice a l.length cap] ∧ RowIs w 3 (.slice a l.length cap) l.length (l.flatMap Ch.cells) ∧ l.length * 40 ≤ 140737488351232 := by
  cases n with
  | zero => exact h.elim
  | succ n =>
    obtain ⟨v, rfl⟩ : ∃ v, cs = [v] := by
      have h' := h
      unfold OKC at h'
      rw [Try.underlying30] at h'
      rcases h' with h' | ⟨_, _, _, h', _⟩
      · exact ⟨_, h'⟩
      · exact ⟨_, h'⟩
    obtain ⟨l, _, hr, hby⟩ := OKC.row Ch.cells (fun _ => True) 3 Try.underlying30 (by kernel_rfl) (by decide) (fun _ => rfl) (fun cs hc => by obtain ⟨c, hc⟩ := okc_ch hc; exact ⟨c, hc, trivial⟩) h
    obtain ⟨a, cap, rfl⟩ := hr.form
    rw [show Try.prog.bytesOf 77 = 40 by kernel_rfl] at hby
    exact ⟨l, a, cap, rfl, hr, hby⟩
/-- An item that reads: where its changes lie. -/
def ItAt (w : World) (x : It) (a : Option Addr) (cap : Nat) : Prop := RowIs w 3 (.slice a x.chs.length cap) x.chs.length (x.chs.flatMap Ch.cells) ∧ x.chs.length * 40 ≤ 140737488351232
theorem okc_item {w : World} {n : Nat} {cs : List Value} (h : OKC Try.prog w n 34 cs) : ∃ (x : It) (a : Option Addr) (cap : Nat), cs = (x.row (.slice a x.chs.length cap)).toList ∧ ItAt w x a cap := by
  have c34 : Try.prog.cellsOf 34 = 11 := by kernel_rfl
  have c32 : Try.prog.cellsOf 32 = 8 := by kernel_rfl
  cases n with
  | zero => exact h.elim
  | succ n =>
    unfold OKC at h
    rw [Try.underlying34] at h
    simp only [c34] at h
    obtain ⟨hl, hi⟩ := h
    match cs, hl with
    | [v0, v1, v2, v3, v4, v5, v6, v7, v8, v9, v10], _ =>
      simp [c32, show Try.prog.cellsOf 22 = 1 by kernel_rfl, show Try.prog.cellsOf 5 = 1 by kernel_rfl, show Try.prog.cellsOf 28 = 1 by kernel_rfl] at hi
      obtain ⟨z0, z1, z2, z3⟩ := hi
      obtain ⟨i0, e0, w0⟩ := okc_int Try.underlying22 z0
      obtain ⟨i1, e1, _⟩ := okc_int Try.underlying5 z1
      obtain ⟨i2, e2, _⟩ := okc_int Try.underlying28 z2
      obtain ⟨h0, _⟩ := wf_u64 w0
      obtain ⟨k0, rfl⟩ := Int.eq_ofNat_of_zero_le h0
      cases n with
      | zero => exact z3.elim
      | succ n =>
        unfold OKC at z3
        rw [Try.underlying32] at z3
        simp only [c32] at z3
        obtain ⟨_, hi⟩ := z3
        simp [show Try.prog.cellsOf 29 = 1 by kernel_rfl, show Try.prog.cellsOf 9 = 1 by kernel_rfl, show Try.prog.cellsOf 4 = 1 by kernel_rfl, show Try.prog.cellsOf 3 = 1 by kernel_rfl, show Try.prog.cellsOf 30 = 1 by kernel_rfl] at hi
        obtain ⟨y3, y4, y5, y6, y7, y8, y9, y10⟩ := hi
        obtain ⟨i3, e3, _⟩ := okc_int Try.underlying29 y3
        obtain ⟨s4, e4, _⟩ := okc_str Try.underlying9 y4
        obtain ⟨s5, e5, _⟩ := okc_str Try.underlying9 y5
        obtain ⟨s6, e6, _⟩ := okc_str Try.underlying9 y6
        obtain ⟨b7, e7⟩ := okc_bool Try.underlying4 y7
        obtain ⟨s8, e8, _⟩ := okc_str Try.underlying9 y8
        obtain ⟨i9, e9, _⟩ := okc_int Try.underlying3 y9
        obtain ⟨l, a, cap, e10, hr, hb⟩ := okc_chs y10
        simp at e0 e1 e2 e3 e4 e5 e6 e7 e8 e9 e10
        subst e0 e1 e2 e3 e4 e5 e6 e7 e8 e9 e10
        exact ⟨⟨k0, i1, i2, i3, s4, s5, s6, b7, s8, i9, l⟩, a, cap, rfl, hr, hb⟩
def inRow (p : It × Option Addr × Nat) : List Value := (p.1.row (.slice p.2.1 p.1.chs.length p.2.2)).toList
theorem okc_items {w : World} {v : Value} (h : ∃ n, OKC Try.prog w n 23 [v]) : ∃ (l : List (It × Option Addr × Nat)) (a : Option Addr) (cap : Nat), v = .slice a l.length cap ∧ (∀ p ∈ l, ItAt w p.1 p.2.1 p.2.2) ∧ RowIs w 11 v l.length (l.flatMap inRow) := by
  obtain ⟨n, h⟩ := h
  cases n with
  | zero => exact h.elim
  | succ n =>
    obtain ⟨l, hg, hr, _⟩ := OKC.row inRow (fun p => ItAt w p.1 p.2.1 p.2.2) 11 Try.underlying23 (by kernel_rfl) (by decide) (fun _ => rfl) (fun cs hc => by
      obtain ⟨x, a, cap, he, hi⟩ := okc_item hc
      exact ⟨(x, a, cap), he, hi⟩) h
    obtain ⟨a, cap, hv⟩ := hr.form
    exact ⟨l, a, cap, hv, hg, hr⟩
theorem inRow_at (l : List (It × Option Addr × Nat)) (k : Nat) (p : It × Option Addr × Nat) (h : l[k]? = some p) (r : Nat) (hr : r < 11) : (l.flatMap inRow)[k * 11 + r]? = (inRow p)[r]? :=
  flatMap_at inRow 11 (by decide) (fun _ => rfl) l k p h r hr _ rfl
end Go.Proofs.Ytdkhcamckjidcaa
