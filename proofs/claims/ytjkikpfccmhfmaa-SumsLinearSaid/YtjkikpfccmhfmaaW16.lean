import Derived.Test.YtjkikpfccmhfmaaW11
import Derived.Test.YtjkikpfccmhfmaaMath2
import Derived.Test.YtjkikpfccmhfmaaKit4
import Derived.StillTailTactics
namespace Go.Proofs.Ytjkikpfccmhfmaa
open Go.RowKit
structure Tri where
  a : Nat
  b : Nat
  c : Nat
def Tri.cells (m : Tri) : List Value := [.int .u8 (m.a : Int), .int .u8 (m.b : Int), .int .u8 (m.c : Int)]
def Tri.good (m : Tri) : Prop := m.a < 256 ∧ m.b < 256 ∧ m.c < 256
def Tri.d (m : Tri) : Nat := m.a ^^^ m.b ^^^ m.c
theorem Tri.d_lt {m : Tri} (h : m.good) : m.d < 256 := Nat.xor_lt_two_pow (n := 8) (Nat.xor_lt_two_pow (n := 8) h.1 h.2.1) h.2.2
theorem okc_tri {w : World} {n : Nat} {cs : List Value} (h : OKC Try.prog w n 42 cs) : ∃ m : Tri, cs = m.cells ∧ m.good := by
  have c42 : Try.prog.cellsOf 42 = 3 := by kernel_rfl
  have c5 : Try.prog.cellsOf 5 = 1 := by kernel_rfl
  cases n with
  | zero => exact h.elim
  | succ n =>
    unfold OKC at h
    rw [Try.underlying42] at h
    simp only [c42, c5] at h
    obtain ⟨hl, hi⟩ := h
    match cs, hl with
    | [x, y, z], _ =>
      obtain ⟨a, ha, ha2⟩ := okc_u8 (hi 0 (by decide))
      obtain ⟨b, hb, hb2⟩ := okc_u8 (hi 1 (by decide))
      obtain ⟨c, hc, hc2⟩ := okc_u8 (hi 2 (by decide))
      simp at ha hb hc
      subst ha; subst hb; subst hc
      exact ⟨⟨a, b, c⟩, rfl, ha2, hb2, hc2⟩
theorem okc_tris {w : World} {v : Value} (h : ∃ n, OKC Try.prog w n 41 [v]) : ∃ (l : List Tri) (a : Option Addr) (cap : Nat), v = .slice a l.length cap ∧ (∀ m ∈ l, m.good) ∧ RowIs w 3 v l.length (l.flatMap Tri.cells) ∧ l.length ≤ 140737488351232 := by
  obtain ⟨n, h⟩ := h
  cases n with
  | zero => exact h.elim
  | succ n =>
    obtain ⟨l, hg, hr, hby⟩ := OKC.row Tri.cells Tri.good 3 Try.underlying41 (by kernel_rfl) (by decide) (fun _ => rfl) (fun cs hc => okc_tri hc) h
    obtain ⟨a, cap, hv⟩ := hr.form
    rw [show Try.prog.bytesOf 42 = 3 by kernel_rfl] at hby
    exact ⟨l, a, cap, hv, hg, hr, by omega⟩
theorem tri_at (l : List Tri) (k : Nat) (m : Tri) (h : l[k]? = some m) (r : Nat) (hr : r < 3) : (l.flatMap Tri.cells)[k * 3 + r]? = m.cells[r]? :=
  flatMap_at Tri.cells 3 (by decide) (fun _ => rfl) l k m h r hr _ rfl
/-- the plain law -/
theorem xor3 (a b c d : List Nat) (ha : ∀ x ∈ a, x < 256) (hb : ∀ x ∈ b, x < 256) (hc : ∀ x ∈ c, x < 256) (hd : ∀ x ∈ d, x < 256) (n : Nat) (la : a.length = n) (lb : b.length = n) (lc : c.length = n) (ld : d.length = n) (h : Crc.le d = Crc.le a ^^^ Crc.le b ^^^ Crc.le c) :
    Crc.on Crc.tab 0 a ^^^ Crc.on Crc.tab 0 b ^^^ Crc.on Crc.tab 0 c = Crc.on Crc.tab 0 d := by
  have key : ∀ x : List Nat, (∀ y ∈ x, y < 256) → x.length = n → Crc.on Crc.tab 0 x = 4294967295 ^^^ (Crc.it (8 * n) (Crc.inv 0) ^^^ Crc.it (8 * n) (Crc.le x)) := by
    intro x hx hl
    unfold Crc.on
    have hr := Crc.rlt (Crc.inv 0) (Crc.inv_lt 0) x hx
    rw [show ∀ q, Crc.inv q = 4294967295 - q from fun _ => rfl, ← xor_max _ hr, Crc.run_eq _ _ hx, hl, Crc.it_xor]
  rw [key a ha la, key b hb lb, key c hc lc, key d hd ld, h, Crc.it_xor, Crc.it_xor]
  generalize Crc.it (8 * n) (Crc.inv 0) = p
  generalize Crc.it (8 * n) (Crc.le a) = x
  generalize Crc.it (8 * n) (Crc.le b) = y
  generalize Crc.it (8 * n) (Crc.le c) = z
  generalize (4294967295 : Nat) = q
  apply Nat.eq_of_testBit_eq
  intro i
  simp only [Nat.testBit_xor]
  cases q.testBit i <;> cases p.testBit i <;> cases x.testBit i <;> cases y.testBit i <;> cases z.testBit i <;> rfl
theorem le_tri : ∀ (l : List Tri), (∀ m ∈ l, m.good) → Crc.le (l.map Tri.d) = Crc.le (l.map Tri.a) ^^^ Crc.le (l.map Tri.b) ^^^ Crc.le (l.map Tri.c)
  | [], _ => rfl
  | m :: l, h => by
    have hm := h m (by simp)
    have ih := le_tri l (fun x hx => h x (by simp [hx]))
    simp only [List.map_cons, Crc.le]
    rw [ih, Crc.join256 _ _ (Tri.d_lt hm), Crc.join256 _ _ hm.1, Crc.join256 _ _ hm.2.1, Crc.join256 _ _ hm.2.2]
    have e : ∀ x y : Nat, 256 * (x ^^^ y) = (256 * x) ^^^ (256 * y) := by
      intro x y
      have := Nat.shiftLeft_xor_distrib (a := x) (b := y) (i := 8)
      simpa [Nat.shiftLeft_eq, Nat.mul_comm] using this
    rw [e, e]
    unfold Tri.d
    apply Nat.eq_of_testBit_eq
    intro i
    simp only [Nat.testBit_xor]
    generalize m.a.testBit i = a1
    generalize m.b.testBit i = a2
    generalize m.c.testBit i = a3
    generalize (256 * Crc.le (l.map Tri.a)).testBit i = b1
    generalize (256 * Crc.le (l.map Tri.b)).testBit i = b2
    generalize (256 * Crc.le (l.map Tri.c)).testBit i = b3
    cases a1 <;> cases a2 <;> cases a3 <;> cases b1 <;> cases b2 <;> cases b3 <;> rfl
theorem tab_xor (x y : Nat) : Crc.tab x ^^^ Crc.tab y = Crc.tab (x ^^^ y) := (Crc.it_xor 8 x y).symm
end Go.Proofs.Ytjkikpfccmhfmaa
