/- Several texts in one: By0 MsR TwY TwN. No condition. -/
import Derived.Test.YtmopjmhapeinjaaGreatDoorGrA5
import Derived.Test.YtmopjmhapeinjaaGreatDoorGrA7
import Derived.Test.YtmopjmhapeinjaaGreatDoorGrA6
import Derived.Test.YtmopjmhapeinjaaGreatDoorGrA8
/- Bytes in a row. No condition. -/
namespace Go.Proofs.YtmopjmhapeinjaaGreatDoor
open Go.RowKit
def byL (l : List Nat) : List Value := l.map fun (n : Nat) => .int .u8 (n : Int)
theorem el_u8 : ElemIs Tryz.prog 5 1 1 := by
  refine ElemIs.mk (z := .int .u8 0) (by kernel_rfl) (by rfl) (by decide)
end Go.Proofs.YtmopjmhapeinjaaGreatDoor

/- Messages and acts, as parameters read, where all that comes in is of bulk at most 1048576. No condition. -/
namespace Go.Proofs.YtmopjmhapeinjaaGreatDoor
open Go.RowKit
set_option maxRecDepth 100000
set_option maxHeartbeats 4000000
def Ch.tiny (c : Ch) : Prop := c.key.size ≤ 1048576 ∧ c.val.size ≤ 1048576
def Ak.tiny (x : Ak) : Prop := x.key.size ≤ 1048576 ∧ x.val.size ≤ 1048576 ∧ x.old.size ≤ 1048576 ∧ x.to.size ≤ 1048576 ∧ x.chs.length ≤ 1048576 ∧ ∀ c ∈ x.chs, c.tiny
def Rw.tiny (r : Rw) : Prop := r.key.size ≤ 1048576 ∧ r.val.size ≤ 1048576
def rwsTiny (l : List Rw) : Prop := l.length ≤ 1048576 ∧ ∀ r ∈ l, r.tiny
theorem okd_ch {w : World} {n : Nat} {cs : List Value} (h : OKD Tryz.prog w n 93 cs) : ∃ c : Ch, cs = c.cells ∧ c.tiny := by
  have c77 : Tryz.prog.cellsOf 93 = 3 := by kernel_rfl
  cases n with
  | zero => exact h.elim
  | succ n =>
    unfold OKD at h
    rw [Tryz.underlying93] at h
    simp only [c77] at h
    obtain ⟨hl, hi⟩ := h
    match cs, hl with
    | [x, y, z], _ =>
      simp [show Tryz.prog.cellsOf 9 = 1 by kernel_rfl, show Tryz.prog.cellsOf 4 = 1 by kernel_rfl] at hi
      obtain ⟨a, ha, ha2⟩ := okd_str Tryz.underlying9 hi.1
      obtain ⟨b, hb, hb2⟩ := okd_str Tryz.underlying9 hi.2.1
      obtain ⟨g, hg⟩ := okd_bool Tryz.underlying4 hi.2.2
      simp at ha hb hg
      subst ha; subst hb; subst hg
      exact ⟨⟨a, b, g⟩, rfl, ha2, hb2⟩
theorem okd_chs {w : World} {n : Nat} {cs : List Value} (h : OKD Tryz.prog w n 48 cs) : ∃ (l : List Ch) (a : Option Addr) (cap : Nat), cs = [.slice a l.length cap] ∧ (∀ c ∈ l, c.tiny) ∧ RowIs w 3 (.slice a l.length cap) l.length (l.flatMap Ch.cells) ∧ l.length ≤ 1048576 :=
  okd_row Ch.cells Ch.tiny 3 Tryz.underlying48 (by kernel_rfl) (by decide) (fun _ => rfl) (fun _ _ hc => okd_ch hc) h
theorem Ch.tiny.small {c : Ch} (h : c.tiny) : c.small := ⟨by have := h.1; omega, by have := h.2; omega⟩
/-- An ask in memory, small. -/
def AkAt (w : World) (x : Ak) (a : Option Addr) (cap : Nat) : Prop := ChsAt w x.chs a cap ∧ x.small ∧ x.tiny
theorem AkAt.ext {w w' : World} {x : Ak} {a : Option Addr} {cap : Nat} (h : AkAt w x a cap) (hE : Ext w w') : AkAt w' x a cap := ⟨h.1.ext hE, h.2⟩
theorem okd_ask {w : World} {n : Nat} {cs : List Value} (h : OKD Tryz.prog w n 50 cs) : ∃ (x : Ak) (a : Option Addr) (cap : Nat), cs = (x.row (.slice a x.chs.length cap)).toList ∧ AkAt w x a cap := by
  have c32 : Tryz.prog.cellsOf 50 = 8 := by kernel_rfl
  cases n with
  | zero => exact h.elim
  | succ n =>
    unfold OKD at h
    rw [Tryz.underlying50] at h
    simp only [c32] at h
    obtain ⟨hl, hi⟩ := h
    match cs, hl with
    | [v3, v4, v5, v6, v7, v8, v9, v10], _ =>
      simp [show Tryz.prog.cellsOf 47 = 1 by kernel_rfl, show Tryz.prog.cellsOf 9 = 1 by kernel_rfl, show Tryz.prog.cellsOf 4 = 1 by kernel_rfl, show Tryz.prog.cellsOf 3 = 1 by kernel_rfl, show Tryz.prog.cellsOf 48 = 1 by kernel_rfl] at hi
      obtain ⟨y3, y4, y5, y6, y7, y8, y9, y10⟩ := hi
      obtain ⟨i3, e3, w3⟩ := okd_int Tryz.underlying47 y3
      obtain ⟨s4, e4, w4⟩ := okd_str Tryz.underlying9 y4
      obtain ⟨s5, e5, w5⟩ := okd_str Tryz.underlying9 y5
      obtain ⟨s6, e6, w6⟩ := okd_str Tryz.underlying9 y6
      obtain ⟨b7, e7⟩ := okd_bool Tryz.underlying4 y7
      obtain ⟨s8, e8, w8⟩ := okd_str Tryz.underlying9 y8
      obtain ⟨i9, e9, w9⟩ := okd_int Tryz.underlying3 y9
      obtain ⟨l, a, cap, e10, ht, hr, hn⟩ := okd_chs y10
      simp at e3 e4 e5 e6 e7 e8 e9 e10
      subst e3 e4 e5 e6 e7 e8 e9 e10
      exact ⟨⟨i3, s4, s5, s6, b7, s8, i9, l⟩, a, cap, rfl, ⟨hr, by simp only; omega, fun c hc => (ht c hc).small⟩, ⟨wf_u8 w3, by simp only; omega, by simp only; omega, by simp only; omega, by simp only; omega, wf_i64' w9⟩, w4, w5, w6, w8, hn, ht⟩
def It.av (x : It) (a : Option Addr) (cap : Nat) : Prop := x.v = .slice a x.ask.chs.length cap
def It.goodD (w : World) (x : It) : Prop := (∃ a c, x.v = .slice a x.ask.chs.length c ∧ AkAt w x.ask a c)
theorem okd_item {w : World} {n : Nat} {cs : List Value} (h : OKD Tryz.prog w n 100 cs) : ∃ x : It, cs = x.cells ∧ x.goodD w := by
  have c5 : Tryz.prog.cellsOf 100 = 11 := by kernel_rfl
  cases n with
  | zero => exact h.elim
  | succ n =>
    unfold OKD at h
    rw [Tryz.underlying100] at h
    simp only [c5] at h
    obtain ⟨hl, hi⟩ := h
    match cs, hl with
    | [v0, v1, v2, v3, v4, v5, v6, v7, v8, v9, v10], _ =>
      simp [show Tryz.prog.cellsOf 54 = 1 by kernel_rfl, show Tryz.prog.cellsOf 5 = 1 by kernel_rfl, show Tryz.prog.cellsOf 53 = 1 by kernel_rfl, show Tryz.prog.cellsOf 50 = 8 by kernel_rfl] at hi
      obtain ⟨y0, y1, y2, y3⟩ := hi
      obtain ⟨i0, e0, w0⟩ := okd_int Tryz.underlying54 y0
      obtain ⟨i1, e1, w1⟩ := okd_int Tryz.underlying5 y1
      obtain ⟨i2, e2, w2⟩ := okd_int Tryz.underlying53 y2
      obtain ⟨n0, rfl⟩ := Int.eq_ofNat_of_zero_le (wf_u64 w0).1
      obtain ⟨n1, rfl⟩ := Int.eq_ofNat_of_zero_le (wf_u8 w1).1
      obtain ⟨n2, rfl⟩ := Int.eq_ofNat_of_zero_le (wf_u32 w2).1
      obtain ⟨x, a, cap, e3, hx⟩ := okd_ask y3
      simp at e0 e1 e2
      refine ⟨⟨n0, n1, n2, x, .slice a x.chs.length cap⟩, ?_, a, cap, rfl, hx⟩
      rw [e0, e1, e2, e3]
      rfl
theorem okd_items {w : World} {n : Nat} {cs : List Value} (h : OKD Tryz.prog w n 57 cs) : ∃ (l : List It) (a : Option Addr) (cap : Nat), cs = [.slice a l.length cap] ∧ (∀ x ∈ l, x.goodD w) ∧ RowIs w 11 (.slice a l.length cap) l.length (l.flatMap It.cells) ∧ l.length ≤ 1048576 :=
  okd_row It.cells (It.goodD w) 11 Tryz.underlying57 (by kernel_rfl) (by decide) (fun _ => rfl) (fun _ _ hc => okd_item hc) h
theorem okd_rw {w : World} {n : Nat} {cs : List Value} (h : OKD Tryz.prog w n 134 cs) : ∃ r : Rw, cs = rwL r ∧ r.tiny := by
  have c2 : Tryz.prog.cellsOf 134 = 2 := by kernel_rfl
  cases n with
  | zero => exact h.elim
  | succ n =>
    unfold OKD at h
    rw [Tryz.underlying134] at h
    simp only [c2] at h
    obtain ⟨hl, hi⟩ := h
    match cs, hl with
    | [v0, v1], _ =>
      simp [show Tryz.prog.cellsOf 9 = 1 by kernel_rfl] at hi
      obtain ⟨y0, y1⟩ := hi
      obtain ⟨s0, e0, h0⟩ := okd_str Tryz.underlying9 y0
      obtain ⟨s1, e1, h1⟩ := okd_str Tryz.underlying9 y1
      simp at e0 e1
      exact ⟨⟨s0, s1⟩, by rw [e0, e1]; rfl, h0, h1⟩
theorem okd_rws {w : World} {n : Nat} {cs : List Value} (h : OKD Tryz.prog w n 58 cs) : ∃ (l : List Rw) (a : Option Addr) (cap : Nat), cs = [.slice a l.length cap] ∧ (∀ r ∈ l, r.tiny) ∧ RowIs w 2 (.slice a l.length cap) l.length (l.flatMap rwL) ∧ l.length ≤ 1048576 :=
  okd_row rwL Rw.tiny 2 Tryz.underlying58 (by kernel_rfl) (by decide) (fun _ => rfl) (fun _ _ hc => okd_rw hc) h
theorem okd_reply {w : World} {n : Nat} {cs : List Value} (h : OKD Tryz.prog w n 61 cs) : ∃ (e : Int) (y : Bool) (l : List Rw) (a : Option Addr) (cap : Nat), cs = [.int .i64 e, .bool y, .slice a l.length cap] ∧ rwsTiny l ∧ RowIs w 2 (.slice a l.length cap) l.length (l.flatMap rwL) := by
  have c3 : Tryz.prog.cellsOf 61 = 3 := by kernel_rfl
  cases n with
  | zero => exact h.elim
  | succ n =>
    unfold OKD at h
    rw [Tryz.underlying61] at h
    simp only [c3] at h
    obtain ⟨hl, hi⟩ := h
    match cs, hl with
    | [v0, v1, v2], _ =>
      simp [show Tryz.prog.cellsOf 26 = 1 by kernel_rfl, show Tryz.prog.cellsOf 4 = 1 by kernel_rfl, show Tryz.prog.cellsOf 58 = 1 by kernel_rfl] at hi
      obtain ⟨z0, z1, z2⟩ := hi
      obtain ⟨i0, e0, _⟩ := okd_int Tryz.underlying26 z0
      obtain ⟨b1, e1⟩ := okd_bool Tryz.underlying4 z1
      obtain ⟨l, a, cap, e2, ht, hr, hn⟩ := okd_rws z2
      simp at e0 e1 e2
      exact ⟨i0, b1, l, a, cap, by rw [e0, e1, e2], ⟨hn, ht⟩, hr⟩
def Sa.goodD (w : World) (p : Sa) : Prop := (∃ a c, p.v = .slice a p.rows.length c ∧ RowIs w 2 (.slice a p.rows.length c) p.rows.length (p.rows.flatMap rwL)) ∧ rwsTiny p.rows
theorem okd_sa {w : World} {n : Nat} {cs : List Value} (h : OKD Tryz.prog w n 136 cs) : ∃ p : Sa, cs = p.cells ∧ p.goodD w := by
  have c5 : Tryz.prog.cellsOf 136 = 5 := by kernel_rfl
  cases n with
  | zero => exact h.elim
  | succ n =>
    unfold OKD at h
    rw [Tryz.underlying136] at h
    simp only [c5] at h
    obtain ⟨hl, hi⟩ := h
    match cs, hl with
    | [v0, v1, v2, v3, v4], _ =>
      simp [show Tryz.prog.cellsOf 5 = 1 by kernel_rfl, show Tryz.prog.cellsOf 53 = 1 by kernel_rfl, show Tryz.prog.cellsOf 61 = 3 by kernel_rfl] at hi
      obtain ⟨y0, y1, y2⟩ := hi
      obtain ⟨i0, e0, w0⟩ := okd_int Tryz.underlying5 y0
      obtain ⟨i1, e1, w1⟩ := okd_int Tryz.underlying53 y1
      obtain ⟨n0, rfl⟩ := Int.eq_ofNat_of_zero_le (wf_u8 w0).1
      obtain ⟨n1, rfl⟩ := Int.eq_ofNat_of_zero_le (wf_u32 w1).1
      obtain ⟨i2, b3, l, a, cap, e2, ht, hr⟩ := okd_reply y2
      simp at e0 e1 e2
      refine ⟨⟨n0, n1, i2, b3, l, .slice a l.length cap⟩, ?_, ⟨a, cap, rfl, hr⟩, ht⟩
      unfold Sa.cells
      rw [e0, e1, e2.1, e2.2.1, e2.2.2]
theorem okd_sas {w : World} {n : Nat} {cs : List Value} (h : OKD Tryz.prog w n 59 cs) : ∃ (l : List Sa) (a : Option Addr) (cap : Nat), cs = [.slice a l.length cap] ∧ (∀ x ∈ l, x.goodD w) ∧ RowIs w 5 (.slice a l.length cap) l.length (l.flatMap Sa.cells) ∧ l.length ≤ 1048576 :=
  okd_row Sa.cells (Sa.goodD w) 5 Tryz.underlying59 (by kernel_rfl) (by decide) (fun _ => rfl) (fun _ _ hc => okd_sa hc) h
theorem okd_nums {w : World} {n : Nat} {cs : List Value} (h : OKD Tryz.prog w n 56 cs) : ∃ (l : List Nat) (a : Option Addr) (cap : Nat), cs = [.slice a l.length cap] ∧ RowIs w 1 (.slice a l.length cap) l.length (nuL l) ∧ l.length ≤ 1048576 := by
  obtain ⟨l, a, cap, e, _, hr, hn⟩ := okd_row (fun (n : Nat) => [Value.int .u64 (n : Int)]) (fun _ => True) 1 Tryz.underlying56 (by kernel_rfl) (by decide) (fun _ => rfl) (fun _ _ hc => by
    obtain ⟨i, e, w0⟩ := okd_int Tryz.underlying54 hc
    obtain ⟨n0, rfl⟩ := Int.eq_ofNat_of_zero_le (wf_u64 w0).1
    exact ⟨n0, e, trivial⟩) h
  exact ⟨l, a, cap, e, by rw [← List.map_eq_flatMap] at hr; exact hr, hn⟩
theorem okd_bytes {w : World} {n : Nat} {cs : List Value} (h : OKD Tryz.prog w n 55 cs) : ∃ (l : List Nat) (a : Option Addr) (cap : Nat), cs = [.slice a l.length cap] ∧ RowIs w 1 (.slice a l.length cap) l.length (byL l) ∧ l.length ≤ 1048576 := by
  obtain ⟨l, a, cap, e, _, hr, hn⟩ := okd_row (fun (n : Nat) => [Value.int .u8 (n : Int)]) (fun _ => True) 1 Tryz.underlying55 (by kernel_rfl) (by decide) (fun _ => rfl) (fun _ _ hc => by
    obtain ⟨i, e, w0⟩ := okd_int Tryz.underlying5 hc
    obtain ⟨n0, rfl⟩ := Int.eq_ofNat_of_zero_le (wf_u8 w0).1
    exact ⟨n0, e, trivial⟩) h
  exact ⟨l, a, cap, e, by rw [← List.map_eq_flatMap] at hr; exact hr, hn⟩
/-- A message: its numbers, its lists, and where they lie. -/
structure Ms where
  m : Mg
  ch : List Nat
  ha : List Nat
  it : List It
  ro : List Rw
  sa : List Sa
  e : Int
  yes : Bool
  rr : List Rw
def Ms.row (x : Ms) (v8 v9 v10 v11 v12 v15 : Value) : Array Value := x.m.row v8 v9 v10 v11 v12 (.int .i64 x.e) (.bool x.yes) v15
/-- Where a message's lists lie. -/
structure Ml where
  a8 : Option Addr
  c8 : Nat
  a9 : Option Addr
  c9 : Nat
  aI : Option Addr
  cI : Nat
  aR : Option Addr
  cR : Nat
  aS : Option Addr
  cS : Nat
  aY : Option Addr
  cY : Nat
def Ms.arr (x : Ms) (p : Ml) : Array Value := x.row (.slice p.a8 x.ch.length p.c8) (.slice p.a9 x.ha.length p.c9) (.slice p.aI x.it.length p.cI) (.slice p.aR x.ro.length p.cR) (.slice p.aS x.sa.length p.cS) (.slice p.aY x.rr.length p.cY)
structure MsAt (w : World) (x : Ms) (p : Ml) : Prop where
  ch : RowIs w 1 (.slice p.a8 x.ch.length p.c8) x.ch.length (byL x.ch)
  ha : RowIs w 1 (.slice p.a9 x.ha.length p.c9) x.ha.length (nuL x.ha)
  it : RowIs w 11 (.slice p.aI x.it.length p.cI) x.it.length (x.it.flatMap It.cells)
  its : ∀ y ∈ x.it, y.goodD w
  ro : RowIs w 2 (.slice p.aR x.ro.length p.cR) x.ro.length (x.ro.flatMap rwL)
  sa : RowIs w 5 (.slice p.aS x.sa.length p.cS) x.sa.length (x.sa.flatMap Sa.cells)
  sas : ∀ y ∈ x.sa, y.goodD w
  rr : RowIs w 2 (.slice p.aY x.rr.length p.cY) x.rr.length (x.rr.flatMap rwL)
theorem It.goodD.ext {w w' : World} {x : It} (h : x.goodD w) (hE : Ext w w') : x.goodD w' := by
  obtain ⟨a, c, h1, h2⟩ := h
  exact ⟨a, c, h1, h2.ext hE⟩
theorem Sa.goodD.ext {w w' : World} {x : Sa} (h : x.goodD w) (hE : Ext w w') : x.goodD w' := by
  obtain ⟨⟨a, c, h1, h2⟩, h3⟩ := h
  exact ⟨⟨a, c, h1, h2.ext hE⟩, h3⟩
theorem MsAt.ext {w w' : World} {x : Ms} {p : Ml} (h : MsAt w x p) (hE : Ext w w') : MsAt w' x p :=
  ⟨h.ch.ext hE, h.ha.ext hE, h.it.ext hE, fun y hy => (h.its y hy).ext hE, h.ro.ext hE, h.sa.ext hE, fun y hy => (h.sas y hy).ext hE, h.rr.ext hE⟩
structure Ms.tiny (x : Ms) : Prop where
  ch : x.ch.length ≤ 1048576
  ha : x.ha.length ≤ 1048576
  it : x.it.length ≤ 1048576
  its : ∀ y ∈ x.it, y.ask.tiny
  ro : rwsTiny x.ro
  sa : x.sa.length ≤ 1048576
  sas : ∀ y ∈ x.sa, rwsTiny y.rows
  rr : rwsTiny x.rr
/-- The numbers of a message are such. -/
def Mg.fits (m : Mg) : Prop := (0 ≤ m.say ∧ m.say < 256) ∧ (0 ≤ m.fr ∧ m.fr < 256) ∧ (0 ≤ m.to ∧ m.to < 256) ∧ (0 ≤ m.lv ∧ m.lv < 256) ∧ (0 ≤ m.num ∧ m.num < 4294967296)
theorem okd_msg {w : World} {n : Nat} {cs : List Value} (h : OKD Tryz.prog w n 63 cs) : ∃ (x : Ms) (p : Ml), cs = (x.arr p).toList ∧ MsAt w x p ∧ x.tiny ∧ x.m.fits := by
  have c16 : Tryz.prog.cellsOf 63 = 16 := by kernel_rfl
  cases n with
  | zero => exact h.elim
  | succ n =>
    unfold OKD at h
    rw [Tryz.underlying63] at h
    simp only [c16] at h
    obtain ⟨hl, hi⟩ := h
    match cs, hl with
    | [v0, v1, v2, v3, v4, v5, v6, v7, v8, v9, v10, v11, v12, v13, v14, v15], _ =>
      simp [show Tryz.prog.cellsOf 52 = 1 by kernel_rfl, show Tryz.prog.cellsOf 5 = 1 by kernel_rfl, show Tryz.prog.cellsOf 53 = 1 by kernel_rfl, show Tryz.prog.cellsOf 51 = 1 by kernel_rfl, show Tryz.prog.cellsOf 54 = 1 by kernel_rfl, show Tryz.prog.cellsOf 55 = 1 by kernel_rfl, show Tryz.prog.cellsOf 56 = 1 by kernel_rfl, show Tryz.prog.cellsOf 57 = 1 by kernel_rfl, show Tryz.prog.cellsOf 58 = 1 by kernel_rfl, show Tryz.prog.cellsOf 59 = 1 by kernel_rfl, show Tryz.prog.cellsOf 61 = 3 by kernel_rfl] at hi
      obtain ⟨y0, y1, y2, y3, y4, y5, y6, y7, y8, y9, y10, y11, y12, y13⟩ := hi
      obtain ⟨i0, e0, w0⟩ := okd_int Tryz.underlying52 y0
      obtain ⟨i1, e1, w1⟩ := okd_int Tryz.underlying5 y1
      obtain ⟨i2, e2, w2⟩ := okd_int Tryz.underlying5 y2
      obtain ⟨i3, e3, w3⟩ := okd_int Tryz.underlying53 y3
      obtain ⟨i4, e4, w4⟩ := okd_int Tryz.underlying51 y4
      obtain ⟨i5, e5, w5⟩ := okd_int Tryz.underlying53 y5
      obtain ⟨i6, e6, w6⟩ := okd_int Tryz.underlying54 y6
      obtain ⟨i7, e7, w7⟩ := okd_int Tryz.underlying54 y7
      obtain ⟨l8, a8, p8, e8, r8, n8⟩ := okd_bytes y8
      obtain ⟨l9, a9, p9, e9, r9, n9⟩ := okd_nums y9
      obtain ⟨lI, aI, pI, eI, tI, rI, nI⟩ := okd_items y10
      obtain ⟨lR, aR, pR, eR, tR, rR, nR⟩ := okd_rws y11
      obtain ⟨lS, aS, pS, eS, tS, rS, nS⟩ := okd_sas y12
      obtain ⟨i13, b14, lY, aY, pY, eY, tY, rY⟩ := okd_reply y13
      simp at e0 e1 e2 e3 e4 e5 e6 e7 e8 e9 eI eR eS eY
      refine ⟨⟨⟨i0, i1, i2, i3, i4, i5, i6, i7⟩, l8, l9, lI, lR, lS, i13, b14, lY⟩, ⟨a8, p8, a9, p9, aI, pI, aR, pR, aS, pS, aY, pY⟩, ?_, ⟨r8, r9, rI, tI, rR, rS, tS, rY⟩, ⟨n8, n9, nI, fun y hy => ?_, ⟨nR, tR⟩, nS, fun y hy => (tS y hy).2, tY⟩, wf_u8 w0, wf_u8 w1, wf_u8 w2, wf_u8 w4, wf_u32 w5⟩
      · rw [e0, e1, e2, e3, e4, e5, e6, e7, e8, e9, eI, eR, eS, eY.1, eY.2.1, eY.2.2]
        rfl
      · obtain ⟨_, _, _, hx⟩ := tI y hy
        exact hx.2.2
/-- An act. -/
structure Ac where
  kind : Nat
  ask : Ak
  ad : Option Addr
  cap : Nat
  lv : Nat
  dst : Nat
  ms : Ms
  ml : Ml
def Ac.cells (x : Ac) : List Value := [.int .u8 (x.kind : Int)] ++ (x.ask.row (.slice x.ad x.ask.chs.length x.cap)).toList ++ [.int .u8 (x.lv : Int), .int .u8 (x.dst : Int)] ++ (x.ms.arr x.ml).toList
structure Ac.good (w : World) (x : Ac) : Prop where
  kind : x.kind < 256
  lv : x.lv < 256
  dst : x.dst < 256
  ask : AkAt w x.ask x.ad x.cap
  ms : MsAt w x.ms x.ml
  tiny : x.ms.tiny
  fits : x.ms.m.fits
theorem Ac.good.ext {w w' : World} {x : Ac} (h : x.good w) (hE : Ext w w') : x.good w' := ⟨h.kind, h.lv, h.dst, h.ask.ext hE, h.ms.ext hE, h.tiny, h.fits⟩
theorem okd_act {w : World} {n : Nat} {cs : List Value} (h : OKD Tryz.prog w n 65 cs) : ∃ x : Ac, cs = x.cells ∧ x.good w := by
  have c27 : Tryz.prog.cellsOf 65 = 27 := by kernel_rfl
  cases n with
  | zero => exact h.elim
  | succ n =>
    unfold OKD at h
    rw [Tryz.underlying65] at h
    simp only [c27] at h
    obtain ⟨hl, hi⟩ := h
    match cs, hl with
    | [v0, u0, u1, u2, u3, u4, u5, u6, u7, v1, v2, t0, t1, t2, t3, t4, t5, t6, t7, t8, t9, t10, t11, t12, t13, t14, t15], _ =>
      simp [show Tryz.prog.cellsOf 5 = 1 by kernel_rfl, show Tryz.prog.cellsOf 51 = 1 by kernel_rfl, show Tryz.prog.cellsOf 50 = 8 by kernel_rfl, show Tryz.prog.cellsOf 63 = 16 by kernel_rfl] at hi
      obtain ⟨y0, y1, y2, y3, y4⟩ := hi
      obtain ⟨i0, e0, w0⟩ := okd_int Tryz.underlying5 y0
      obtain ⟨x, a, cap, e1, hx⟩ := okd_ask y1
      obtain ⟨i2, e2, w2⟩ := okd_int Tryz.underlying51 y2
      obtain ⟨i3, e3, w3⟩ := okd_int Tryz.underlying5 y3
      obtain ⟨ms, ml, e4, hm, ht, hf⟩ := okd_msg y4
      have b0 := wf_u8 w0
      have b2 := wf_u8 w2
      have b3 := wf_u8 w3
      obtain ⟨n0, rfl⟩ := Int.eq_ofNat_of_zero_le b0.1
      obtain ⟨n2, rfl⟩ := Int.eq_ofNat_of_zero_le b2.1
      obtain ⟨n3, rfl⟩ := Int.eq_ofNat_of_zero_le b3.1
      simp only [List.cons.injEq, and_true] at e0 e2 e3
      refine ⟨⟨n0, x, a, cap, n2, n3, ms, ml⟩, ?_, ⟨by simp only; omega, by simp only; omega, by simp only; omega, hx, hm, ht, hf⟩⟩
      unfold Ac.cells
      simp only
      rw [← e1, ← e4, e0, e2, e3]
      rfl
theorem okd_acts {w : World} {v : Value} (h : ∃ n, OKD Tryz.prog w n 22 [v]) : ∃ (l : List Ac) (a : Option Addr) (cap : Nat), v = .slice a l.length cap ∧ (∀ x ∈ l, x.good w) ∧ RowIs w 27 (.slice a l.length cap) l.length (l.flatMap Ac.cells) ∧ l.length ≤ 1048576 := by
  obtain ⟨n, h⟩ := h
  obtain ⟨l, a, cap, e, hg, hr, hn⟩ := okd_row Ac.cells (Ac.good w) 27 Tryz.underlying22 (by kernel_rfl) (by decide) (fun _ => rfl) (fun _ _ hc => okd_act hc) h
  simp at e
  exact ⟨l, a, cap, e, hg, hr, hn⟩
end Go.Proofs.YtmopjmhapeinjaaGreatDoor

/- A twin of bytes, with a mark in the room behind; is it still what it was made of? (Out of XTwN.) No condition. -/
namespace Go.Proofs.YtmopjmhapeinjaaGreatDoor
open Go.RowKit
set_option maxRecDepth 100000
set_option maxHeartbeats 2000000
/-- A twin: the numbers, and behind them the mark, in a block of the call's own. -/
def TwY (w : World) (base : Nat) (b n cap : Nat) (l : List Nat) : Prop := OwnC w base 5 1 (.slice (some ⟨b, 0, none⟩) (n + 1) cap) (n + 1) (byL (l ++ [77]))
theorem TwY.ext {w w' : World} {base b n cap : Nat} {l : List Nat} (h : TwY w base b n cap l) (he : Ext w w') : TwY w' base b n cap l := OwnC.ext h he
theorem by_lenL (l : List Nat) : (byL l).length = l.length := by unfold byL; rw [List.length_map]
theorem TwY.own {w : World} {base b n cap : Nat} {l : List Nat} (h : TwY w base b n cap l) (hn : n = l.length) : OwnC w base 5 1 (.slice (some ⟨b, 0, none⟩) n cap) n (byL l) := by
  have := OwnC.cut (m := n) h (by omega)
  rw [show byL (l ++ [77]) = byL l ++ byL [77] from List.map_append, Nat.mul_one, ← show (byL l).length = n by rw [hn]; exact by_lenL l, List.take_left] at this
  rw [by_lenL, ← hn] at this
  exact this
theorem TwY.cap {w : World} {base b n cap : Nat} {l : List Nat} (h : TwY w base b n cap l) : n + 1 ≤ cap := by
  obtain ⟨a, c, e, h1, _⟩ := OwnC.form h
  injection e with _ _ e
  omega
theorem twinY_any (w : World) (l : List Nat) (a : Option Addr) (cap rn : Nat) (hrn : rn = l.length) (hr : RowIs w 1 (.slice a rn cap) rn (byL l)) (hn : rn ≤ 50000) :
    Calls Tryz.prog 38 #[.slice a rn cap] w fun e w' => ∃ b cap', e = .returned (.slice (some ⟨b, 0, none⟩) rn cap') ∧ TwY w' w.heap.size b rn cap' l ∧ Ext w w' := by
  have hrn' := Lib.hid hrn
  have hr' := Lib.hid hr
  clear hrn hr
  obtain ⟨ir, hir, hiz, his, hib⟩ : ∃ i, Tryz.prog.info? 5 = some i ∧ i.zero = some (.int .u8 0) ∧ i.size = 1 ∧ i.bytes = 1 := by
    have h : (Tryz.prog.info? 5).map (fun i => (i.zero, i.size, i.bytes)) = some (some (.int .u8 0), 1, 1) := by kernel_rfl
    obtain ⟨i, hi, he⟩ := Option.map_eq_some_iff.1 h
    simp only [Prod.mk.injEq] at he
    exact ⟨i, hi, he.1, he.2.1, he.2.2⟩
  go_enter Tryz.func38, Tryz.ntmps38
  go_wp2_with (first | (refine wpList_make_own w (by rfl) (.const (.int .i64 0)) (.tmp 7) 55 (by rfl) w.heap.size 5 ir _ 1 Tryz.underlying55 hir hiz his .i64 .i64 ((rn : Int) + 1) (rn + 1) (by rfl) (by rfl) (by omega) (by rw [hib]; omega) (by unfold maxLen; omega) (Nat.le_refl _) ?_; go_loud (intro w1 hown1 hgr1; have hE1 : Ext w w1 := Below.grown (Below.refl _ _) hgr1 (Nat.le_refl _) (fun _ h => by cases h))) | fail)
  go_wp2_with fail
  go_loopw [3, 4] (fun out i wr => ∃ (k : Nat) (oa : Option Addr) (oc : Nat), k ≤ rn ∧ i = .int .i64 k ∧ out = .slice oa k oc ∧ OwnC wr w.heap.size 5 1 (.slice oa k oc) k (byL (l.take k)) ∧ Ext w wr) (fun _ i _ => rn - (intOf i).toNat)
  case atStart => exact ⟨0, _, _, by omega, rfl, rfl, OwnC.of_own hown1, hE1⟩
  case round =>
    obtain ⟨k, oa, oc, hk, rfl, rfl, hown, hEr⟩ := hrel
    by_cases hlt : k < rn
    · have hli : (k : Int) < (rn : Int) := by omega
      obtain ⟨r, hr⟩ : ∃ r, l[k]? = some r := ⟨_, List.getElem?_eq_getElem (by rw [← hrn'.out]; exact hlt)⟩
      obtain ⟨b, off, hat⟩ := (hr'.out.ext hEr).at
      obtain ⟨rfl, _, hd⟩ := hat (by omega)
      have hkc := hd k (by omega)
      rw [byL, List.getElem?_map, hr] at hkc
      have hrg : wr.cell? ⟨b, off + k, none⟩ = some (.int .u8 (r : Int)) := hkc
      have htk : l.take (k + 1) = l.take k ++ [r] := by rw [List.take_add_one, hr]; rfl
      have htk' := Lib.hid htk
      have hsz := hEr.size
      clear hat hd hr htk hkc
      go_wp2_with (first | (at_builtin; go_loud (refine wpList_append_c (by rfl) (.tmp 15) (.tmp 20) 55 5 (by rfl) Tryz.underlying55 el_u8 wr w.heap.size k _ (.slice oa k oc) (by rfl) hown #[.int .u8 (r : Int)] (by rfl) (by rfl) (by simp [Value.oneCell']) (by omega) (by omega) hsz ?_); go_loud (intro v' w3 hA3; obtain ⟨oa', oc', rfl, _⟩ := hA3.own.form; have hown2 := hA3.own; have hX3 : Ext w w3 := Below.trans hEr hA3.below)) | fail)
      go_roundw
      case rel =>
        refine ⟨k + 1, oa', oc', by omega, by go_num, rfl, ?_, hX3⟩
        rw [htk'.out, byL, List.map_append]
        simpa [byL] using hown2
      case measure => simp [intOf]; omega
    · have hli : ¬ (k : Int) < (rn : Int) := by omega
      obtain rfl : k = rn := by omega
      rw [List.take_of_length_le (by rw [← hrn'.out]; exact Nat.le_refl _)] at hown
      clear hrn' hr' hown1
      have hsz := hEr.size
      go_wp2_with (first | (at_builtin; go_loud (refine wpList_append_c (by rfl) (.tmp 22) (.tmp 23) 55 5 (by rfl) Tryz.underlying55 el_u8 wr w.heap.size k _ (.slice oa k oc) (by rfl) hown #[.int .u8 77] (by rfl) (by rfl) (by simp [Value.oneCell']) (by omega) (by omega) hsz ?_); go_loud (intro v' w3 hA3; obtain ⟨oa', oc', rfl, hoc, hoa⟩ := hA3.own.form); go_loud (have hX3 : Ext w w3 := Below.trans hEr hA3.below); go_loud (have hkc : (k : Int) ≤ (oc' : Int) := by omega)) | fail)
      go_ret
      obtain ⟨b, rfl⟩ : ∃ b, oa' = some ⟨b, 0, none⟩ := by
        rcases hoa with e | e
        · injection e with _ e
          omega
        · exact e
      refine ⟨b, oc', rfl, ?_, hX3⟩
      unfold TwY
      rw [byL, List.map_append]
      exact hA3.own
theorem leftY_any (w : World) (l : List Nat) (base b cap' : Nat) (a : Option Addr) (cap n : Nat) (hnl : n = l.length) (hr : RowIs w 1 (.slice a n cap) n (byL l)) (hn : n ≤ 50000) (hT : TwY w base b n cap' l) :
    Calls Tryz.prog 44 #[.slice (some ⟨b, 0, none⟩) n cap', .slice a n cap] w fun e w' => e = .returned (.bool true) ∧ Ext w w' := by
  have hn' := Lib.hid hnl
  have hr' := Lib.hid hr
  have hT' := Lib.hid hT
  have hcap := hT.cap
  clear hnl hr hT
  have hci : ¬ (cap' : Int) ≤ (n : Int) := by omega
  go_enter Tryz.func44, Tryz.ntmps44
  go_wp2_with fail
  go_loopw [5] (fun i wr => ∃ k : Nat, k ≤ n ∧ i = .int .i64 k ∧ Ext w wr) (fun i _ => n - (intOf i).toNat)
  case atStart => exact ⟨0, by omega, rfl, Ext.refl _⟩
  case round =>
    obtain ⟨k, hk, rfl, hE⟩ := hrel
    have htw := (OwnC.row (hT'.out.ext hE))
    obtain ⟨tb, tof, hat2⟩ := htw.at
    obtain ⟨e1, _, hd2⟩ := hat2 (by omega)
    injection e1 with e1
    injection e1 with e1 e2
    subst e1 e2
    by_cases hlt : k < n
    · have hli : (k : Int) < (n : Int) := by omega
      obtain ⟨r, hrr⟩ : ∃ r, l[k]? = some r := ⟨_, List.getElem?_eq_getElem (by rw [← hn'.out]; exact hlt)⟩
      obtain ⟨lb, off, hat⟩ := (hr'.out.ext hE).at
      obtain ⟨rfl, _, hd⟩ := hat (by omega)
      have p : wr.cell? ⟨lb, off + k, none⟩ = some (.int .u8 (r : Int)) := by rw [hd k (by omega), byL, List.getElem?_map, hrr]; rfl
      have q : wr.cell? ⟨b, k, none⟩ = some (.int .u8 (r : Int)) := by
        have := hd2 k (by omega)
        rw [Nat.zero_add] at this
        rw [this, byL, List.getElem?_map, List.getElem?_append_left (by rw [← hn'.out]; exact hlt), hrr]; rfl
      clear hat hd hat2 hd2 hrr htw
      go_upto_region 6 with fail
      go_quiet (fail)
      go_wp2_with fail
      go_roundw
      case rel => exact ⟨k + 1, by omega, by go_num, hE.trans ⟨rfl, rfl, rfl, Nat.le_refl _, fun _ _ => rfl⟩⟩
      case measure => simp [intOf]; omega
    · have hli : ¬ (k : Int) < (n : Int) := by omega
      have q : wr.cell? ⟨b, n, none⟩ = some (.int .u8 77) := by
        have := hd2 n (by omega)
        rw [Nat.zero_add] at this
        rw [this, byL, List.getElem?_map, List.getElem?_append_right (by rw [← hn'.out]; exact Nat.le_refl _), ← hn'.out, Nat.sub_self]; rfl
      have hi1 : (n : Int) + 1 ≤ (cap' : Int) := by omega
      have hi2 : 0 ≤ (n : Int) + 1 := by omega
      have hi3 : ((n : Int) + 1).toNat = n + 1 := by omega
      have hi4 : (n : Int) < ((n : Int) + 1) := by omega
      clear hat2 hd2 htw
      go_wp2_with fail
      go_ret
      exact ⟨rfl, hE⟩
end Go.Proofs.YtmopjmhapeinjaaGreatDoor

/- A twin of numbers, with a mark in the room behind; is it still what it was made of? No condition. -/
namespace Go.Proofs.YtmopjmhapeinjaaGreatDoor
open Go.RowKit
set_option maxRecDepth 100000
set_option maxHeartbeats 2000000
/-- A twin: the numbers, and behind them the mark, in a block of the call's own. -/
def TwN (w : World) (base : Nat) (b n cap : Nat) (l : List Nat) : Prop := OwnC w base 54 1 (.slice (some ⟨b, 0, none⟩) (n + 1) cap) (n + 1) (nuL (l ++ [77]))
theorem TwN.ext {w w' : World} {base b n cap : Nat} {l : List Nat} (h : TwN w base b n cap l) (he : Ext w w') : TwN w' base b n cap l := OwnC.ext h he
theorem nu_len (l : List Nat) : (nuL l).length = l.length := by unfold nuL; rw [List.length_map]
theorem TwN.own {w : World} {base b n cap : Nat} {l : List Nat} (h : TwN w base b n cap l) (hn : n = l.length) : OwnC w base 54 1 (.slice (some ⟨b, 0, none⟩) n cap) n (nuL l) := by
  unfold TwN at h
  rw [nuL, List.map_append] at h
  exact tn_cut h (by rw [nu_len, hn, Nat.mul_one])
theorem TwN.cap {w : World} {base b n cap : Nat} {l : List Nat} (h : TwN w base b n cap l) : n + 1 ≤ cap := by
  obtain ⟨a, c, e, h1, _⟩ := OwnC.form h
  injection e with _ _ e
  omega
theorem twinN_any (w : World) (l : List Nat) (a : Option Addr) (cap rn : Nat) (hrn : rn = l.length) (hr : RowIs w 1 (.slice a rn cap) rn (nuL l)) (hn : rn ≤ 50000) :
    Calls Tryz.prog 39 #[.slice a rn cap] w fun e w' => ∃ b cap', e = .returned (.slice (some ⟨b, 0, none⟩) rn cap') ∧ TwN w' w.heap.size b rn cap' l ∧ Ext w w' := by
  have hrn' := Lib.hid hrn
  have hr' := Lib.hid hr
  clear hrn hr
  obtain ⟨ir, hir, hiz, his, hib⟩ : ∃ i, Tryz.prog.info? 54 = some i ∧ i.zero = some (.int .u64 0) ∧ i.size = 1 ∧ i.bytes = 8 := by
    have h : (Tryz.prog.info? 54).map (fun i => (i.zero, i.size, i.bytes)) = some (some (.int .u64 0), 1, 8) := by kernel_rfl
    obtain ⟨i, hi, he⟩ := Option.map_eq_some_iff.1 h
    simp only [Prod.mk.injEq] at he
    exact ⟨i, hi, he.1, he.2.1, he.2.2⟩
  go_enter Tryz.func39, Tryz.ntmps39
  go_wp2_with (first | (refine wpList_make_own w (by rfl) (.const (.int .i64 0)) (.tmp 7) 56 (by rfl) w.heap.size 54 ir _ 1 Tryz.underlying56 hir hiz his .i64 .i64 ((rn : Int) + 1) (rn + 1) (by rfl) (by rfl) (by omega) (by rw [hib]; omega) (by unfold maxLen; omega) (Nat.le_refl _) ?_; go_loud (intro w1 hown1 hgr1; have hE1 : Ext w w1 := Below.grown (Below.refl _ _) hgr1 (Nat.le_refl _) (fun _ h => by cases h))) | fail)
  go_wp2_with fail
  go_loopw [3, 4] (fun out i wr => ∃ (k : Nat) (oa : Option Addr) (oc : Nat), k ≤ rn ∧ i = .int .i64 k ∧ out = .slice oa k oc ∧ OwnC wr w.heap.size 54 1 (.slice oa k oc) k (nuL (l.take k)) ∧ Ext w wr) (fun _ i _ => rn - (intOf i).toNat)
  case atStart => exact ⟨0, _, _, by omega, rfl, rfl, OwnC.of_own hown1, hE1⟩
  case round =>
    obtain ⟨k, oa, oc, hk, rfl, rfl, hown, hEr⟩ := hrel
    by_cases hlt : k < rn
    · have hli : (k : Int) < (rn : Int) := by omega
      obtain ⟨r, hr⟩ : ∃ r, l[k]? = some r := ⟨_, List.getElem?_eq_getElem (by rw [← hrn'.out]; exact hlt)⟩
      obtain ⟨b, off, hat⟩ := (hr'.out.ext hEr).at
      obtain ⟨rfl, _, hd⟩ := hat (by omega)
      have hkc := hd k (by omega)
      rw [nuL, List.getElem?_map, hr] at hkc
      have hrg : wr.cell? ⟨b, off + k, none⟩ = some (.int .u64 (r : Int)) := hkc
      have htk : l.take (k + 1) = l.take k ++ [r] := by rw [List.take_add_one, hr]; rfl
      have htk' := Lib.hid htk
      have hsz := hEr.size
      clear hat hd hr htk hkc
      go_wp2_with (first | (at_builtin; go_loud (refine wpList_append_c (by rfl) (.tmp 15) (.tmp 20) 56 54 (by rfl) Tryz.underlying56 el_u64 wr w.heap.size k _ (.slice oa k oc) (by rfl) hown #[.int .u64 (r : Int)] (by rfl) (by rfl) (by simp [Value.oneCell']) (by omega) (by omega) hsz ?_); go_loud (intro v' w3 hA3; obtain ⟨oa', oc', rfl, _⟩ := hA3.own.form; have hown2 := hA3.own; have hX3 : Ext w w3 := Below.trans hEr hA3.below)) | fail)
      go_roundw
      case rel =>
        refine ⟨k + 1, oa', oc', by omega, by go_num, rfl, ?_, hX3⟩
        rw [htk'.out, nuL, List.map_append]
        simpa [nuL] using hown2
      case measure => simp [intOf]; omega
    · have hli : ¬ (k : Int) < (rn : Int) := by omega
      obtain rfl : k = rn := by omega
      rw [List.take_of_length_le (by rw [← hrn'.out]; exact Nat.le_refl _)] at hown
      clear hrn' hr' hown1
      have hsz := hEr.size
      go_wp2_with (first | (at_builtin; go_loud (refine wpList_append_c (by rfl) (.tmp 22) (.tmp 23) 56 54 (by rfl) Tryz.underlying56 el_u64 wr w.heap.size k _ (.slice oa k oc) (by rfl) hown #[.int .u64 77] (by rfl) (by rfl) (by simp [Value.oneCell']) (by omega) (by omega) hsz ?_); go_loud (intro v' w3 hA3; obtain ⟨oa', oc', rfl, hoc, hoa⟩ := hA3.own.form); go_loud (have hX3 : Ext w w3 := Below.trans hEr hA3.below); go_loud (have hkc : (k : Int) ≤ (oc' : Int) := by omega)) | fail)
      go_ret
      obtain ⟨b, rfl⟩ : ∃ b, oa' = some ⟨b, 0, none⟩ := by
        rcases hoa with e | e
        · injection e with _ e
          omega
        · exact e
      refine ⟨b, oc', rfl, ?_, hX3⟩
      unfold TwN
      rw [nuL, List.map_append]
      exact hA3.own
theorem leftN_any (w : World) (l : List Nat) (base b cap' : Nat) (a : Option Addr) (cap n : Nat) (hnl : n = l.length) (hr : RowIs w 1 (.slice a n cap) n (nuL l)) (hn : n ≤ 50000) (hT : TwN w base b n cap' l) :
    Calls Tryz.prog 45 #[.slice (some ⟨b, 0, none⟩) n cap', .slice a n cap] w fun e w' => e = .returned (.bool true) ∧ Ext w w' := by
  have hn' := Lib.hid hnl
  have hr' := Lib.hid hr
  have hT' := Lib.hid hT
  have hcap := hT.cap
  clear hnl hr hT
  have hci : ¬ (cap' : Int) ≤ (n : Int) := by omega
  go_enter Tryz.func45, Tryz.ntmps45
  go_wp2_with fail
  go_loopw [5] (fun i wr => ∃ k : Nat, k ≤ n ∧ i = .int .i64 k ∧ Ext w wr) (fun i _ => n - (intOf i).toNat)
  case atStart => exact ⟨0, by omega, rfl, Ext.refl _⟩
  case round =>
    obtain ⟨k, hk, rfl, hE⟩ := hrel
    have htw := (OwnC.row (hT'.out.ext hE))
    obtain ⟨tb, tof, hat2⟩ := htw.at
    obtain ⟨e1, _, hd2⟩ := hat2 (by omega)
    injection e1 with e1
    injection e1 with e1 e2
    subst e1 e2
    by_cases hlt : k < n
    · have hli : (k : Int) < (n : Int) := by omega
      obtain ⟨r, hrr⟩ : ∃ r, l[k]? = some r := ⟨_, List.getElem?_eq_getElem (by rw [← hn'.out]; exact hlt)⟩
      obtain ⟨lb, off, hat⟩ := (hr'.out.ext hE).at
      obtain ⟨rfl, _, hd⟩ := hat (by omega)
      have p : wr.cell? ⟨lb, off + k, none⟩ = some (.int .u64 (r : Int)) := by rw [hd k (by omega), nuL, List.getElem?_map, hrr]; rfl
      have q : wr.cell? ⟨b, k, none⟩ = some (.int .u64 (r : Int)) := by
        have := hd2 k (by omega)
        rw [Nat.zero_add] at this
        rw [this, nuL, List.getElem?_map, List.getElem?_append_left (by rw [← hn'.out]; exact hlt), hrr]; rfl
      clear hat hd hat2 hd2 hrr htw
      go_upto_region 6 with fail
      go_quiet (fail)
      go_wp2_with fail
      go_roundw
      case rel => exact ⟨k + 1, by omega, by go_num, hE.trans ⟨rfl, rfl, rfl, Nat.le_refl _, fun _ _ => rfl⟩⟩
      case measure => simp [intOf]; omega
    · have hli : ¬ (k : Int) < (n : Int) := by omega
      have q : wr.cell? ⟨b, n, none⟩ = some (.int .u64 77) := by
        have := hd2 n (by omega)
        rw [Nat.zero_add] at this
        rw [this, nuL, List.getElem?_map, List.getElem?_append_right (by rw [← hn'.out]; exact Nat.le_refl _), ← hn'.out, Nat.sub_self]; rfl
      have hi1 : (n : Int) + 1 ≤ (cap' : Int) := by omega
      have hi2 : 0 ≤ (n : Int) + 1 := by omega
      have hi3 : ((n : Int) + 1).toNat = n + 1 := by omega
      have hi4 : (n : Int) < ((n : Int) + 1) := by omega
      clear hat2 hd2 htw
      go_wp2_with fail
      go_ret
      exact ⟨rfl, hE⟩
end Go.Proofs.YtmopjmhapeinjaaGreatDoor
