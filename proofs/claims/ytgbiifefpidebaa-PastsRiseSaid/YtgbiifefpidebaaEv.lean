/- Events, as parameters. No condition. -/
import Derived.Test.YtgbiifefpidebaaChk2
namespace Go.Proofs.Ytgbiifefpidebaa
open Go.RowKit
set_option maxRecDepth 100000
theorem wf_u32e {x : Int} (h : (Lit.int .u32 x).wf = true) : 0 ≤ x ∧ x < 4294967296 := by
  have hmin : IntKind.u32.min = 0 := rfl
  have hmax : IntKind.u32.max = 4294967295 := rfl
  simp only [Lit.wf, Bool.and_eq_true, decide_eq_true_eq] at h; omega
theorem wf_u64e {x : Int} (h : (Lit.int .u64 x).wf = true) : 0 ≤ x ∧ x < 18446744073709551616 := by
  have hmin : IntKind.u64.min = 0 := rfl
  have hmax : IntKind.u64.max = 18446744073709551615 := rfl
  simp only [Lit.wf, Bool.and_eq_true, decide_eq_true_eq] at h; omega
/-- A row of a reply. -/
structure Rp where
  key : ByteArray
  val : ByteArray
def Rp.cells (r : Rp) : List Value := [.string r.key, .string r.val]
def Rp.small (r : Rp) : Prop := r.key.size ≤ 140737488351232 ∧ r.val.size ≤ 140737488351232
theorem okc_rp {w : World} {n : Nat} {cs : List Value} (h : OKC Try.prog w n 73 cs) : ∃ r : Rp, cs = r.cells ∧ r.small := by
  have c2 : Try.prog.cellsOf 73 = 2 := by kernel_rfl
  cases n with
  | zero => exact h.elim
  | succ n =>
    unfold OKC at h
    rw [Try.underlying73] at h
    simp only [c2] at h
    obtain ⟨hl, hi⟩ := h
    match cs, hl with
    | [v0, v1], _ =>
      simp [show Try.prog.cellsOf 9 = 1 by kernel_rfl] at hi
      obtain ⟨y0, y1⟩ := hi
      obtain ⟨s0, e0, h0⟩ := okc_str Try.underlying9 y0
      obtain ⟨s1, e1, h1⟩ := okc_str Try.underlying9 y1
      simp at e0 e1
      exact ⟨⟨s0, s1⟩, by rw [e0, e1]; rfl, h0, h1⟩
def RpsAt (w : World) (l : List Rp) (a : Option Addr) (cap : Nat) : Prop := RowIs w 2 (.slice a l.length cap) l.length (l.flatMap Rp.cells) ∧ l.length * 32 ≤ 140737488351232 ∧ ∀ c ∈ l, c.small
theorem RpsAt.ext {w w' : World} {l : List Rp} {a : Option Addr} {cap : Nat} (h : RpsAt w l a cap) (he : Ext w w') : RpsAt w' l a cap := ⟨h.1.ext he, h.2⟩
theorem okc_rps {w : World} {n : Nat} {cs : List Value} (h : OKC Try.prog w n 35 cs) : ∃ (l : List Rp) (a : Option Addr) (cap : Nat), cs = [.slice a l.length cap] ∧ RpsAt w l a cap := by
  cases n with
  | zero => exact h.elim
  | succ n =>
    obtain ⟨v, rfl⟩ : ∃ v, cs = [v] := by
      have h' := h
      unfold OKC at h'
      rw [Try.underlying35] at h'
      rcases h' with h' | ⟨_, _, _, h', _⟩
      · exact ⟨_, h'⟩
      · exact ⟨_, h'⟩
    obtain ⟨l, hg, hr, hby⟩ := OKC.row Rp.cells Rp.small 2 Try.underlying35 (by kernel_rfl) (by decide) (fun _ => rfl) (fun cs hc => okc_rp hc) h
    obtain ⟨a, cap, rfl⟩ := hr.form
    rw [show Try.prog.bytesOf 73 = 32 by kernel_rfl] at hby
    exact ⟨l, a, cap, rfl, hr, hby, hg⟩
theorem okc_reply {w : World} {n : Nat} {cs : List Value} (h : OKC Try.prog w n 37 cs) : ∃ (e : Int) (y : Bool) (l : List Rp) (a : Option Addr) (cap : Nat), cs = [.int .i64 e, .bool y, .slice a l.length cap] ∧ RpsAt w l a cap := by
  have c3 : Try.prog.cellsOf 37 = 3 := by kernel_rfl
  cases n with
  | zero => exact h.elim
  | succ n =>
    unfold OKC at h
    rw [Try.underlying37] at h
    simp only [c3] at h
    obtain ⟨hl, hi⟩ := h
    match cs, hl with
    | [v0, v1, v2], _ =>
      simp [show Try.prog.cellsOf 34 = 1 by kernel_rfl, show Try.prog.cellsOf 4 = 1 by kernel_rfl, show Try.prog.cellsOf 35 = 1 by kernel_rfl] at hi
      obtain ⟨y0, y1, y2⟩ := hi
      obtain ⟨e, e0, _⟩ := okc_int Try.underlying34 y0
      obtain ⟨b, e1⟩ := okc_bool Try.underlying4 y1
      obtain ⟨l, a, cap, e2, hr⟩ := okc_rps y2
      simp at e0 e1 e2
      exact ⟨e, b, l, a, cap, by rw [e0, e1, e2], hr⟩
/-- An event: Kind, Epoch, Client, Num, Ask, Level, Reply, Index. -/
structure Ev where
  kind : Int
  ep : Int
  cl : Int
  num : Int
  ask : Ak
  ad : Option Addr
  cap : Nat
  lvl : Int
  re : Int
  ry : Bool
  rows : List Rp
  ra : Option Addr
  rc : Nat
  idx : Int
def Ev.row (x : Ev) : Array Value := #[.int .u8 x.kind, .int .u32 x.ep, .int .u8 x.cl, .int .u32 x.num, .int .u8 x.ask.kind, .string x.ask.key, .string x.ask.val, .string x.ask.old, .bool x.ask.new, .string x.ask.to, .int .i64 x.ask.many, .slice x.ad x.ask.chs.length x.cap, .int .u8 x.lvl, .int .i64 x.re, .bool x.ry, .slice x.ra x.rows.length x.rc, .int .u64 x.idx]
def Ev.cells (x : Ev) : List Value := x.row.toList
structure Ev.good (w : World) (x : Ev) : Prop where
  kind : 0 ≤ x.kind ∧ x.kind < 256
  ep : 0 ≤ x.ep ∧ x.ep < 4294967296
  cl : 0 ≤ x.cl ∧ x.cl < 256
  num : 0 ≤ x.num ∧ x.num < 4294967296
  chs : ChsAt w x.ask.chs x.ad x.cap
  ask : x.ask.small
  lvl : 0 ≤ x.lvl ∧ x.lvl < 256
  rows : RpsAt w x.rows x.ra x.rc
  idx : 0 ≤ x.idx ∧ x.idx < 18446744073709551616
theorem Ev.good.ext {w w' : World} {x : Ev} (h : x.good w) (he : Ext w w') : x.good w' := ⟨h.kind, h.ep, h.cl, h.num, h.chs.ext he, h.ask, h.lvl, h.rows.ext he, h.idx⟩
theorem okc_event {w : World} {n : Nat} {cs : List Value} (h : OKC Try.prog w n 40 cs) : ∃ x : Ev, cs = x.cells ∧ x.good w := by
  have c17 : Try.prog.cellsOf 40 = 17 := by kernel_rfl
  cases n with
  | zero => exact h.elim
  | succ n =>
    unfold OKC at h
    rw [Try.underlying40] at h
    simp only [c17] at h
    obtain ⟨hl, hi⟩ := h
    match cs, hl with
    | [v0, v1, v2, v3, v4, v5, v6, v7, v8, v9, v10, v11, v12, v13, v14, v15, v16], _ =>
      simp [show Try.prog.cellsOf 5 = 1 by kernel_rfl, show Try.prog.cellsOf 28 = 1 by kernel_rfl, show Try.prog.cellsOf 38 = 1 by kernel_rfl, show Try.prog.cellsOf 33 = 1 by kernel_rfl, show Try.prog.cellsOf 32 = 8 by kernel_rfl, show Try.prog.cellsOf 37 = 3 by kernel_rfl] at hi
      obtain ⟨y0, y1, y2, y3, y4, y5, y6, y7⟩ := hi
      obtain ⟨i0, e0, w0⟩ := okc_int Try.underlying5 y0
      obtain ⟨i1, e1, w1⟩ := okc_int Try.underlying28 y1
      obtain ⟨i2, e2, w2⟩ := okc_int Try.underlying5 y2
      obtain ⟨i3, e3, w3⟩ := okc_int Try.underlying28 y3
      obtain ⟨x, a, cap, e4, hc, hs⟩ := okc_ask y4
      obtain ⟨i5, e5, w5⟩ := okc_int Try.underlying33 y5
      obtain ⟨re, ry, rl, ra, rc, e6, hr⟩ := okc_reply y6
      obtain ⟨i7, e7, w7⟩ := okc_int Try.underlying38 y7
      simp at e0 e1 e2 e3 e5 e6 e7
      obtain ⟨e60, e61, e62⟩ := e6
      simp [Ak.row] at e4
      obtain ⟨f0, f1, f2, f3, f4, f5, f6, f7⟩ := e4
      refine ⟨⟨i0, i1, i2, i3, x, a, cap, i5, re, ry, rl, ra, rc, i7⟩, ?_, wf_u8 w0, wf_u32e w1, wf_u8 w2, wf_u32e w3, hc, hs, wf_u8 w5, hr, wf_u64e w7⟩
      unfold Ev.cells Ev.row
      rw [e0, e1, e2, e3, e5, e60, e61, e62, e7, f0, f1, f2, f3, f4, f5, f6, f7]
def EvsAt (w : World) (l : List Ev) (a : Option Addr) (cap : Nat) : Prop := RowIs w 17 (.slice a l.length cap) l.length (l.flatMap Ev.cells) ∧ l.length ≤ 140737488351232 ∧ ∀ x ∈ l, x.good w
theorem EvsAt.ext {w w' : World} {l : List Ev} {a : Option Addr} {cap : Nat} (h : EvsAt w l a cap) (he : Ext w w') : EvsAt w' l a cap := ⟨h.1.ext he, h.2.1, fun x hx => (h.2.2 x hx).ext he⟩
theorem okc_events {w : World} {v : Value} (h : ∃ n, OKC Try.prog w n 22 [v]) : ∃ (l : List Ev) (a : Option Addr) (cap : Nat), v = .slice a l.length cap ∧ EvsAt w l a cap := by
  obtain ⟨n, h⟩ := h
  cases n with
  | zero => exact h.elim
  | succ n =>
    obtain ⟨l, hg, hr, hby⟩ := OKC.row Ev.cells (Ev.good w) 17 Try.underlying22 (by kernel_rfl) (by decide) (fun m => rfl) (fun cs hcs => okc_event hcs) h
    obtain ⟨a, cap, hv⟩ := hr.form
    subst hv
    have hb : 1 ≤ Try.prog.bytesOf 40 := by
      have : Try.prog.bytesOf 40 = Try.prog.bytesOf 40 - 1 + 1 := by kernel_rfl
      omega
    have : l.length * 1 ≤ l.length * Try.prog.bytesOf 40 := Nat.mul_le_mul_left _ hb
    exact ⟨l, a, cap, rfl, hr, by omega, hg⟩
theorem ev_range {w : World} {l : List Ev} {b off : Nat} (hd : ∀ i, i < l.length * 17 → w.cell? ⟨b, off + i, none⟩ = (l.flatMap Ev.cells)[i]?) {k : Nat} {c : Ev} (h : l[k]? = some c) : w.rangeAt b (off + k * 17) c.cells := fun r v hv => by
  have hr : r < 17 := (List.getElem?_eq_some_iff.1 hv).1
  have hk : k < l.length := (List.getElem?_eq_some_iff.1 h).1
  rw [Nat.add_assoc, hd (k * 17 + r) (by omega), flatMap_at Ev.cells 17 (by decide) (fun _ => rfl) l k c h r hr _ rfl]; exact hv
theorem ev_rng {w : World} {b : Nat} {x : Ev} (h : w.heap[b]? = some (.cells x.row 40 (0, 0))) : w.rangeAt b 0 x.cells := fun r v hv => by
  rw [Nat.zero_add, cell_of_row _ _ _ _ 40 (0, 0) h, ← hv]
  exact (Array.getElem?_toList ..).symm
end Go.Proofs.Ytgbiifefpidebaa
