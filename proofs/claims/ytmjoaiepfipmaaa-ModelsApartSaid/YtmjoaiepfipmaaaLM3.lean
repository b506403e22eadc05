/- Acts, as parameters. No condition. -/
import Derived.Test.YtmjoaiepfipmaaaLM2
namespace Go.Proofs.Ytmjoaiepfipmaaa
open Go.RowKit
set_option maxRecDepth 100000
structure Ac where
  kind : Nat
  cl : Nat
  num : Nat
  ask : Ak
  ad : Option Addr
  cap : Nat
def Ac.av (x : Ac) : Value := .slice x.ad x.ask.chs.length x.cap
def Ac.cells (x : Ac) : List Value := [.int .u8 (x.kind : Int), .int .u8 (x.cl : Int), .int .u32 (x.num : Int)] ++ (x.ask.row x.av).toList
def Ac.good (w : World) (x : Ac) : Prop := x.kind < 256 ∧ x.cl < 256 ∧ x.num < 4294967296 ∧ ChsAt w x.ask.chs x.ad x.cap ∧ x.ask.small
theorem Ac.good.ext {w w' : World} {x : Ac} (h : x.good w) (he : Ext w w') : x.good w' := ⟨h.1, h.2.1, h.2.2.1, h.2.2.2.1.ext he, h.2.2.2.2⟩
theorem okc_act {w : World} {n : Nat} {cs : List Value} (h : OKC Try.prog w n 48 cs) : ∃ x : Ac, cs = x.cells ∧ x.good w := by
  have c11 : Try.prog.cellsOf 48 = 11 := by kernel_rfl
  cases n with
  | zero => exact h.elim
  | succ n =>
    unfold OKC at h
    rw [Try.underlying48] at h
    simp only [c11] at h
    obtain ⟨hl, hi⟩ := h
    match cs, hl with
    | [v0, v1, v2, v3, v4, v5, v6, v7, v8, v9, v10], _ =>
      simp [show Try.prog.cellsOf 5 = 1 by kernel_rfl, show Try.prog.cellsOf 22 = 1 by kernel_rfl, show Try.prog.cellsOf 26 = 8 by kernel_rfl] at hi
      obtain ⟨y0, y1, y2, y3⟩ := hi
      obtain ⟨i0, e0, w0⟩ := okc_int Try.underlying5 y0
      obtain ⟨i1, e1, w1⟩ := okc_int Try.underlying5 y1
      obtain ⟨i2, e2, w2⟩ := okc_int Try.underlying22 y2
      obtain ⟨x, a, cap, e3, hc, hs⟩ := okc_ask y3
      have b0 := wf_u8 w0
      have b1 := wf_u8 w1
      have b2 := wf_u32 w2
      obtain ⟨n0, rfl⟩ := Int.eq_ofNat_of_zero_le b0.1
      obtain ⟨n1, rfl⟩ := Int.eq_ofNat_of_zero_le b1.1
      obtain ⟨n2, rfl⟩ := Int.eq_ofNat_of_zero_le b2.1
      refine ⟨⟨n0, n1, n2, x, a, cap⟩, ?_, by simp only; omega, by simp only; omega, by simp only; omega, hc, hs⟩
      simp at e0 e1 e2
      unfold Ac.cells Ac.av
      rw [← e3, e0, e1, e2]; rfl
theorem okc_acts {w : World} {v : Value} (h : ∃ n, OKC Try.prog w n 46 [v]) : ∃ (l : List Ac) (a : Option Addr) (cap : Nat), v = .slice a l.length cap ∧ (∀ x ∈ l, x.good w) ∧ RowIs w 11 (.slice a l.length cap) l.length (l.flatMap Ac.cells) ∧ l.length ≤ 140737488351232 := by
  obtain ⟨n, h⟩ := h
  cases n with
  | zero => exact h.elim
  | succ n =>
    obtain ⟨l, hg, hr, hby⟩ := OKC.row Ac.cells (Ac.good w) 11 Try.underlying46 (by kernel_rfl) (by decide) (fun m => rfl) (fun cs hcs => okc_act hcs) h
    obtain ⟨a, cap, hv⟩ := hr.form
    subst hv
    rw [show Try.prog.bytesOf 48 = 120 by kernel_rfl] at hby
    exact ⟨l, a, cap, rfl, hg, hr, by omega⟩
theorem act_range {w : World} {l : List Ac} {b off : Nat} (hd : ∀ i, i < l.length * 11 → w.cell? ⟨b, off + i, none⟩ = (l.flatMap Ac.cells)[i]?) {k : Nat} {c : Ac} (h : l[k]? = some c) : w.rangeAt b (off + k * 11) c.cells := fun r v hv => by
  have hr : r < 11 := (List.getElem?_eq_some_iff.1 hv).1
  have hk : k < l.length := (List.getElem?_eq_some_iff.1 h).1
  rw [Nat.add_assoc, hd (k * 11 + r) (by omega), flatMap_at Ac.cells 11 (by decide) (fun _ => rfl) l k c h r hr _ rfl]; exact hv
end Go.Proofs.Ytmjoaiepfipmaaa
