/- Asks and their changes: how they read, and as parameters. No condition. -/
import Derived.Test.YtgbiifefpidebaaKit6
import Derived.Test.YtgbiifefpidebaaKit4
import Derived.Test.YtgbiifefpidebaaRead2
import Derived.Test.YtgbiifefpidebaaChecked
namespace Go.Proofs.Ytgbiifefpidebaa
open Go.RowKit
set_option maxRecDepth 100000
structure Ch where
  key : ByteArray
  val : ByteArray
  gone : Bool
def Ch.cells (c : Ch) : List Value := [.string c.key, .string c.val, .bool c.gone]
theorem ch_one (l : List Ch) : ∀ u ∈ l.flatMap Ch.cells, u.oneCell' = true := fun u hu => by
  obtain ⟨c, _, hc⟩ := List.mem_flatMap.1 hu
  simp only [Ch.cells, List.mem_cons, List.not_mem_nil, or_false] at hc
  rcases hc with rfl | rfl | rfl <;> rfl
theorem ch_at (l : List Ch) (k : Nat) (c : Ch) (h : l[k]? = some c) (r : Nat) (hr : r < 3) : (l.flatMap Ch.cells)[k * 3 + r]? = c.cells[r]? :=
  flatMap_at Ch.cells 3 (by decide) (fun _ => rfl) l k c h r hr _ rfl
/-- The cells of the change at k. -/
theorem ch_range {w : World} {l : List Ch} {b off : Nat} (hd : ∀ i, i < l.length * 3 → w.cell? ⟨b, off + i, none⟩ = (l.flatMap Ch.cells)[i]?) {k : Nat} {c : Ch} (h : l[k]? = some c) : w.rangeAt b (off + k * 3) c.cells := fun r v hv => by
  have hr : r < 3 := (List.getElem?_eq_some_iff.1 hv).1
  have hk : k < l.length := (List.getElem?_eq_some_iff.1 h).1
  rw [Nat.add_assoc, hd (k * 3 + r) (by omega), ch_at l k c h r hr]; exact hv
structure Ak where
  kind : Int
  key : ByteArray
  val : ByteArray
  old : ByteArray
  new : Bool
  to : ByteArray
  many : Int
  chs : List Ch
def Ak.row (x : Ak) (v : Value) : Array Value := #[.int .u8 x.kind, .string x.key, .string x.val, .string x.old, .bool x.new, .string x.to, .int .i64 x.many, v]
theorem ask_len (x : Ak) (v : Value) : (x.row v).toList.length = 8 := rfl
theorem info_ask : (Try.prog.info? 32).map (·.size) = some 8 := by kernel_rfl
theorem info_ch : (Try.prog.info? 57).map (·.size) = some 3 := by kernel_rfl
theorem el_ch : ElemIs Try.prog 57 3 40 := by
  refine ElemIs.mk (z := .agg #[.string ⟨#[]⟩, .string ⟨#[]⟩, .bool false]) (by kernel_rfl) (by kernel_rfl) (by decide)
theorem ask_one (x : Ak) (a : Option Addr) (n c : Nat) : (x.row (.slice a n c)).all (·.oneCell') = true := by kernel_rfl

theorem okc_str {P : Program} {w : World} {n : Nat} {t : TypeId} {cs : List Value} (ht : P.underlying t = some .string) (h : OKC P w n t cs) : ∃ s : ByteArray, cs = [.string s] ∧ s.size ≤ 140737488351232 := by
  cases n with
  | zero => exact h.elim
  | succ n => unfold OKC at h; rw [ht] at h; exact h
theorem okc_bool {P : Program} {w : World} {n : Nat} {t : TypeId} {cs : List Value} (ht : P.underlying t = some .bool) (h : OKC P w n t cs) : ∃ b : Bool, cs = [.bool b] := by
  cases n with
  | zero => exact h.elim
  | succ n => unfold OKC at h; rw [ht] at h; exact h
def Ch.small (c : Ch) : Prop := c.key.size ≤ 140737488351232 ∧ c.val.size ≤ 140737488351232
theorem okc_ch {w : World} {n : Nat} {cs : List Value} (h : OKC Try.prog w n 57 cs) : ∃ c : Ch, cs = c.cells ∧ c.small := by
  have c77 : Try.prog.cellsOf 57 = 3 := by kernel_rfl
  have c9 : Try.prog.cellsOf 9 = 1 := by kernel_rfl
  have c4 : Try.prog.cellsOf 4 = 1 := by kernel_rfl
  cases n with
  | zero => exact h.elim
  | succ n =>
    unfold OKC at h
    rw [Try.underlying57] at h
    simp only [c77] at h
    obtain ⟨hl, hi⟩ := h
    match cs, hl with
    | [x, y, z], _ =>
      simp [c9, c4] at hi
      obtain ⟨a, ha, ha2⟩ := okc_str Try.underlying9 hi.1
      obtain ⟨b, hb, hb2⟩ := okc_str Try.underlying9 hi.2.1
      obtain ⟨g, hg⟩ := okc_bool Try.underlying4 hi.2.2
      simp at ha hb hg
      subst ha; subst hb; subst hg
      exact ⟨⟨a, b, g⟩, rfl, ha2, hb2⟩
/-- Changes that lie in memory. -/
def ChsAt (w : World) (l : List Ch) (a : Option Addr) (cap : Nat) : Prop := RowIs w 3 (.slice a l.length cap) l.length (l.flatMap Ch.cells) ∧ l.length * 40 ≤ 140737488351232 ∧ ∀ c ∈ l, c.small
theorem okc_chs {w : World} {n : Nat} {cs : List Value} (h : OKC Try.prog w n 30 cs) : ∃ (l : List Ch) (a : Option Addr) (cap : Nat), cs = [.slice a l.length cap] ∧ ChsAt w l a cap := by
  cases n with
  | zero => exact h.elim
  | succ n =>
    obtain ⟨v, rfl⟩ : ∃ v, cs = [v] := by
      have h' := h
      unfold OKC at h'
      rw [Try.underlying30] at h'
      rcases h' with h' | ⟨_, _, _, h', _⟩
      · exact ⟨_, h'⟩
      · exact ⟨_, h'⟩
    obtain ⟨l, hg, hr, hby⟩ := OKC.row Ch.cells Ch.small 3 Try.underlying30 (by kernel_rfl) (by decide) (fun _ => rfl) (fun cs hc => okc_ch hc) h
    obtain ⟨a, cap, rfl⟩ := hr.form
    rw [show Try.prog.bytesOf 57 = 40 by kernel_rfl] at hby
    exact ⟨l, a, cap, rfl, hr, hby, hg⟩
theorem ChsAt.ext {w w' : World} {l : List Ch} {a : Option Addr} {cap : Nat} (h : ChsAt w l a cap) (he : Ext w w') : ChsAt w' l a cap := ⟨h.1.ext he, h.2⟩
/-- The sizes of an ask that reads. -/
def Ak.small (x : Ak) : Prop := (0 ≤ x.kind ∧ x.kind < 256) ∧ x.key.size ≤ 140737488351232 ∧ x.val.size ≤ 140737488351232 ∧ x.old.size ≤ 140737488351232 ∧ x.to.size ≤ 140737488351232 ∧ (-9223372036854775808 ≤ x.many ∧ x.many ≤ 9223372036854775807)
theorem wf_i64' {x : Int} (h : (Lit.int .i64 x).wf = true) : -9223372036854775808 ≤ x ∧ x ≤ 9223372036854775807 := by
  have hmin : IntKind.i64.min = -9223372036854775808 := rfl
  have hmax : IntKind.i64.max = 9223372036854775807 := rfl
  simp only [Lit.wf, Bool.and_eq_true, decide_eq_true_eq] at h; omega
theorem okc_ask {w : World} {n : Nat} {cs : List Value} (h : OKC Try.prog w n 32 cs) : ∃ (x : Ak) (a : Option Addr) (cap : Nat), cs = (x.row (.slice a x.chs.length cap)).toList ∧ ChsAt w x.chs a cap ∧ x.small := by
  have c32 : Try.prog.cellsOf 32 = 8 := by kernel_rfl
  cases n with
  | zero => exact h.elim
  | succ n =>
    unfold OKC at h
    rw [Try.underlying32] at h
    simp only [c32] at h
    obtain ⟨hl, hi⟩ := h
    match cs, hl with
    | [v3, v4, v5, v6, v7, v8, v9, v10], _ =>
      simp [show Try.prog.cellsOf 29 = 1 by kernel_rfl, show Try.prog.cellsOf 9 = 1 by kernel_rfl, show Try.prog.cellsOf 4 = 1 by kernel_rfl, show Try.prog.cellsOf 3 = 1 by kernel_rfl, show Try.prog.cellsOf 30 = 1 by kernel_rfl] at hi
      obtain ⟨y3, y4, y5, y6, y7, y8, y9, y10⟩ := hi
      obtain ⟨i3, e3, w3⟩ := okc_int Try.underlying29 y3
      obtain ⟨s4, e4, w4⟩ := okc_str Try.underlying9 y4
      obtain ⟨s5, e5, w5⟩ := okc_str Try.underlying9 y5
      obtain ⟨s6, e6, w6⟩ := okc_str Try.underlying9 y6
      obtain ⟨b7, e7⟩ := okc_bool Try.underlying4 y7
      obtain ⟨s8, e8, w8⟩ := okc_str Try.underlying9 y8
      obtain ⟨i9, e9, w9⟩ := okc_int Try.underlying3 y9
      obtain ⟨l, a, cap, e10, hr⟩ := okc_chs y10
      simp at e3 e4 e5 e6 e7 e8 e9 e10
      subst e3 e4 e5 e6 e7 e8 e9 e10
      exact ⟨⟨i3, s4, s5, s6, b7, s8, i9, l⟩, a, cap, rfl, hr, wf_u8 w3, w4, w5, w6, w8, wf_i64' w9⟩
end Go.Proofs.Ytgbiifefpidebaa
