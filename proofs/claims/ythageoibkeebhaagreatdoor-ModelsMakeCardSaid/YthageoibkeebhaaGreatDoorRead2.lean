/- Integers and rows of integers, as parameters read. No condition. -/
import Derived.Test.YthageoibkeebhaaGreatDoorRead
namespace Go.Proofs.YthageoibkeebhaaGreatDoor
open Go.RowKit
theorem RowIs.form {w : World} {size : Nat} {v : Value} {n : Nat} {xs : List Value} (h : RowIs w size v n xs) : ∃ a cap, v = .slice a n cap := by
  obtain ⟨_, _, ⟨rfl, a, cap, rfl, _⟩ | ⟨b, off, cap, rfl, _⟩⟩ := h
  · exact ⟨_, _, rfl⟩
  · exact ⟨_, _, rfl⟩
theorem wf_u8 {x : Int} (h : (Lit.int .u8 x).wf = true) : 0 ≤ x ∧ x < 256 := by
  have hmin : IntKind.u8.min = 0 := rfl
  have hmax : IntKind.u8.max = 255 := rfl
  simp only [Lit.wf, Bool.and_eq_true, decide_eq_true_eq] at h; omega
theorem wf_u16 {x : Int} (h : (Lit.int .u16 x).wf = true) : 0 ≤ x ∧ x < 65536 := by
  have hmin : IntKind.u16.min = 0 := rfl
  have hmax : IntKind.u16.max = 65535 := rfl
  simp only [Lit.wf, Bool.and_eq_true, decide_eq_true_eq] at h; omega
theorem wf_u32 {x : Int} (h : (Lit.int .u32 x).wf = true) : 0 ≤ x ∧ x < 4294967296 := by
  have hmin : IntKind.u32.min = 0 := rfl
  have hmax : IntKind.u32.max = 4294967295 := rfl
  simp only [Lit.wf, Bool.and_eq_true, decide_eq_true_eq] at h; omega
theorem wf_u64 {x : Int} (h : (Lit.int .u64 x).wf = true) : 0 ≤ x ∧ x < 18446744073709551616 := by
  have hmin : IntKind.u64.min = 0 := rfl
  have hmax : IntKind.u64.max = 18446744073709551615 := rfl
  simp only [Lit.wf, Bool.and_eq_true, decide_eq_true_eq] at h; omega
theorem okc_int {P : Program} {w : World} {n : Nat} {t : TypeId} {k : IntKind} {cs : List Value} (ht : P.underlying t = some (.int k)) (h : OKC P w n t cs) : ∃ x, cs = [.int k x] ∧ (Lit.int k x).wf = true := by
  cases n with
  | zero => exact h.elim
  | succ n => unfold OKC at h; rw [ht] at h; exact h
theorem okc_nat {P : Program} {w : World} {t : TypeId} {k : IntKind} {top : Nat} {a : Int} (ht : P.underlying t = some (.int k)) (hk : ∀ x, (Lit.int k x).wf = true → 0 ≤ x ∧ x < (top : Int)) (h : ∃ n, OKC P w n t [.int k a]) : ∃ c : Nat, a = c ∧ c < top := by
  obtain ⟨n, h⟩ := h
  obtain ⟨x, h1, h2⟩ := okc_int ht h
  simp at h1; subst h1
  obtain ⟨h0, h3⟩ := hk _ h2
  obtain ⟨c, rfl⟩ := Int.eq_ofNat_of_zero_le h0
  exact ⟨c, rfl, by omega⟩
/-- A slice of bytes. -/
theorem okc_u8row {P : Program} {w : World} {t e : TypeId} {v : Value} (ht : P.underlying t = some (.slice e)) (he : P.underlying e = some (.int .u8)) (hc : P.cellsOf e = 1) (h : ∃ n, OKC P w n t [v]) :
    ∃ (l : List Nat) (a : Option Addr) (cap : Nat), v = .slice a l.length cap ∧ (∀ c ∈ l, c < 256) ∧ RowIs w 1 v l.length (l.flatMap fun (c : Nat) => [Value.int .u8 (c : Int)]) := by
  obtain ⟨n, h⟩ := h
  cases n with
  | zero => exact h.elim
  | succ n =>
    obtain ⟨l, hg, hr, hby⟩ := OKC.row (fun (c : Nat) => [Value.int .u8 (c : Int)]) (fun c => c < 256) 1 ht hc (by decide) (fun _ => rfl) (fun cs hcs => by
      obtain ⟨x, rfl, hx⟩ := okc_int he hcs
      obtain ⟨h0, h1⟩ := wf_u8 hx
      obtain ⟨c, rfl⟩ := Int.eq_ofNat_of_zero_le h0
      exact ⟨c, rfl, by omega⟩) h
    obtain ⟨a, cap, hv⟩ := hr.form
    exact ⟨l, a, cap, hv, hg, hr⟩
theorem u8row_at (l : List Nat) (k c : Nat) (h : l[k]? = some c) : (l.flatMap fun (c : Nat) => [Value.int .u8 (c : Int)])[k]? = some (.int .u8 (c : Int)) := by
  have := flatMap_at (fun (c : Nat) => [Value.int .u8 (c : Int)]) 1 (by decide) (fun _ => rfl) l k c h 0 (by decide) k (by omega)
  simpa using this
end Go.Proofs.YthageoibkeebhaaGreatDoor
