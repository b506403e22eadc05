/- A map of plain keys to whole numbers, told as a function of its keys. No condition. -/
import Derived.Test.YtgbiifefpidebaaEvAhe
import Derived.Maps.OwnOps
import Derived.Maps.OwnSet
import Derived.Maps.Ext
import Derived.DeepKeys4
namespace Go.Proofs.Ytgbiifefpidebaa
open Go.RowKit Go.Maps Go.WideMaps
set_option maxRecDepth 100000
theorem laid22 : laidOutB Try.prog = true := by kernel_rfl
theorem nm_row : (51 : TypeId) < Try.prog.types.size := of_decide_eq_true (by kernel_rfl)
theorem nm_wide : (match Try.prog.underlying 51 with | some (.array _ _) | some (.struct _) => true | _ => false) = true := by rw [Try.underlying51]
theorem keyed_nm : Keyed Try.prog 51 := Keyed.of_law (deep_law_laid laid22 (m := 2) (by omega) nm_row (by kernel_rfl) nm_wide)
open Classical in
noncomputable def setF (F : Value → Int) (k : Value) (x : Int) : Value → Int := fun v => if v = k then x else F v
theorem setF_same (F : Value → Int) (k : Value) (x : Int) : setF F k x k = x := by unfold setF; rw [if_pos rfl]
theorem setF_other (F : Value → Int) {k v : Value} (x : Int) (h : v ≠ k) : setF F k x v = F v := by unfold setF; rw [if_neg h]
/-- The map in block b has the numbers F, a nought where there is none. -/
def FM (k e : TypeId) (q : IntKind) (w : World) (b n : Nat) (F : Value → Int) : Prop :=
  ∃ D : DataW Unit, w.ownsMap Try.prog k (plainElem Try.prog e) b n D ∧ ∀ key kl, keyOf Try.prog k key = some kl → D.atKey kl (.lit (.int q 0)) = .lit (.int q (F key))
theorem FM.made (w : World) (k e : TypeId) (q : IntKind) : FM k e q (w.alloc (.map #[] 0)) w.heap.size 0 (fun _ => 0) :=
  ⟨.map [], World.ownsMap_made w _ _ _, fun _ _ _ => rfl⟩
theorem FM.kept {k e : TypeId} {q : IntKind} {w w' : World} {b n : Nat} {F : Value → Int} (h : FM k e q w b n F) {row : Option Nat} (hg : w.grownBy w' row) (hne : some b ≠ row) : FM k e q w' b n F := by
  obtain ⟨D, h1, h2⟩ := h
  exact ⟨D, h1.kept hg hne, h2⟩
theorem FM.look {k e t : TypeId} {q : IntKind} {w : World} {b n : Nat} {F : Value → Int} (h : FM k e q w b n F) (K : Keyed Try.prog k) (ht : Try.prog.underlying t = some (.map k e)) (he : Try.prog.underlying e = some (.int q)) (hz : (zeroValue e).run Try.prog w = .ok (.int q 0) w) {key : Value} {kl : Lit} (hkey : keyOf Try.prog k key = some kl) :
    (Instr.lookup t (.map (some b)) key false).run Try.prog w = .ok (.int q (F key)) w := by
  obtain ⟨D, h1, h2⟩ := h
  obtain ⟨c, hr, hc, _⟩ := h1.lookup_int K ht he hz hkey
  rw [h2 key kl hkey] at hc
  injection hc with hc
  injection hc with _ hc
  rw [hr, hc]
theorem FM.set {k e t : TypeId} {q : IntKind} {w : World} {b n : Nat} {F : Value → Int} (h : FM k e q w b n F) (K : Keyed Try.prog k) (ht : Try.prog.underlying t = some (.map k e)) (he : Try.prog.underlying e = some (.int q)) (hn : n < maxLen) {key : Value} {kl : Lit} (hkey : keyOf Try.prog k key = some kl) {x : Int} (hx : (Lit.int q x).wf = true) :
    ∃ w', (Instr.mapUpdate t (.map (some b)) key (.int q x)).run Try.prog w = .ok () w' ∧ FM k e q w' b (n + 1) (setF F key x) ∧ w.grownBy w' (some b) := by
  obtain ⟨D, h1, h2⟩ := h
  obtain ⟨w', hr, ho, hg⟩ := h1.update K ht hn hkey (val := .int q x) (plainElem_int he hx)
  refine ⟨w', hr, ⟨_, ho, fun key' kl' hk' => ?_⟩, hg⟩
  by_cases hkk : key' = key
  · subst hkk
    obtain rfl : kl' = kl := by rw [hkey] at hk'; injection hk' with hk'; exact hk'.symm
    rw [setF_same]
    exact atKey_put_same h1.isMap (K.key hkey) _ _
  · have hne : kl' ≠ kl := fun e => hkk (K.inj (by rw [hk', e]) hkey)
    rw [setF_other F x hkk, atKey_put_other hne]
    exact h2 key' kl' hk'
theorem FM.del {k e t : TypeId} {q : IntKind} {w : World} {b n : Nat} {F : Value → Int} (h : FM k e q w b n F) (K : Keyed Try.prog k) (ht : Try.prog.underlying t = some (.map k e)) {key : Value} {kl : Lit} (hkey : keyOf Try.prog k key = some kl) (ty : TypeId) :
    ∃ w', (Builtin.delete_ #[t, k] ty #[.map (some b), key]).run Try.prog w = .ok (.tuple #[]) w' ∧ FM k e q w' b n (setF F key 0) ∧ w.grownBy w' (some b) := by
  obtain ⟨D, h1, h2⟩ := h
  obtain ⟨w', hr, ho, hg⟩ := h1.drop K ht hkey ty
  refine ⟨w', hr, ⟨_, ho, fun key' kl' hk' => ?_⟩, ?_⟩
  · by_cases hkk : key' = key
    · subst hkk
      obtain rfl : kl' = kl := by rw [hkey] at hk'; injection hk' with hk'; exact hk'.symm
      rw [setF_same]
      exact atKey_del_same _
    · have hne : kl' ≠ kl := fun e => hkk (K.inj (by rw [hk', e]) hkey)
      rw [setF_other F 0 hkk, atKey_del_other hne]
      exact h2 key' kl' hk'
  · exact hg.grown
/-- A name as a key. -/
def nmV (c n : Int) : Value := .agg #[.int .u8 c, .int .u32 n]
theorem nm_key (c n : Int) (hc : 0 ≤ c ∧ c < 256) (hn : 0 ≤ n ∧ n < 4294967296) : ∃ kl, keyOf Try.prog 51 (nmV c n) = some kl := by
  have h1 : (Lit.int .u8 c).wf = true := by
    have hmin : IntKind.u8.min = 0 := rfl
    have hmax : IntKind.u8.max = 255 := rfl
    simp only [Lit.wf, Bool.and_eq_true, decide_eq_true_eq]; omega
  have h2 : (Lit.int .u32 n).wf = true := by
    have hmin : IntKind.u32.min = 0 := rfl
    have hmax : IntKind.u32.max = 4294967295 := rfl
    simp only [Lit.wf, Bool.and_eq_true, decide_eq_true_eq]; omega
  have k1 : ∀ d, Program.keyLits Try.prog (d + 1) 5 [.int .u8 c] = some [.int .u8 c] := fun d => by
    unfold Program.keyLits
    rw [Try.underlying5]
    simp only [h1, and_self, if_true]
  have k2 : ∀ d, Program.keyLits Try.prog (d + 1) 28 [.int .u32 n] = some [.int .u32 n] := fun d => by
    unfold Program.keyLits
    rw [Try.underlying28]
    simp only [h2, and_self, if_true]
  have hsz : Try.prog.types.size + 1 = (Try.prog.types.size - 2) + 1 + 1 + 1 := by kernel_rfl
  have c0 : Try.prog.cellsOf 51 = 2 := by kernel_rfl
  have c1 : Try.prog.cellsOf 5 = 1 := by kernel_rfl
  have c2 : Try.prog.cellsOf 28 = 1 := by kernel_rfl
  have hl : Program.keyLits Try.prog (Try.prog.types.size + 1) 51 [.int .u8 c, .int .u32 n] = some [.int .u8 c, .int .u32 n] := by
    rw [hsz]
    unfold Program.keyLits
    rw [Try.underlying51]
    simp only [c0]
    simp [c1, c2, k1, k2]
  have hkt : Try.prog.keyType 51 = true := by kernel_rfl
  refine ⟨.string (keyBytes [.int .u8 c, .int .u32 n]), ?_⟩
  unfold keyOf nmV
  rw [Try.underlying51]
  have hf : Value.formed Try.prog 51 (.agg #[.int .u8 c, .int .u32 n]) = true := by
    unfold Value.formed
    rw [Try.underlying51]
    simp [c0]
  simp only [hkt, hf, Bool.and_self, if_true]
  rw [show (Value.agg #[.int .u8 c, .int .u32 n]).cells.toList = [.int .u8 c, .int .u32 n] by simp [Value.cells], hl]
  rfl
end Go.Proofs.Ytgbiifefpidebaa
