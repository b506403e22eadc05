/- A state's rows in memory: a map of strings to rows. No condition. -/
import Derived.Test.YtmjoaiepfipmaaaModN
import Derived.Maps.OwnOps
import Derived.Maps.OwnSet
import Derived.Maps.Ext
import Derived.Sort.KeysCollected
import Derived.StringKeys
namespace Go.Proofs.Ytmjoaiepfipmaaa
open Go.RowKit Go.Maps Go.WideMaps
set_option maxRecDepth 100000
structure Rw where
  key : ByteArray
  val : ByteArray
/-- A pointer to a row, as an element of a map: its block. -/
def rdP : Value → Option (DataW Unit × List MemPlace)
  | .pointer none => some (.lit (.bool false), [])
  | .pointer (some ⟨g, 0, none⟩) => some (.lit (.int .u64 (g : Int)), [])
  | _ => none
theorem rdP_inv {v : Value} {z : DataW Unit × List MemPlace} (h : rdP v = some z) : (v = .pointer none ∧ z = (.lit (.bool false), [])) ∨ ∃ g : Nat, v = .pointer (some ⟨g, 0, none⟩) ∧ z = (.lit (.int .u64 (g : Int)), []) := by
  unfold rdP at h
  split at h
  · cases h; exact .inl ⟨rfl, rfl⟩
  · cases h; exact .inr ⟨_, rfl, rfl⟩
  · cases h
/-- The datum that rows with their blocks make. -/
def dOf (rs : List (Rw × Nat)) : DataW Unit := .map (rs.map fun p => (.string p.1.key.data.toList, .lit (.int .u64 (p.2 : Int))))
def keyIs (k : ByteArray) (p : Rw × Nat) : Bool := p.1.key.data.toList == k.data.toList
def insR (x : Rw × Nat) : List (Rw × Nat) → List (Rw × Nat)
  | [] => [x]
  | y :: r => if bytesBefore x.1.key.data.toList y.1.key.data.toList then x :: y :: r else y :: insR x r
def putR (rs : List (Rw × Nat)) (k v : ByteArray) (g : Nat) : List (Rw × Nat) := insR (⟨k, v⟩, g) (rs.filter fun p => !keyIs k p)
def delR (rs : List (Rw × Nat)) (k : ByteArray) : List (Rw × Nat) := rs.filter fun p => !keyIs k p
theorem dOf_ins (x : Rw × Nat) : ∀ rs : List (Rw × Nat), DataW.insert (.string x.1.key.data.toList, .lit (.int .u64 (x.2 : Int))) (rs.map fun p => ((.string p.1.key.data.toList, .lit (.int .u64 (p.2 : Int))) : Lit × DataW Unit)) = (insR x rs).map fun p => (.string p.1.key.data.toList, .lit (.int .u64 (p.2 : Int)))
  | [] => rfl
  | y :: r => by
    have ih := dOf_ins x r
    have e1 : ∀ (X Y : Lit × DataW Unit) (R : List (Lit × DataW Unit)), DataW.insert X (Y :: R) = if X.1.before Y.1 = true then X :: Y :: R else Y :: DataW.insert X R := fun _ _ _ => rfl
    have e2 : insR x (y :: r) = if bytesBefore x.1.key.data.toList y.1.key.data.toList = true then x :: y :: r else y :: insR x r := rfl
    rw [List.map_cons, e1, e2]
    by_cases hb : bytesBefore x.1.key.data.toList y.1.key.data.toList = true
    all_goals have hb2 : Lit.before (.string x.1.key.data.toList) (.string y.1.key.data.toList) = bytesBefore x.1.key.data.toList y.1.key.data.toList := rfl
    · rw [if_pos (hb2.trans hb), if_pos hb]; rfl
    · rw [if_neg (fun h => hb (hb2.symm.trans h)), if_neg hb, ih]; rfl
theorem dOf_filter (k : ByteArray) (rs : List (Rw × Nat)) : (rs.map fun p => ((.string p.1.key.data.toList, .lit (.int .u64 (p.2 : Int))) : Lit × DataW Unit)).filter (fun p => !p.1.sameKey (.string k.data.toList)) = (rs.filter fun p => !keyIs k p).map fun p => (.string p.1.key.data.toList, .lit (.int .u64 (p.2 : Int))) := by
  rw [List.filter_map]; rfl
theorem dOf_put (rs : List (Rw × Nat)) (k v : ByteArray) (g : Nat) : (dOf rs).put (.string k.data.toList) (.lit (.int .u64 (g : Int))) = dOf (putR rs k v g) := by
  unfold dOf putR
  simp only [DataW.put]
  rw [dOf_filter k rs]
  exact congrArg DataW.map (dOf_ins (⟨k, v⟩, g) _)
theorem dOf_del (rs : List (Rw × Nat)) (k : ByteArray) : (dOf rs).del (.string k.data.toList) = dOf (delR rs k) := by
  unfold dOf delR
  simp only [DataW.del]
  rw [dOf_filter k rs]
theorem dOf_at (rs : List (Rw × Nat)) (k : ByteArray) (z : DataW Unit) : (dOf rs).atKey (.string k.data.toList) z = match rs.find? (keyIs k) with | some p => .lit (.int .u64 (p.2 : Int)) | none => z := by
  unfold dOf
  simp only [DataW.atKey, List.find?_map]
  have : ((fun p : Lit × DataW Unit => p.1.sameKey (.string k.data.toList)) ∘ fun p : Rw × Nat => (.string p.1.key.data.toList, .lit (.int .u64 (p.2 : Int)))) = keyIs k := rfl
  rw [this]
  cases rs.find? (keyIs k) <;> rfl
theorem dOf_size (rs : List (Rw × Nat)) : Maps.size (dOf rs) = rs.length := by unfold dOf; rw [Maps.size_eq, List.length_map]
theorem dOf_keys (rs : List (Rw × Nat)) : strKeys (dOf rs) = rs.map fun p => p.1.key.data.toList := by show List.map _ (List.map _ rs) = _; rw [List.map_map]; rfl
def rowR (r : Rw) : Array Value := #[.string r.key, .string r.val]
/-- The rows, with their blocks, that a map holds, all of it in memory from base on. -/
def MapAt (w : World) (base mb : Nat) (rs : List (Rw × Nat)) : Prop := w.ownsMap Try.prog 9 rdP mb rs.length (dOf rs) ∧ base ≤ mb ∧ ∀ p ∈ rs, base ≤ p.2 ∧ p.2 ≠ mb ∧ w.heap[p.2]? = some (.cells (rowR p.1) 62 (0, 0))
theorem keyed : Keyed Try.prog 9 := string_keyed Try.underlying9
theorem zero_prow (w : World) : (zeroValue 92).run Try.prog w = .ok (.pointer none) w := by kernel_rfl
theorem own_tight {w : World} {b n : Nat} {D : DataW Unit} (h : w.ownsMap Try.prog 9 rdP b n D) : w.ownsMap Try.prog 9 rdP b (Maps.size D) D := by
  obtain ⟨es, clock, hb, F, _, rfl⟩ := h
  refine ⟨es, clock, hb, F, ?_, rfl⟩
  rw [Maps.size_eq, length_sorted]; simp
/-- A look into the map. -/
theorem MapAt.look {w : World} {base mb : Nat} {rs : List (Rw × Nat)} (h : MapAt w base mb rs) (k : ByteArray) (hk : k.size ≤ 140737488351232) :
    (Instr.lookup 28 (.map (some mb)) (.string k) false).run Try.prog w = .ok (.pointer ((rs.find? (keyIs k)).map fun p => ⟨p.2, 0, none⟩)) w := by
  obtain ⟨v, ps, hrun, hv⟩ := h.1.lookup keyed Try.underlying28 (zero_prow w) (zd := .lit (.bool false)) (zp := []) rfl (keyOf_string_mk Try.underlying9 (s := k) (by unfold maxLen; omega))
  rw [hrun, dOf_at] at *
  rcases rdP_inv hv with ⟨rfl, he⟩ | ⟨g, rfl, he⟩
  · cases hf : rs.find? (keyIs k) with
    | none => rfl
    | some p => rw [hf] at he; simp at he
  · cases hf : rs.find? (keyIs k) with
    | none => rw [hf] at he; simp at he
    | some p =>
      rw [hf] at he
      simp at he
      obtain ⟨he, _⟩ := he
      have : g = p.2 := by omega
      rw [this]; rfl
end Go.Proofs.Ytmjoaiepfipmaaa
