/- Several texts in one: Ask ModN Mod1 Mod2. No condition. -/
import Derived.Test.YthageoibkeebhaaGreatDoorGrKit
import Derived.Test.YthageoibkeebhaaGreatDoorGrRd
import Derived.Test.YthageoibkeebhaaGreatDoorChecked
import Derived.WalkSpells
import Derived.Maps.OwnOps
import Derived.Maps.OwnSet
import Derived.Maps.Ext
import Derived.Sort.KeysCollected
import Derived.StringKeys
import Derived.BigRegion
import Derived.Deep.Cut
import Derived.StillTailTactics
import Derived.Deep.RegionHeld3
import Derived.BigQuiet
/- Asks and their changes: how they read, and as parameters. No condition. -/
namespace Go.Proofs.YthageoibkeebhaaGreatDoor
open Go.RowKit
set_option maxRecDepth 100000
structure Ch where
  key : ByteArray
  val : ByteArray
  gone : Bool
def Ch.cells (c : Ch) : List Value := [.string c.key, .string c.val, .bool c.gone]
theorem ch_one (l : List Ch) : ∀ u ∈ l.flatMap Ch.cells, u.oneCell' = true := fun u hu => by
  obtain ⟨c, _, hc⟩ := List.mem_flatMap.1 hu
  simp only [Ch.cells, List.mem_cons, List.not_mem_nil, or_false] at hc
  rcases hc with rfl | rfl | rfl <;> rfl
theorem ch_at (l : List Ch) (k : Nat) (c : Ch) (h : l[k]? = some c) (r : Nat) (hr : r < 3) : (l.flatMap Ch.cells)[k * 3 + r]? = c.cells[r]? :=
  flatMap_at Ch.cells 3 (by decide) (fun _ => rfl) l k c h r hr _ rfl
/-- The cells of the change at k. -/
theorem ch_range {w : World} {l : List Ch} {b off : Nat} (hd : ∀ i, i < l.length * 3 → w.cell? ⟨b, off + i, none⟩ = (l.flatMap Ch.cells)[i]?) {k : Nat} {c : Ch} (h : l[k]? = some c) : w.rangeAt b (off + k * 3) c.cells := fun r v hv => by
  have hr : r < 3 := (List.getElem?_eq_some_iff.1 hv).1
  have hk : k < l.length := (List.getElem?_eq_some_iff.1 h).1
  rw [Nat.add_assoc, hd (k * 3 + r) (by omega), ch_at l k c h r hr]; exact hv
structure Ak where
  kind : Int
  key : ByteArray
  val : ByteArray
  old : ByteArray
  new : Bool
  to : ByteArray
  many : Int
  chs : List Ch
def Ak.row (x : Ak) (v : Value) : Array Value := #[.int .u8 x.kind, .string x.key, .string x.val, .string x.old, .bool x.new, .string x.to, .int .i64 x.many, v]
theorem ask_len (x : Ak) (v : Value) : (x.row v).toList.length = 8 := rfl
theorem info_ask : (Tryz.prog.info? 66).map (·.size) = some 8 := by kernel_rfl
theorem info_ch : (Tryz.prog.info? 102).map (·.size) = some 3 := by kernel_rfl
theorem el_ch : ElemIs Tryz.prog 102 3 40 := by
  refine ElemIs.mk (z := .agg #[.string ⟨#[]⟩, .string ⟨#[]⟩, .bool false]) (by kernel_rfl) (by kernel_rfl) (by decide)
theorem ask_one (x : Ak) (a : Option Addr) (n c : Nat) : (x.row (.slice a n c)).all (·.oneCell') = true := by kernel_rfl

theorem okc_str {P : Program} {w : World} {n : Nat} {t : TypeId} {cs : List Value} (ht : P.underlying t = some .string) (h : OKC P w n t cs) : ∃ s : ByteArray, cs = [.string s] ∧ s.size ≤ 140737488351232 := by
  cases n with
  | zero => exact h.elim
  | succ n => unfold OKC at h; rw [ht] at h; exact h
theorem okc_bool {P : Program} {w : World} {n : Nat} {t : TypeId} {cs : List Value} (ht : P.underlying t = some .bool) (h : OKC P w n t cs) : ∃ b : Bool, cs = [.bool b] := by
  cases n with
  | zero => exact h.elim
  | succ n => unfold OKC at h; rw [ht] at h; exact h
def Ch.small (c : Ch) : Prop := c.key.size ≤ 140737488351232 ∧ c.val.size ≤ 140737488351232
theorem okc_ch {w : World} {n : Nat} {cs : List Value} (h : OKC Tryz.prog w n 102 cs) : ∃ c : Ch, cs = c.cells ∧ c.small := by
  have c77 : Tryz.prog.cellsOf 102 = 3 := by kernel_rfl
  have c9 : Tryz.prog.cellsOf 9 = 1 := by kernel_rfl
  have c4 : Tryz.prog.cellsOf 4 = 1 := by kernel_rfl
  cases n with
  | zero => exact h.elim
  | succ n =>
    unfold OKC at h
    rw [Tryz.underlying102] at h
    simp only [c77] at h
    obtain ⟨hl, hi⟩ := h
    match cs, hl with
    | [x, y, z], _ =>
      simp [c9, c4] at hi
      obtain ⟨a, ha, ha2⟩ := okc_str Tryz.underlying9 hi.1
      obtain ⟨b, hb, hb2⟩ := okc_str Tryz.underlying9 hi.2.1
      obtain ⟨g, hg⟩ := okc_bool Tryz.underlying4 hi.2.2
      simp at ha hb hg
      subst ha; subst hb; subst hg
      exact ⟨⟨a, b, g⟩, rfl, ha2, hb2⟩
/-- Changes that lie in memory. -/
def ChsAt (w : World) (l : List Ch) (a : Option Addr) (cap : Nat) : Prop := RowIs w 3 (.slice a l.length cap) l.length (l.flatMap Ch.cells) ∧ l.length * 40 ≤ 140737488351232 ∧ ∀ c ∈ l, c.small
theorem okc_chs {w : World} {n : Nat} {cs : List Value} (h : OKC Tryz.prog w n 64 cs) : ∃ (l : List Ch) (a : Option Addr) (cap : Nat), cs = [.slice a l.length cap] ∧ ChsAt w l a cap := by
  cases n with
  | zero => exact h.elim
  | succ n =>
    obtain ⟨v, rfl⟩ : ∃ v, cs = [v] := by
      have h' := h
      unfold OKC at h'
      rw [Tryz.underlying64] at h'
      rcases h' with h' | ⟨_, _, _, h', _⟩
      · exact ⟨_, h'⟩
      · exact ⟨_, h'⟩
    obtain ⟨l, hg, hr, hby⟩ := OKC.row Ch.cells Ch.small 3 Tryz.underlying64 (by kernel_rfl) (by decide) (fun _ => rfl) (fun cs hc => okc_ch hc) h
    obtain ⟨a, cap, rfl⟩ := hr.form
    rw [show Tryz.prog.bytesOf 102 = 40 by kernel_rfl] at hby
    exact ⟨l, a, cap, rfl, hr, hby, hg⟩
theorem ChsAt.ext {w w' : World} {l : List Ch} {a : Option Addr} {cap : Nat} (h : ChsAt w l a cap) (he : Ext w w') : ChsAt w' l a cap := ⟨h.1.ext he, h.2⟩
/-- The sizes of an ask that reads. -/
def Ak.small (x : Ak) : Prop := (0 ≤ x.kind ∧ x.kind < 256) ∧ x.key.size ≤ 140737488351232 ∧ x.val.size ≤ 140737488351232 ∧ x.old.size ≤ 140737488351232 ∧ x.to.size ≤ 140737488351232 ∧ (-9223372036854775808 ≤ x.many ∧ x.many ≤ 9223372036854775807)
theorem wf_i64' {x : Int} (h : (Lit.int .i64 x).wf = true) : -9223372036854775808 ≤ x ∧ x ≤ 9223372036854775807 := by
  have hmin : IntKind.i64.min = -9223372036854775808 := rfl
  have hmax : IntKind.i64.max = 9223372036854775807 := rfl
  simp only [Lit.wf, Bool.and_eq_true, decide_eq_true_eq] at h; omega
theorem okc_ask {w : World} {n : Nat} {cs : List Value} (h : OKC Tryz.prog w n 66 cs) : ∃ (x : Ak) (a : Option Addr) (cap : Nat), cs = (x.row (.slice a x.chs.length cap)).toList ∧ ChsAt w x.chs a cap ∧ x.small := by
  have c32 : Tryz.prog.cellsOf 66 = 8 := by kernel_rfl
  cases n with
  | zero => exact h.elim
  | succ n =>
    unfold OKC at h
    rw [Tryz.underlying66] at h
    simp only [c32] at h
    obtain ⟨hl, hi⟩ := h
    match cs, hl with
    | [v3, v4, v5, v6, v7, v8, v9, v10], _ =>
      simp [show Tryz.prog.cellsOf 63 = 1 by kernel_rfl, show Tryz.prog.cellsOf 9 = 1 by kernel_rfl, show Tryz.prog.cellsOf 4 = 1 by kernel_rfl, show Tryz.prog.cellsOf 3 = 1 by kernel_rfl, show Tryz.prog.cellsOf 64 = 1 by kernel_rfl] at hi
      obtain ⟨y3, y4, y5, y6, y7, y8, y9, y10⟩ := hi
      obtain ⟨i3, e3, w3⟩ := okc_int Tryz.underlying63 y3
      obtain ⟨s4, e4, w4⟩ := okc_str Tryz.underlying9 y4
      obtain ⟨s5, e5, w5⟩ := okc_str Tryz.underlying9 y5
      obtain ⟨s6, e6, w6⟩ := okc_str Tryz.underlying9 y6
      obtain ⟨b7, e7⟩ := okc_bool Tryz.underlying4 y7
      obtain ⟨s8, e8, w8⟩ := okc_str Tryz.underlying9 y8
      obtain ⟨i9, e9, w9⟩ := okc_int Tryz.underlying3 y9
      obtain ⟨l, a, cap, e10, hr⟩ := okc_chs y10
      simp at e3 e4 e5 e6 e7 e8 e9 e10
      subst e3 e4 e5 e6 e7 e8 e9 e10
      exact ⟨⟨i3, s4, s5, s6, b7, s8, i9, l⟩, a, cap, rfl, hr, wf_u8 w3, w4, w5, w6, w8, wf_i64' w9⟩
end Go.Proofs.YthageoibkeebhaaGreatDoor

/- A state that is not there: its methods. No condition. -/
namespace Go.Proofs.YthageoibkeebhaaGreatDoor
open Go.RowKit
set_option maxRecDepth 100000
/-- No state: nil, or one that no call made. -/
def NoSt (w : World) (v : Value) : Prop := v = .pointer none ∨ ∃ tb, v = .pointer (some ⟨tb, 0, none⟩) ∧ w.cell? ⟨tb, 0, none⟩ = some (.map none)
theorem NoSt.ext {w w' : World} {v : Value} (h : NoSt w v) (he : Ext w w') : NoSt w' v := by
  rcases h with h | ⟨tb, h1, h2⟩
  · exact .inl h
  · exact .inr ⟨tb, h1, he.cell h2⟩
theorem nost_there {w : World} {v : Value} (h : NoSt w v) : Calls Tryz.prog 54 #[v] w fun e w' => e = .returned (.bool false) ∧ w = w' := by
  have hm : ∀ w, _ := fun w => run_neq_map_nil (P := Tryz.prog) w 91 9 90 none Tryz.underlying91
  rcases h with rfl | ⟨tb, rfl, h2⟩
  all_goals
    go_enter Tryz.func54, Tryz.ntmps54
    go_wp2
    go_ret
    exact ⟨rfl, rfl⟩
theorem nost_rows {w : World} {v : Value} (h : NoSt w v) : Calls Tryz.prog 15 #[v] w fun e w' => e = .returned (.slice none 0 0) ∧ Ext w w' := by
  go_enter Tryz.func15, Tryz.ntmps15
  go_wp2_with fail
  refine (nost_there h).mono ?_
  rintro e w' ⟨rfl, rfl⟩
  go_wp2_with fail
  go_ret
  exact ⟨rfl, Ext.refl _⟩
theorem nost_said {w : World} {v : Value} (h : NoSt w v) : Calls Tryz.prog 16 #[v] w fun e w' => e = .returned (.slice none 0 0) ∧ Ext w w' := by
  go_enter Tryz.func16, Tryz.ntmps16
  go_wp2_with fail
  refine (nost_there h).mono ?_
  rintro e w' ⟨rfl, rfl⟩
  go_wp2_with fail
  go_ret
  exact ⟨rfl, Ext.refl _⟩
theorem nost_chg {w : World} {v : Value} (h : NoSt w v) (x : Ak) (u : Value) : Calls Tryz.prog 26 #[v, .agg (x.row u)] w fun e w' => e = .returned (.slice none 0 0) ∧ Ext w w' := by
  have hT := h.ext ((Ext.refl w).alloc (.cells (x.row u) 66))
  unfold Ak.row at hT ⊢
  go_enter Tryz.func26, Tryz.ntmps26
  go_wp2_with fail
  refine (nost_there hT).mono ?_
  rintro e w' ⟨rfl, rfl⟩
  go_wp2_with fail
  go_ret
  exact ⟨rfl, (Ext.refl w).alloc _⟩
def zRe : Array Value := #[.int .i64 0, .bool false, .slice none 0 0]
theorem zRe_one : zRe.all (·.oneCell') = true := by kernel_rfl
theorem info_reply : (Tryz.prog.info? 74).map (·.size) = some 3 := by kernel_rfl
theorem nost_do {w : World} {v : Value} (h : NoSt w v) (c n : Int) (x : Ak) (u : Value) : Calls Tryz.prog 30 #[v, .int .u8 c, .int .u32 n, .agg (x.row u)] w fun e w' => e = .returned (.tuple #[.agg zRe, .int .i64 2]) ∧ Ext w w' := by
  obtain ⟨W, hW⟩ : ∃ W, W = (w.alloc (.cells (x.row u) 66)).alloc (.cells zRe 74) := ⟨_, rfl⟩
  have hE : Ext w W := by rw [hW]; exact ((Ext.refl _).alloc _).alloc _
  have hR : W.heap[w.heap.size + 1]? = some (.cells zRe 74 (0, 0)) := by
    have h1 := heap_alloc_new (w.alloc (.cells (x.row u) 66)) (.cells zRe 74)
    rw [show (w.alloc (.cells (x.row u) 66)).heap.size = w.heap.size + 1 by simp] at h1
    rw [hW]; exact h1
  have hT := h.ext hE
  have hW' := Lib.hid hW
  clear hW
  unfold Ak.row zRe at hW'
  unfold Ak.row
  go_enter Tryz.func30, Tryz.ntmps30
  go_wp2_with fail
  rw [← hW'.out]
  clear hW'
  refine (nost_there hT).mono ?_
  rintro e w' ⟨rfl, rfl⟩
  go_wp2_with (first | (refine wpList_store_row (by rfl) 74 (.tmp 8) (.tmp 17) (by rfl) (w.heap.size + 1) zRe (by rfl) (by rfl) 74 zRe hR (by exact info_reply) (by rfl) zRe_one ?_) | fail)
  have hset : (W.setRow (w.heap.size + 1) zRe).heap[w.heap.size + 1]? = some (.cells zRe 74 (0, 0)) := by rw [setRow_heap _ _ _ _ _ _ hR]
  have hEf : Ext w (W.setRow (w.heap.size + 1) zRe) := hE.setRow (by omega) _
  generalize W.setRow (w.heap.size + 1) zRe = Wf at *
  have b0 : Wf.cell? ⟨w.heap.size + 1, 0, none⟩ = some (.int .i64 0) := by rw [cell_of_row _ _ _ _ 74 (0, 0) hset]; rfl
  have b1 : Wf.cell? ⟨w.heap.size + 1, 1, none⟩ = some (.bool false) := by rw [cell_of_row _ _ _ _ 74 (0, 0) hset]; rfl
  have b2 : Wf.cell? ⟨w.heap.size + 1, 2, none⟩ = some (.slice none 0 0) := by rw [cell_of_row _ _ _ _ 74 (0, 0) hset]; rfl
  exact bodyPost_ret (v := .tuple #[.agg zRe, .int .i64 2]) (by simp [results, Tryz.results30, go_sem, b0, b1, b2, zRe]) rfl ⟨rfl, hEf⟩
end Go.Proofs.YthageoibkeebhaaGreatDoor

/- A state's rows in memory: a map of strings to rows. No condition. -/
namespace Go.Proofs.YthageoibkeebhaaGreatDoor
open Go.RowKit Go.Maps Go.WideMaps
set_option maxRecDepth 100000
structure Rw where
  key : ByteArray
  val : ByteArray
/-- A pointer to a row, as an element of a map: its block. -/
def rdP : Value → Option (DataW Unit × List MemPlace)
  | .pointer none => some (.lit (.bool false), [])
  | .pointer (some ⟨g, 0, none⟩) => some (.lit (.int .u64 (g : Int)), [])
  | _ => none
theorem rdP_inv {v : Value} {z : DataW Unit × List MemPlace} (h : rdP v = some z) : (v = .pointer none ∧ z = (.lit (.bool false), [])) ∨ ∃ g : Nat, v = .pointer (some ⟨g, 0, none⟩) ∧ z = (.lit (.int .u64 (g : Int)), []) := by
  unfold rdP at h
  split at h
  · cases h; exact .inl ⟨rfl, rfl⟩
  · cases h; exact .inr ⟨_, rfl, rfl⟩
  · cases h
/-- The datum that rows with their blocks make. -/
def dOf (rs : List (Rw × Nat)) : DataW Unit := .map (rs.map fun p => (.string p.1.key.data.toList, .lit (.int .u64 (p.2 : Int))))
def keyIs (k : ByteArray) (p : Rw × Nat) : Bool := p.1.key.data.toList == k.data.toList
def insR (x : Rw × Nat) : List (Rw × Nat) → List (Rw × Nat)
  | [] => [x]
  | y :: r => if bytesBefore x.1.key.data.toList y.1.key.data.toList then x :: y :: r else y :: insR x r
def putR (rs : List (Rw × Nat)) (k v : ByteArray) (g : Nat) : List (Rw × Nat) := insR (⟨k, v⟩, g) (rs.filter fun p => !keyIs k p)
def delR (rs : List (Rw × Nat)) (k : ByteArray) : List (Rw × Nat) := rs.filter fun p => !keyIs k p
theorem dOf_ins (x : Rw × Nat) : ∀ rs : List (Rw × Nat), DataW.insert (.string x.1.key.data.toList, .lit (.int .u64 (x.2 : Int))) (rs.map fun p => ((.string p.1.key.data.toList, .lit (.int .u64 (p.2 : Int))) : Lit × DataW Unit)) = (insR x rs).map fun p => (.string p.1.key.data.toList, .lit (.int .u64 (p.2 : Int)))
  | [] => rfl
  | y :: r => by
    have ih := dOf_ins x r
    have e1 : ∀ (X Y : Lit × DataW Unit) (R : List (Lit × DataW Unit)), DataW.insert X (Y :: R) = if X.1.before Y.1 = true then X :: Y :: R else Y :: DataW.insert X R := fun _ _ _ => rfl
    have e2 : insR x (y :: r) = if bytesBefore x.1.key.data.toList y.1.key.data.toList = true then x :: y :: r else y :: insR x r := rfl
    rw [List.map_cons, e1, e2]
    by_cases hb : bytesBefore x.1.key.data.toList y.1.key.data.toList = true
    all_goals have hb2 : Lit.before (.string x.1.key.data.toList) (.string y.1.key.data.toList) = bytesBefore x.1.key.data.toList y.1.key.data.toList := rfl
    · rw [if_pos (hb2.trans hb), if_pos hb]; rfl
    · rw [if_neg (fun h => hb (hb2.symm.trans h)), if_neg hb, ih]; rfl
theorem dOf_filter (k : ByteArray) (rs : List (Rw × Nat)) : (rs.map fun p => ((.string p.1.key.data.toList, .lit (.int .u64 (p.2 : Int))) : Lit × DataW Unit)).filter (fun p => !p.1.sameKey (.string k.data.toList)) = (rs.filter fun p => !keyIs k p).map fun p => (.string p.1.key.data.toList, .lit (.int .u64 (p.2 : Int))) := by
  rw [List.filter_map]; rfl
theorem dOf_put (rs : List (Rw × Nat)) (k v : ByteArray) (g : Nat) : (dOf rs).put (.string k.data.toList) (.lit (.int .u64 (g : Int))) = dOf (putR rs k v g) := by
  unfold dOf putR
  simp only [DataW.put]
  rw [dOf_filter k rs]
  exact congrArg DataW.map (dOf_ins (⟨k, v⟩, g) _)
theorem dOf_del (rs : List (Rw × Nat)) (k : ByteArray) : (dOf rs).del (.string k.data.toList) = dOf (delR rs k) := by
  unfold dOf delR
  simp only [DataW.del]
  rw [dOf_filter k rs]
theorem dOf_at (rs : List (Rw × Nat)) (k : ByteArray) (z : DataW Unit) : (dOf rs).atKey (.string k.data.toList) z = match rs.find? (keyIs k) with | some p => .lit (.int .u64 (p.2 : Int)) | none => z := by
  unfold dOf
  simp only [DataW.atKey, List.find?_map]
  have : ((fun p : Lit × DataW Unit => p.1.sameKey (.string k.data.toList)) ∘ fun p : Rw × Nat => (.string p.1.key.data.toList, .lit (.int .u64 (p.2 : Int)))) = keyIs k := rfl
  rw [this]
  cases rs.find? (keyIs k) <;> rfl
theorem dOf_size (rs : List (Rw × Nat)) : Maps.size (dOf rs) = rs.length := by unfold dOf; rw [Maps.size_eq, List.length_map]
theorem dOf_keys (rs : List (Rw × Nat)) : strKeys (dOf rs) = rs.map fun p => p.1.key.data.toList := by show List.map _ (List.map _ rs) = _; rw [List.map_map]; rfl
def rowR (r : Rw) : Array Value := #[.string r.key, .string r.val]
/-- The rows, with their blocks, that a map holds, all of it in memory from base on. -/
def MapAt (w : World) (base mb : Nat) (rs : List (Rw × Nat)) : Prop := w.ownsMap Tryz.prog 9 rdP mb rs.length (dOf rs) ∧ base ≤ mb ∧ ∀ p ∈ rs, base ≤ p.2 ∧ p.2 ≠ mb ∧ w.heap[p.2]? = some (.cells (rowR p.1) 84 (0, 0))
theorem keyed : Keyed Tryz.prog 9 := string_keyed Tryz.underlying9
theorem zero_prow (w : World) : (zeroValue 90).run Tryz.prog w = .ok (.pointer none) w := by kernel_rfl
theorem own_tight {w : World} {b n : Nat} {D : DataW Unit} (h : w.ownsMap Tryz.prog 9 rdP b n D) : w.ownsMap Tryz.prog 9 rdP b (Maps.size D) D := by
  obtain ⟨es, clock, hb, F, _, rfl⟩ := h
  refine ⟨es, clock, hb, F, ?_, rfl⟩
  rw [Maps.size_eq, length_sorted]; simp
/-- A look into the map. -/
theorem MapAt.look {w : World} {base mb : Nat} {rs : List (Rw × Nat)} (h : MapAt w base mb rs) (k : ByteArray) (hk : k.size ≤ 140737488351232) :
    (Instr.lookup 91 (.map (some mb)) (.string k) false).run Tryz.prog w = .ok (.pointer ((rs.find? (keyIs k)).map fun p => ⟨p.2, 0, none⟩)) w := by
  obtain ⟨v, ps, hrun, hv⟩ := h.1.lookup keyed Tryz.underlying91 (zero_prow w) (zd := .lit (.bool false)) (zp := []) rfl (keyOf_string_mk Tryz.underlying9 (s := k) (by unfold maxLen; omega))
  rw [hrun, dOf_at] at *
  rcases rdP_inv hv with ⟨rfl, he⟩ | ⟨g, rfl, he⟩
  · cases hf : rs.find? (keyIs k) with
    | none => rfl
    | some p => rw [hf] at he; simp at he
  · cases hf : rs.find? (keyIs k) with
    | none => rw [hf] at he; simp at he
    | some p =>
      rw [hf] at he
      simp at he
      obtain ⟨he, _⟩ := he
      have : g = p.2 := by omega
      rw [this]; rfl
end Go.Proofs.YthageoibkeebhaaGreatDoor

/- A state in memory; New; what put, del, cas, get are answered. (Printed by wip/tools/gmod2.py.) No condition. -/
namespace Go.Proofs.YthageoibkeebhaaGreatDoor
open Go.RowKit Go.Maps Go.WideMaps
set_option maxRecDepth 100000
set_option maxHeartbeats 1000000
/-- What a client said last: its number, and what was replied (no rows). -/
structure Sv where
  num : Nat
  e : Int
  yes : Bool
def svc (s : Sv) : List Value := [.int .u32 (s.num : Int), .int .i64 s.e, .bool s.yes, .slice none 0 0]
def stRow (mb : Nat) (sd : List Sv) : Array Value := (.map (some mb) :: sd.flatMap svc).toArray
theorem grown_of_ext {w w' : World} (he : Ext w w') : w.grownBy w' none := ⟨Below.os he, Below.tape he, Below.output he, Below.size he, fun k hk _ => Below.block he k hk⟩
theorem MapAt.ext {w w' : World} {base mb : Nat} {rs : List (Rw × Nat)} (h : MapAt w base mb rs) (he : Ext w w') : MapAt w' base mb rs :=
  ⟨h.1.kept (grown_of_ext he) (by simp), h.2.1, fun p hp => ⟨(h.2.2 p hp).1, (h.2.2 p hp).2.1, he.row (h.2.2 p hp).2.2⟩⟩
/-- A state that a call made, in memory that came behind w0: its rows, with their blocks, and who said what last. -/
def StX (w0 w : World) (st : Nat) (rs : List (Rw × Nat)) (sd : List Sv) : Prop := Ext w0 w ∧ sd.length = 9 ∧ ∃ mb, MapAt w w0.heap.size mb rs ∧ w0.heap.size ≤ st ∧ st ≠ mb ∧ (∀ p ∈ rs, p.2 ≠ st) ∧ w.heap[st]? = some (.cells (stRow mb sd) 96 (0, 0))
theorem StX.ext {w0 w w' : World} {st : Nat} {rs : List (Rw × Nat)} {sd : List Sv} (h : StX w0 w st rs sd) (he : Ext w w') : StX w0 w' st rs sd := by
  obtain ⟨h0, h1, mb, h2, h3, h4, h5, h6⟩ := h
  exact ⟨h0.trans he, h1, mb, h2.ext he, h3, h4, h5, he.row h6⟩
theorem StX.lt {w0 w : World} {st : Nat} {rs : List (Rw × Nat)} {sd : List Sv} (h : StX w0 w st rs sd) : st < w.heap.size := by
  obtain ⟨h0, h1, mb, h2, h3, h4, h5, h6⟩ := h
  exact (Array.getElem?_eq_some_iff.1 h6).1
theorem StX.rlt {w0 w : World} {st : Nat} {rs : List (Rw × Nat)} {sd : List Sv} (h : StX w0 w st rs sd) {p : Rw × Nat} (hp : p ∈ rs) : p.2 < w.heap.size := by
  obtain ⟨h0, h1, mb, h2, h3, h4, h5, h6⟩ := h
  exact (Array.getElem?_eq_some_iff.1 (h2.2.2 p hp).2.2).1
theorem StX.map {w0 w : World} {st : Nat} {rs : List (Rw × Nat)} {sd : List Sv} (h : StX w0 w st rs sd) : ∃ mb, MapAt w w0.heap.size mb rs ∧ w.cell? ⟨st, 0, none⟩ = some (.map (some mb)) := by
  obtain ⟨h0, h1, mb, h2, h3, h4, h5, h6⟩ := h
  exact ⟨mb, h2, by rw [cell_of_row _ _ 0 _ 96 (0, 0) h6]; rfl⟩
theorem st_there {w0 w : World} {st : Nat} {rs : List (Rw × Nat)} {sd : List Sv} (h : StX w0 w st rs sd) : Calls Tryz.prog 54 #[.pointer (some ⟨st, 0, none⟩)] w fun e w' => e = .returned (.bool true) ∧ w = w' := by
  obtain ⟨mb, _, h2⟩ := h.map
  have hm : ∀ w, _ := fun w => run_neq_map_nil (P := Tryz.prog) w 91 9 90 (some mb) Tryz.underlying91
  go_enter Tryz.func54, Tryz.ntmps54
  go_wp2
  go_ret
  exact ⟨rfl, rfl⟩
def zSd : List Sv := List.replicate 9 ⟨0, 0, false⟩
theorem st_new (w : World) : Calls Tryz.prog 23 #[] w fun e w' => e = .returned (.pointer (some ⟨w.heap.size + 1, 0, none⟩)) ∧ StX w w' (w.heap.size + 1) [] zSd := by
  have hmm := @run_makeMap Tryz.prog
  go_enter Tryz.func23, Tryz.ntmps23
  go_wp2
  go_ret
  refine ⟨rfl, ((Ext.refl _).alloc _).alloc _, rfl, w.heap.size, ⟨(World.ownsMap_made w _ _ _).alloc _, Nat.le_refl _, fun _ h => by cases h⟩, by omega, by omega, fun _ h => (by cases h), ?_⟩
  have h2 := heap_alloc_new (w.alloc (.map #[] 0)) (.cells (stRow w.heap.size zSd) 96)
  rw [show (w.alloc (.map #[] 0)).heap.size = w.heap.size + 1 by simp] at h2
  exact h2
theorem askc {w : World} {b : Nat} {x : Ak} {u : Value} (h : w.heap[b]? = some (.cells (x.row u) 66 (0, 0))) : w.cell? ⟨b, 0, none⟩ = some (.int .u8 x.kind) ∧ w.cell? ⟨b, 1, none⟩ = some (.string x.key) ∧ w.cell? ⟨b, 2, none⟩ = some (.string x.val) ∧ w.cell? ⟨b, 3, none⟩ = some (.string x.old) ∧ w.cell? ⟨b, 4, none⟩ = some (.bool x.new) ∧ w.cell? ⟨b, 5, none⟩ = some (.string x.to) ∧ w.cell? ⟨b, 6, none⟩ = some (.int .i64 x.many) ∧ w.cell? ⟨b, 7, none⟩ = some u := by
  refine ⟨?_, ?_, ?_, ?_, ?_, ?_, ?_, ?_⟩ <;> (rw [cell_of_row _ _ _ _ 66 (0, 0) h]; rfl)
/-- A reply without rows. -/
def reB (b : Bool) : Array Value := #[.int .i64 0, .bool b, .slice none 0 0]
theorem reB_one (b : Bool) : (reB b).all (·.oneCell') = true := by kernel_rfl
theorem re_cells {w : World} {g : Nat} {a : Int} {b : Bool} {v : Value} (h : w.heap[g]? = some (.cells #[.int .i64 a, .bool b, v] 74 (0, 0))) : w.cell? ⟨g, 0, none⟩ = some (.int .i64 a) ∧ w.cell? ⟨g, 1, none⟩ = some (.bool b) ∧ w.cell? ⟨g, 2, none⟩ = some v := by
  refine ⟨?_, ?_, ?_⟩ <;> (rw [cell_of_row _ _ _ _ 74 (0, 0) h]; rfl)
theorem st_put {w0 w : World} {st : Nat} {rs : List (Rw × Nat)} {sd : List Sv} (hS : StX w0 w st rs sd) (x : Ak) (u : Value) : Calls Tryz.prog 146 #[.pointer (some ⟨st, 0, none⟩), .agg (x.row u)] w fun e w' => e = .returned (.agg (reB true)) ∧ Ext w w' := by
  obtain ⟨W, hW⟩ : ∃ W, W = (w.alloc (.cells (x.row u) 66)).alloc (.cells zRe 74) := ⟨_, rfl⟩
  have hE : Ext w W := by rw [hW]; exact ((Ext.refl _).alloc _).alloc _
  have hX : W.heap[w.heap.size]? = some (.cells (x.row u) 66 (0, 0)) := by rw [hW]; exact ((Ext.refl _).alloc _).row (heap_alloc_new w _)
  have hR : W.heap[w.heap.size + 1]? = some (.cells zRe 74 (0, 0)) := by
    have h1 := heap_alloc_new (w.alloc (.cells (x.row u) 66)) (.cells zRe 74)
    rw [show (w.alloc (.cells (x.row u) 66)).heap.size = w.heap.size + 1 by simp] at h1
    rw [hW]; exact h1
  have hT := hS.ext hE
  have hsb : st ≠ w.heap.size + 1 := by have := hS.lt; omega
  have hrc := askc hX
  have hW' := Lib.hid hW
  clear hW hX
  unfold Ak.row zRe at hW'
  unfold Ak.row
  go_enter Tryz.func146, Tryz.ntmps146
  go_upto_region 1 with fail
  rw [← hW'.out]
  clear hW'
  go_wp2_with (first | (refine wpList_store_row (by rfl) 74 (.tmp 4) (.tmp 5) (by rfl) (w.heap.size + 1) (reB true) (by rfl) (by rfl) 74 zRe hR (by exact info_reply) (by rfl) (reB_one true) ?_) | fail)
  have hset : (W.setRow (w.heap.size + 1) (reB true)).heap[w.heap.size + 1]? = some (.cells (reB true) 74 (0, 0)) := by rw [setRow_heap _ _ _ _ _ _ hR]
  have hEf : Ext w (W.setRow (w.heap.size + 1) (reB true)) := hE.setRow (by omega) _
  generalize W.setRow (w.heap.size + 1) (reB true) = Wf at *
  obtain ⟨b0, b1, b2⟩ := re_cells hset
  exact bodyPost_ret (v := .agg (reB true)) (by simp [results, Tryz.results146, go_sem, b0, b1, b2, reB]) rfl ⟨rfl, hEf⟩
/-- What a key leads to, as a pointer. -/
def ptrOf (rs : List (Rw × Nat)) (k : ByteArray) : Value := .pointer ((rs.find? (keyIs k)).map fun p => ⟨p.2, 0, none⟩)
theorem st_del {w0 w : World} {st : Nat} {rs : List (Rw × Nat)} {sd : List Sv} (hS : StX w0 w st rs sd) (x : Ak) (hx : x.key.size ≤ 140737488351232) (u : Value) : Calls Tryz.prog 147 #[.pointer (some ⟨st, 0, none⟩), .agg (x.row u)] w fun e w' => e = .returned (.agg (reB (rs.find? (keyIs x.key)).isSome)) ∧ Ext w w' := by
  obtain ⟨W, hW⟩ : ∃ W, W = (w.alloc (.cells (x.row u) 66)).alloc (.cells zRe 74) := ⟨_, rfl⟩
  have hE : Ext w W := by rw [hW]; exact ((Ext.refl _).alloc _).alloc _
  have hX : W.heap[w.heap.size]? = some (.cells (x.row u) 66 (0, 0)) := by rw [hW]; exact ((Ext.refl _).alloc _).row (heap_alloc_new w _)
  have hR : W.heap[w.heap.size + 1]? = some (.cells zRe 74 (0, 0)) := by
    have h1 := heap_alloc_new (w.alloc (.cells (x.row u) 66)) (.cells zRe 74)
    rw [show (w.alloc (.cells (x.row u) 66)).heap.size = w.heap.size + 1 by simp] at h1
    rw [hW]; exact h1
  have hT := hS.ext hE
  have hsb : st ≠ w.heap.size + 1 := by have := hS.lt; omega
  have hrc := askc hX
  have hW' := Lib.hid hW
  clear hW hX
  unfold Ak.row zRe at hW'
  unfold Ak.row
  go_enter Tryz.func147, Tryz.ntmps147
  obtain ⟨mb, hM, hc0⟩ := hT.map
  have hlk := (hM.ext (Ext.refl W).drew).look x.key hx
  obtain ⟨_, k1, _⟩ := hrc
  generalize (rs.find? (keyIs x.key)) = o at *
  cases o with
  | none =>
    simp only [Option.map_none] at hlk
    go_upto_region 1 with fail
    rw [← hW'.out]
    clear hW'
    go_still_tail 9, (by kernel_rfl)
    change wpList _ _ _ _ _ W.drew
    refine wpList_store_row (by rfl) 74 (.tmp 4) (.tmp 13) (by rfl) (w.heap.size + 1) (reB false) (by rfl) (by rfl) 74 zRe (show W.drew.heap[w.heap.size + 1]? = _ from hR) (by exact info_reply) (by rfl) (reB_one false) ?_
    have hset : (W.drew.setRow (w.heap.size + 1) (reB false)).heap[w.heap.size + 1]? = some (.cells (reB false) 74 (0, 0)) := by rw [setRow_heap _ _ _ _ _ _ (show W.drew.heap[w.heap.size + 1]? = _ from hR)]
    have hEf : Ext w (W.drew.setRow (w.heap.size + 1) (reB false)) := hE.drew.setRow (by omega) _
    generalize W.drew.setRow (w.heap.size + 1) (reB false) = Wf at *
    obtain ⟨b0, b1, b2⟩ := re_cells hset
    clear hlk
    go_wp2_with fail
    exact bodyPost_ret (v := .agg (reB false)) (by simp [results, Tryz.results147, go_sem, b0, b1, b2, reB]) rfl ⟨rfl, hEf⟩
  | some p =>
    simp only [Option.map_some] at hlk
    go_upto_region 1 with fail
    rw [← hW'.out]
    clear hW'
    go_still_tail 9, (by kernel_rfl)
    change wpList _ _ _ _ _ W.drew
    refine wpList_store_row (by rfl) 74 (.tmp 4) (.tmp 13) (by rfl) (w.heap.size + 1) (reB true) (by rfl) (by rfl) 74 zRe (show W.drew.heap[w.heap.size + 1]? = _ from hR) (by exact info_reply) (by rfl) (reB_one true) ?_
    have hset : (W.drew.setRow (w.heap.size + 1) (reB true)).heap[w.heap.size + 1]? = some (.cells (reB true) 74 (0, 0)) := by rw [setRow_heap _ _ _ _ _ _ (show W.drew.heap[w.heap.size + 1]? = _ from hR)]
    have hEf : Ext w (W.drew.setRow (w.heap.size + 1) (reB true)) := hE.drew.setRow (by omega) _
    generalize W.drew.setRow (w.heap.size + 1) (reB true) = Wf at *
    obtain ⟨b0, b1, b2⟩ := re_cells hset
    clear hlk
    go_wp2_with fail
    exact bodyPost_ret (v := .agg (reB true)) (by simp [results, Tryz.results147, go_sem, b0, b1, b2, reB]) rfl ⟨rfl, hEf⟩
/-- May a cas be made? -/
def casB (o : Option (Rw × Nat)) (x : Ak) : Bool := match o with
  | none => x.new
  | some p => !x.new && (p.1.val.toList == x.old.toList)
theorem row_cells {w : World} {g : Nat} {r : Rw} (h : w.heap[g]? = some (.cells (rowR r) 84 (0, 0))) : w.cell? ⟨g, 0, none⟩ = some (.string r.key) ∧ w.cell? ⟨g, 1, none⟩ = some (.string r.val) := by
  refine ⟨?_, ?_⟩ <;> (rw [cell_of_row _ _ _ _ 84 (0, 0) h]; rfl)
theorem Below.setRow {base : Nat} {w w' : World} (h : Below base w w') {g : Nat} (hg : base ≤ g) (cs : Array Value) : Below base w (w'.setRow g cs) :=
  Below.trans h ⟨rfl, rfl, rfl, by simp, fun k hk => setRow_other w' g k cs (by omega)⟩
/-- A reply is stored whole. -/
theorem st_re {base : Nat} {wr W : World} {b : Nat} {old : Array Value} (hb : W.heap[b]? = some (.cells old 74 (0, 0))) (ho : old.size = 3) (hE : Below base wr W) (hle : base ≤ b) (z : Bool) :
    ∃ W', (storeCells ⟨b, 0, none⟩ (reB z).toList).run Tryz.prog W = .ok () W' ∧ Below base wr W' ∧ W'.heap[b]? = some (.cells (reB z) 74 (0, 0)) := by
  refine ⟨W.setRow b (reB z), ?_, Below.setRow hE hle _, by rw [setRow_heap _ _ _ _ _ _ hb]⟩
  rw [run_storeCells_from b 74 (reB z).toList 0 old W hb (by rw [ho]; rfl) (fun v hv => Array.all_eq_true_iff_forall_mem.1 (reB_one z) v (by simpa using hv))]
  match old, ho with
  | ⟨[x, y, t]⟩, _ => rfl
/-- A box: what stands in it is not laid open by a tactic that looks at the goal (a walk that passes operations over would be run to its end each time). -/
structure Bx (p : Prop) : Prop where
  out : p
theorem bxSkip {P : Program} {ops : Array Oper} {w : World} {Q : Act → Prop} {o : Oper} {rest : List Oper} {a : Act} (hw : Region.wanted o (yielded ops a.tmps) = false) (h : Bx (wpStill P ops w Q rest (a.put o.dst undef))) : Bx (wpStill P ops w Q (o :: rest) a) := by
  refine ⟨?_⟩
  unfold wpStill
  rw [if_neg (by rw [hw]; decide)]
  exact h.out
theorem bxStep {P : Program} {ops : Array Oper} {w : World} {Q : Act → Prop} {o : Oper} {rest : List Oper} {a : Act} (h : ∀ K : Act → Prop, (∀ a, Bx (wpStill P ops w Q rest a) → K a) → if Region.wanted o (yielded ops a.tmps) then o.still P a w K else K (a.put o.dst undef)) : Bx (wpStill P ops w Q (o :: rest) a) :=
  ⟨wpStill_step fun K hK => h K fun a h => hK a h.out⟩
theorem bxNil {P : Program} {ops : Array Oper} {w : World} {Q : Act → Prop} {a : Act} (h : Q a) : Bx (wpStill P ops w Q [] a) := ⟨h⟩
theorem bxTail {P : Program} {id : Nat} {Q : Exit → Act → World → Prop} {a : Act} {w : World} {l : List Oper} (n : Nat) (hm : P.follows .mixedOrders = true) (hB : Region.lexTailB .any l.toArray n = true)
    (h : Bx (wpStill P l.toArray { w with drawn := w.drawn + 1 } (fun a' => wpList P l.toArray Q (l.drop n) a' { w with drawn := w.drawn + 1 }) (l.take n) a)) : (Code.region id l.toArray true).wp P Q a w := wp_region_still_tail n hm hB h.out
theorem st_cas {w0 w : World} {st : Nat} {rs : List (Rw × Nat)} {sd : List Sv} (hS : StX w0 w st rs sd) (x : Ak) (hx : x.key.size ≤ 140737488351232) (u : Value) : Calls Tryz.prog 100 #[.pointer (some ⟨st, 0, none⟩), .agg (x.row u)] w fun e w' => e = .returned (.agg (reB (casB (rs.find? (keyIs x.key)) x))) ∧ Ext w w' := by
  obtain ⟨W, hW⟩ : ∃ W, W = (w.alloc (.cells (x.row u) 66)).alloc (.cells zRe 74) := ⟨_, rfl⟩
  have hE : Ext w W := by rw [hW]; exact ((Ext.refl _).alloc _).alloc _
  have hX : W.heap[w.heap.size]? = some (.cells (x.row u) 66 (0, 0)) := by rw [hW]; exact ((Ext.refl _).alloc _).row (heap_alloc_new w _)
  have hR : W.heap[w.heap.size + 1]? = some (.cells zRe 74 (0, 0)) := by
    have h1 := heap_alloc_new (w.alloc (.cells (x.row u) 66)) (.cells zRe 74)
    rw [show (w.alloc (.cells (x.row u) 66)).heap.size = w.heap.size + 1 by simp] at h1
    rw [hW]; exact h1
  have hT := hS.ext hE
  have hsb : st ≠ w.heap.size + 1 := by have := hS.lt; omega
  have hrc := askc hX
  have hW' := Lib.hid hW
  clear hW hX
  unfold Ak.row zRe at hW'
  unfold Ak.row
  go_enter Tryz.func100, Tryz.ntmps100
  obtain ⟨mb, hM, hc0⟩ := hT.map
  have hlk := (hM.ext (Ext.refl W).drew).look x.key hx
  have hrow : ∀ p, rs.find? (keyIs x.key) = some p → W.heap[p.2]? = some (.cells (rowR p.1) 84 (0, 0)) := fun p hp => (hM.2.2 p (List.mem_of_find?_eq_some hp)).2.2
  have hpl0 : ∀ p, rs.find? (keyIs x.key) = some p → p.2 < w.heap.size := fun p hp => hS.rlt (List.mem_of_find?_eq_some hp)
  obtain ⟨_, k1, _, k3, k4, _⟩ := hrc
  generalize (rs.find? (keyIs x.key)) = o at *
  have hBB : ∃ b, b = casB o x := ⟨_, rfl⟩
  obtain ⟨bb, hbb⟩ := hBB
  rw [← hbb]
  have hbb' := Lib.hid hbb
  clear hbb hM hT
  cases o with
  | none =>
    clear hrow hpl0
    simp only [Option.map_none] at hlk
    go_upto_region 1 with fail
    rw [← hW'.out]
    clear hW'
    go_still (by kernel_rfl)
    rw [show ({ heap := W.heap, tape := W.tape, drawn := W.drawn + 1, os := W.os, output := W.output } : World) = W.drew from rfl]
    clear hlk
    replace k3 : W.drew.cell? ⟨w.heap.size, 3, none⟩ = some (.string x.old) := k3
    replace k4 : W.drew.cell? ⟨w.heap.size, 4, none⟩ = some (.bool x.new) := k4
    replace hR : W.drew.heap[w.heap.size + 1]? = some (.cells zRe 74 (0, 0)) := hR
    replace hE := hE.drew
    clear k1 hc0
    generalize W.drew = W2 at *
    cases hn : x.new
    · have hb2 : bb = false := by rw [hbb'.out]; simp [casB, hn]
      rw [hn] at k4
      subst hb2
      have hn' := Lib.hid hn
      clear hn
      go_upto_region 2 with fail
      refine bxTail 19 (by kernel_rfl) (by kernel_rfl) ?_
      simp only [List.take_succ_cons, List.take_zero, List.drop_succ_cons, List.drop_zero]
      iterate 19 (first | (refine bxSkip (by rfl) ?_; simp only [Act.put, List.setIfInBounds_toArray, List.set_cons_zero, List.set_cons_succ]) | (refine bxStep (fun K hK => ?_); go_simp; refine hK _ ?_; clear hK K))
      refine bxNil ?_
      change wpList _ _ _ _ _ W2.drew
      refine wpList_store_row (by rfl) 74 (.tmp 4) (.tmp 31) (by rfl) (w.heap.size + 1) (reB false) (by rfl) (by rfl) 74 zRe (show W2.drew.heap[w.heap.size + 1]? = _ from hR) (by exact info_reply) (by rfl) (reB_one false) ?_
      have hset : (W2.drew.setRow (w.heap.size + 1) (reB false)).heap[w.heap.size + 1]? = some (.cells (reB false) 74 (0, 0)) := by rw [setRow_heap _ _ _ _ _ _ (show W2.drew.heap[w.heap.size + 1]? = _ from hR)]
      have hEf : Ext w (W2.drew.setRow (w.heap.size + 1) (reB false)) := hE.drew.setRow (by omega) _
      generalize W2.drew.setRow (w.heap.size + 1) (reB false) = Wf at *
      obtain ⟨b0, b1, b2⟩ := re_cells hset
      go_wp2_with fail
      exact bodyPost_ret (v := .agg (reB false)) (by simp [results, Tryz.results100, go_sem, b0, b1, b2, reB]) rfl ⟨rfl, hEf⟩
    · have hb2 : bb = true := by rw [hbb'.out]; simp [casB, hn]
      rw [hn] at k4
      subst hb2
      have hn' := Lib.hid hn
      clear hn
      go_upto_region 2 with fail
      refine bxTail 19 (by kernel_rfl) (by kernel_rfl) ?_
      simp only [List.take_succ_cons, List.take_zero, List.drop_succ_cons, List.drop_zero]
      iterate 19 (first | (refine bxSkip (by rfl) ?_; simp only [Act.put, List.setIfInBounds_toArray, List.set_cons_zero, List.set_cons_succ]) | (refine bxStep (fun K hK => ?_); go_simp; refine hK _ ?_; clear hK K))
      refine bxNil ?_
      change wpList _ _ _ _ _ W2.drew
      refine wpList_store_row (by rfl) 74 (.tmp 4) (.tmp 31) (by rfl) (w.heap.size + 1) (reB true) (by rfl) (by rfl) 74 zRe (show W2.drew.heap[w.heap.size + 1]? = _ from hR) (by exact info_reply) (by rfl) (reB_one true) ?_
      have hset : (W2.drew.setRow (w.heap.size + 1) (reB true)).heap[w.heap.size + 1]? = some (.cells (reB true) 74 (0, 0)) := by rw [setRow_heap _ _ _ _ _ _ (show W2.drew.heap[w.heap.size + 1]? = _ from hR)]
      have hEf : Ext w (W2.drew.setRow (w.heap.size + 1) (reB true)) := hE.drew.setRow (by omega) _
      generalize W2.drew.setRow (w.heap.size + 1) (reB true) = Wf at *
      obtain ⟨b0, b1, b2⟩ := re_cells hset
      go_wp2_with fail
      exact bodyPost_ret (v := .agg (reB true)) (by simp [results, Tryz.results100, go_sem, b0, b1, b2, reB]) rfl ⟨rfl, hEf⟩
  | some p =>
    have hpl : p.2 < w.heap.size + 1 := by have := hpl0 p rfl; omega
    obtain ⟨_, q1⟩ := row_cells (hrow p rfl)
    clear hpl0
    clear hrow
    simp only [Option.map_some] at hlk
    go_upto_region 1 with fail
    rw [← hW'.out]
    clear hW'
    go_still (by kernel_rfl)
    rw [show ({ heap := W.heap, tape := W.tape, drawn := W.drawn + 1, os := W.os, output := W.output } : World) = W.drew from rfl]
    clear hlk
    replace k3 : W.drew.cell? ⟨w.heap.size, 3, none⟩ = some (.string x.old) := k3
    replace k4 : W.drew.cell? ⟨w.heap.size, 4, none⟩ = some (.bool x.new) := k4
    replace hR : W.drew.heap[w.heap.size + 1]? = some (.cells zRe 74 (0, 0)) := hR
    replace hE := hE.drew
    clear k1 hc0
    replace q1 : W.drew.cell? ⟨p.2, 1, none⟩ = some (.string p.1.val) := q1
    generalize W.drew = W2 at *
    cases hn : x.new
    · cases ho : p.1.val.toList == x.old.toList
      · have hb2 : bb = false := by rw [hbb'.out]; simp [casB, hn, ho]
        rw [hn] at k4
        subst hb2
        have hn' := Lib.hid hn
        clear hn
        go_upto_region 2 with fail
        refine bxTail 19 (by kernel_rfl) (by kernel_rfl) ?_
        simp only [List.take_succ_cons, List.take_zero, List.drop_succ_cons, List.drop_zero]
        iterate 19 (first | (refine bxSkip (by rfl) ?_; simp only [Act.put, List.setIfInBounds_toArray, List.set_cons_zero, List.set_cons_succ]) | (refine bxStep (fun K hK => ?_); go_simp; refine hK _ ?_; clear hK K))
        refine bxNil ?_
        change wpList _ _ _ _ _ W2.drew
        refine wpList_store_row (by rfl) 74 (.tmp 4) (.tmp 31) (by rfl) (w.heap.size + 1) (reB false) (by rfl) (by rfl) 74 zRe (show W2.drew.heap[w.heap.size + 1]? = _ from hR) (by exact info_reply) (by rfl) (reB_one false) ?_
        have hset : (W2.drew.setRow (w.heap.size + 1) (reB false)).heap[w.heap.size + 1]? = some (.cells (reB false) 74 (0, 0)) := by rw [setRow_heap _ _ _ _ _ _ (show W2.drew.heap[w.heap.size + 1]? = _ from hR)]
        have hEf : Ext w (W2.drew.setRow (w.heap.size + 1) (reB false)) := hE.drew.setRow (by omega) _
        generalize W2.drew.setRow (w.heap.size + 1) (reB false) = Wf at *
        obtain ⟨b0, b1, b2⟩ := re_cells hset
        go_wp2_with fail
        exact bodyPost_ret (v := .agg (reB false)) (by simp [results, Tryz.results100, go_sem, b0, b1, b2, reB]) rfl ⟨rfl, hEf⟩
      · have hb2 : bb = true := by rw [hbb'.out]; simp [casB, hn, ho]
        rw [hn] at k4
        subst hb2
        have hn' := Lib.hid hn
        clear hn
        go_upto_region 2 with fail
        refine bxTail 19 (by kernel_rfl) (by kernel_rfl) ?_
        simp only [List.take_succ_cons, List.take_zero, List.drop_succ_cons, List.drop_zero]
        iterate 19 (first | (refine bxSkip (by rfl) ?_; simp only [Act.put, List.setIfInBounds_toArray, List.set_cons_zero, List.set_cons_succ]) | (refine bxStep (fun K hK => ?_); go_simp; refine hK _ ?_; clear hK K))
        refine bxNil ?_
        change wpList _ _ _ _ _ W2.drew
        refine wpList_store_row (by rfl) 74 (.tmp 4) (.tmp 31) (by rfl) (w.heap.size + 1) (reB true) (by rfl) (by rfl) 74 zRe (show W2.drew.heap[w.heap.size + 1]? = _ from hR) (by exact info_reply) (by rfl) (reB_one true) ?_
        have hset : (W2.drew.setRow (w.heap.size + 1) (reB true)).heap[w.heap.size + 1]? = some (.cells (reB true) 74 (0, 0)) := by rw [setRow_heap _ _ _ _ _ _ (show W2.drew.heap[w.heap.size + 1]? = _ from hR)]
        have hEf : Ext w (W2.drew.setRow (w.heap.size + 1) (reB true)) := hE.drew.setRow (by omega) _
        generalize W2.drew.setRow (w.heap.size + 1) (reB true) = Wf at *
        obtain ⟨b0, b1, b2⟩ := re_cells hset
        go_wp2_with fail
        exact bodyPost_ret (v := .agg (reB true)) (by simp [results, Tryz.results100, go_sem, b0, b1, b2, reB]) rfl ⟨rfl, hEf⟩
    · have hb2 : bb = false := by rw [hbb'.out]; simp [casB, hn]
      rw [hn] at k4
      subst hb2
      have hn' := Lib.hid hn
      clear hn
      go_upto_region 2 with fail
      refine bxTail 19 (by kernel_rfl) (by kernel_rfl) ?_
      simp only [List.take_succ_cons, List.take_zero, List.drop_succ_cons, List.drop_zero]
      iterate 19 (first | (refine bxSkip (by rfl) ?_; simp only [Act.put, List.setIfInBounds_toArray, List.set_cons_zero, List.set_cons_succ]) | (refine bxStep (fun K hK => ?_); go_simp; refine hK _ ?_; clear hK K))
      refine bxNil ?_
      change wpList _ _ _ _ _ W2.drew
      refine wpList_store_row (by rfl) 74 (.tmp 4) (.tmp 31) (by rfl) (w.heap.size + 1) (reB false) (by rfl) (by rfl) 74 zRe (show W2.drew.heap[w.heap.size + 1]? = _ from hR) (by exact info_reply) (by rfl) (reB_one false) ?_
      have hset : (W2.drew.setRow (w.heap.size + 1) (reB false)).heap[w.heap.size + 1]? = some (.cells (reB false) 74 (0, 0)) := by rw [setRow_heap _ _ _ _ _ _ (show W2.drew.heap[w.heap.size + 1]? = _ from hR)]
      have hEf : Ext w (W2.drew.setRow (w.heap.size + 1) (reB false)) := hE.drew.setRow (by omega) _
      generalize W2.drew.setRow (w.heap.size + 1) (reB false) = Wf at *
      obtain ⟨b0, b1, b2⟩ := re_cells hset
      go_wp2_with fail
      exact bodyPost_ret (v := .agg (reB false)) (by simp [results, Tryz.results100, go_sem, b0, b1, b2, reB]) rfl ⟨rfl, hEf⟩
end Go.Proofs.YthageoibkeebhaaGreatDoor
