/- Several texts in one: Sg0 Sg1 TwR TwD. No condition. -/
import Derived.Test.YthageoibkeebhaaGreatDoorRn3
import Derived.Test.YthageoibkeebhaaGreatDoorGrO
import Derived.Test.YthageoibkeebhaaGreatDoorGrD
import Derived.Test.YthageoibkeebhaaGreatDoorGrN
import Derived.OwnWalk
import Derived.Deep.OwnRows
import Derived.Deep.CutRange
import Derived.StillTailTactics
/- Who said what, with rows: told without where the rows lie; a said one in a block of its own, its reply turned. No condition. -/
namespace Go.Proofs.YthageoibkeebhaaGreatDoor
open Go.RowKit
set_option maxRecDepth 100000
/-- Without where the rows lie. -/
def Sa.bare (p : Sa) : Sa := ⟨p.cl, p.num, p.e, p.yes, p.rows, .slice none 0 0⟩
theorem keepS_bare (l : List Sa) (x : Sa) : (keepS l x).map Sa.bare = keepS (l.map Sa.bare) x.bare := by
  unfold keepS
  rw [List.map_append, List.map_cons]
  have h1 : (l.takeWhile (lessS x.cl)).map Sa.bare = (l.map Sa.bare).takeWhile (lessS x.cl) := by
    rw [List.takeWhile_map]; rfl
  have h2 : (pastS x.cl (l.dropWhile (lessS x.cl))).map Sa.bare = pastS x.cl ((l.map Sa.bare).dropWhile (lessS x.cl)) := by
    rw [List.dropWhile_map]
    show _ = pastS x.cl ((l.dropWhile (lessS x.cl)).map Sa.bare)
    cases l.dropWhile (lessS x.cl) with
    | nil => rfl
    | cons r q =>
      show (if r.cl = x.cl then q else r :: q).map _ = if r.cl = x.cl then _ else _
      split <;> rfl
  rw [h1, h2]; rfl
/-- Each one's rows lie in memory from base on. -/
def SaOwn (w : World) (base : Nat) (sd : List Sa) : Prop := ∀ p ∈ sd, OwnC w base 84 2 p.v p.rows.length (p.rows.flatMap rwL)
theorem SaOwn.ext {w w' : World} {base : Nat} {sd : List Sa} (h : SaOwn w base sd) (hE : Ext w w') : SaOwn w' base sd := fun p hp => (h p hp).ext hE
theorem SaOwn.weak {w : World} {base b : Nat} {sd : List Sa} (h : SaOwn w b sd) (hb : base ≤ b) : SaOwn w base sd := fun p hp => (h p hp).weak hb
theorem SaOwn.offB {w w' : World} {base : Nat} {sd : List Sa} {B : Nat → Prop} (h : SaOwn w base sd) (hO : OffB B w w') (hB : ∀ q, base ≤ q → q < w.heap.size → ¬ B q) : SaOwn w' base sd := fun p hp => (h p hp).offB hO (fun q hq => hB q ((h p hp).lt q hq).1 ((h p hp).lt q hq).2)
theorem SaOwn.nil (w : World) (base : Nat) : SaOwn w base [] := fun _ h => nomatch h
theorem SaOwn.snoc {w : World} {base : Nat} {sd : List Sa} {x : Sa} (h : SaOwn w base sd) (hx : OwnC w base 84 2 x.v x.rows.length (x.rows.flatMap rwL)) : SaOwn w base (sd ++ [x]) := fun p hp => by
  rcases List.mem_append.1 hp with hp | hp
  · exact h p hp
  · rw [List.mem_singleton.1 hp]; exact hx
/-- What is told of them, in memory of the call's own. -/
def SaidsX (sq : List Sa) (w : World) (e : Ending) (w' : World) : Prop := ∃ sd' a cap, e = .returned (.slice a sq.length cap) ∧ sd'.map Sa.bare = sq ∧ OwnC w' w.heap.size 87 5 (.slice a sq.length cap) sq.length (sd'.flatMap Sa.cells) ∧ SaOwn w' w.heap.size sd' ∧ Ext w w'
section
variable {W : World} {g : Nat} {x : Sa} {va : Option Addr} {vn vc : Nat}
theorem sa_reply_range (h : W.heap[g]? = some (.cells (saRow x va vn vc) 87 (0, 0))) : W.rangeAt g 2 (reH x.e x.yes (.slice va vn vc)).toList := fun j v hv => by
  have hj : j < 3 := (List.getElem?_eq_some_iff.1 hv).1
  rw [cell_of_row _ _ _ _ _ _ h]
  match j, hj with
  | 0, _ => exact hv
  | 1, _ => exact hv
  | 2, _ => exact hv
theorem sa_whole (h : W.heap[g]? = some (.cells (saRow x va vn vc) 87 (0, 0))) : W.rangeAt g 0 (saRow x va vn vc).toList := fun j v hv => by
  rw [cell_of_row _ _ _ _ _ _ h, Nat.zero_add, ← Array.getElem?_toList]; exact hv
theorem sa_there (h : W.heap[g]? = some (.cells (saRow x va vn vc) 87 (0, 0))) : W.there g 2 3 := fun j hj => by
  refine ⟨?_, by unfold World.frozen?; rw [h]; simp⟩
  rw [cell_of_row _ _ _ _ _ _ h, Array.getElem?_eq_getElem (show 2 + j < 5 by omega)]; rfl
theorem sa_put (h : W.heap[g]? = some (.cells (saRow x va vn vc) 87 (0, 0))) (a2 : Option Addr) (n2 c2 : Nat) : (W.setCells g 2 (reH x.e x.yes (.slice a2 n2 c2)).toList).heap[g]? = some (.cells (saRow x a2 n2 c2) 87 (0, 0)) := by
  rw [setCells_heap g 87 (0, 0) _ 2 W _ h (by show 2 + 3 ≤ 5; omega)]; rfl
theorem sa_cs (h : W.heap[g]? = some (.cells (saRow x va vn vc) 87 (0, 0))) : W.cell? ⟨g, 0, none⟩ = some (.int .u8 (x.cl : Int)) ∧ W.cell? ⟨g, 1, none⟩ = some (.int .u32 (x.num : Int)) ∧ W.cell? ⟨g, 2, none⟩ = some (.int .i64 x.e) ∧ W.cell? ⟨g, 3, none⟩ = some (.bool x.yes) ∧ W.cell? ⟨g, 4, none⟩ = some (.slice va vn vc) := by
  refine ⟨?_, ?_, ?_, ?_, ?_⟩ <;> (rw [cell_of_row _ _ _ _ _ _ h]; rfl)
end
theorem run_bs_sa (x : Sa) (va : Option Addr) (vn vc : Nat) (w : World) : (Instr.buildSlice 23 1 #[(0, .agg (saRow x va vn vc))]).run Tryz.prog w = .ok (.slice (some ⟨w.heap.size, 0, none⟩) 1 1) (w.alloc (.cells (saRow x va vn vc) 87)) := by kernel_rfl
theorem wpList_bs_sa {ops : Array Oper} {rest : List Oper} {o : Oper} {a : Act} {Q : Exit → Act → World → Prop} {w : World} (hgd : o.guard = none) (p : Operand) (ho : o.op = .buildSlice 23 1 #[(0, p)]) (x : Sa) (va : Option Addr) (vn vc : Nat) (hp : a.eval p = .agg (saRow x va vn vc))
    (h : wpList Tryz.prog ops Q rest (a.put o.dst (.slice (some ⟨w.heap.size, 0, none⟩) 1 1)) (w.alloc (.cells (saRow x va vn vc) 87))) : wpList Tryz.prog ops Q (o :: rest) a w := by
  refine wpList_plain hgd fun K hK => ?_
  unfold Oper.wp execOp
  simp only [ho, hp, List.map_toArray, List.map_cons, List.map_nil, Sem.run_bind, Result.andThen_ok, run_bs_sa, Sem.run_pure]
  exact hK _ _ h
theorem sar_all (x : Sa) (va : Option Addr) (vn vc : Nat) : ∀ u ∈ (saRow x va vn vc).toList, u.oneCell' = true := fun u hu => Array.all_eq_true_iff_forall_mem.1 (saRow_one x va vn vc) u (by simpa using hu)
/-- A list of what was said grows: rows stay. -/
theorem own_kept_ty {w w' : World} {base base' : Nat} {e e' : TypeId} (hne : e ≠ e') {z z' n n' : Nat} {v u : Value} {xs ys : List Value} (h : OwnC w base e z v n xs) (ho : OwnC w base' e' z' u n' ys) (hg : w.grownBy w' u.ownBlock) : OwnC w' base e z v n xs := by
  refine h.kept hg ?_
  cases hv : v.ownBlock with
  | none => exact .inl rfl
  | some q =>
    refine .inr (fun hq => ?_)
    obtain ⟨c, hc⟩ := own_ty h hv
    obtain ⟨d, hd⟩ := own_ty ho hq.symm
    rw [hc] at hd
    injection hd with hd
    injection hd with _ hd
    exact hne hd
theorem ext_setCells {w W : World} (h : Ext w W) {g : Nat} (hg : w.heap.size ≤ g) (o : Nat) (vs : List Value) : Ext w (W.setCells g o vs) :=
  ((OffB.of_ext h).trans (OffB.setCells (B := fun k => k = g) (OffB.refl _) rfl o vs)).ext (fun k hk hB => by have hB : k = g := hB; omega)
end Go.Proofs.YthageoibkeebhaaGreatDoor

/- Rows and who said what as parameters of Make: what is refused, what a state of them is. No condition. -/
namespace Go.Proofs.YthageoibkeebhaaGreatDoor
open Go.RowKit
/-- Rows, one behind the other: refused if a key or a value may not be, or a key came before. -/
def mkR : List Rw → List Rw → Option (List Rw)
  | acc, [] => some acc
  | acc, r :: q => if keyB r.key = true ∧ valB r.val = true ∧ findW acc r.key = none then mkR (chR acc ⟨r.key, r.val, false⟩) q else none
def goodS (pre : List Sa) (x : Sa) : Prop := 1 ≤ x.cl ∧ x.cl ≤ 8 ∧ x.num ≠ 0 ∧ ∀ p ∈ pre, p.cl ≠ x.cl
instance (pre : List Sa) (x : Sa) : Decidable (goodS pre x) := by unfold goodS; infer_instance
/-- Who said what, one behind the other. -/
def mkS : List Sa → List Sa → List Sa → Option (List Sa)
  | _, acc, [] => some acc
  | pre, acc, x :: q => if goodS pre x then mkS (pre ++ [x]) (keepS acc x.bare) q else none
/-- The document's state, whatever the rows' places. -/
def RefX (base : Nat) (w : World) (st : Nat) (rows : List Rw) (sq : List Sa) : Prop := ∃ sd, RefM base w st rows sd ∧ sd.map Sa.bare = sq
theorem RefX.ext {base st : Nat} {w w' : World} {rows : List Rw} {sq : List Sa} (h : RefX base w st rows sq) (hE : Ext w w') : RefX base w' st rows sq := by
  obtain ⟨sd, h1, h2⟩ := h
  exact ⟨sd, h1.ext hE, h2⟩
/-- Rows of what was said, where each lies. -/
def SaAt (w : World) (q : List Sa) : Prop := ∀ p ∈ q, ∃ a c, p.v = .slice a p.rows.length c ∧ RowIs w 2 (.slice a p.rows.length c) p.rows.length (p.rows.flatMap rwL)
theorem SaAt.ext {w w' : World} {q : List Sa} (h : SaAt w q) (hE : Ext w w') : SaAt w' q := fun p hp => by
  obtain ⟨a, c, h1, h2⟩ := h p hp
  exact ⟨a, c, h1, h2.ext hE⟩
def RMkE (l : List Rw) (q : List Sa) (w : World) (e : Ending) (w' : World) : Prop := Ext w w' ∧ match mkR [] l with
  | none => e = .returned (.tuple #[.pointer none, .int .i64 1])
  | some rows => match mkS [] [] q with
    | none => e = .returned (.tuple #[.pointer none, .int .i64 1])
    | some sq => ∃ st, e = .returned (.tuple #[.pointer (some ⟨st, 0, none⟩), .int .i64 0]) ∧ RefX w.heap.size w' st rows sq
theorem rmk_no {l : List Rw} {q : List Sa} {w w' : World} (h : Ext w w') (hn : mkR [] l = none) : RMkE l q w (.returned (.tuple #[.pointer none, .int .i64 1])) w' := by
  refine ⟨h, ?_⟩
  rw [hn]
theorem rmk_no2 {l : List Rw} {q : List Sa} {w w' : World} {rows : List Rw} (h : Ext w w') (hn : mkR [] l = some rows) (hs : mkS [] [] q = none) : RMkE l q w (.returned (.tuple #[.pointer none, .int .i64 1])) w' := by
  refine ⟨h, ?_⟩
  rw [hn]
  show match mkS [] [] q with | none => _ | some sq => _
  rw [hs]
theorem rmk_yes {l : List Rw} {q : List Sa} {w w' : World} {rows : List Rw} {sq : List Sa} {st : Nat} (h : Ext w w') (hn : mkR [] l = some rows) (hs : mkS [] [] q = some sq) (hM : RefX w.heap.size w' st rows sq) : RMkE l q w (.returned (.tuple #[.pointer (some ⟨st, 0, none⟩), .int .i64 0])) w' := by
  refine ⟨h, ?_⟩
  rw [hn]
  show match mkS [] [] q with | none => _ | some sq => _
  rw [hs]
  exact ⟨st, rfl, hM⟩
theorem chR_len (l : List Rw) (c : Ch) : (chR l c).length ≤ l.length + 1 := by
  unfold chR ahK reK
  have h1 : (l.takeWhile (lessR c.key)).length + (l.dropWhile (lessR c.key)).length = l.length := by rw [← List.length_append, List.takeWhile_append_dropWhile]
  have h2 : (pastK c.key (l.dropWhile (lessR c.key))).length ≤ (l.dropWhile (lessR c.key)).length := by
    unfold pastK
    cases l.dropWhile (lessR c.key) with
    | nil => exact Nat.le_refl _
    | cons r q =>
      show (if keyEq c.key r then q else r :: q).length ≤ (r :: q).length
      split
      · simp
      · exact Nat.le_refl _
  rw [List.length_append, List.length_append]
  split
  · simp; omega
  · simp; omega
theorem chR_mem {l : List Rw} {c : Ch} {p : Rw} (h : p ∈ chR l c) : p ∈ l ∨ p = ⟨c.key, c.val⟩ := by
  unfold chR ahK reK at h
  rcases List.mem_append.1 h with h | h
  · rcases List.mem_append.1 h with h | h
    · exact .inl ((List.takeWhile_sublist _).subset h)
    · split at h
      · cases h
      · exact .inr (List.mem_singleton.1 h)
  · refine .inl ((List.dropWhile_sublist (lessR c.key)).subset ?_)
    unfold pastK at h
    split at h
    · cases h
    · rename_i r q heq
      rw [heq]
      split at h
      · exact List.mem_cons_of_mem _ h
      · exact h
theorem keepS_len (l : List Sa) (x : Sa) : (keepS l x).length ≤ l.length + 1 := by
  unfold keepS
  have h1 : (l.takeWhile (lessS x.cl)).length + (l.dropWhile (lessS x.cl)).length = l.length := by rw [← List.length_append, List.takeWhile_append_dropWhile]
  have h2 : (pastS x.cl (l.dropWhile (lessS x.cl))).length ≤ (l.dropWhile (lessS x.cl)).length := by
    unfold pastS
    cases l.dropWhile (lessS x.cl) with
    | nil => exact Nat.le_refl _
    | cons r q =>
      show (if r.cl = x.cl then q else r :: q).length ≤ (r :: q).length
      split
      · simp
      · exact Nat.le_refl _
  rw [List.length_append, List.length_cons]
  omega
end Go.Proofs.YthageoibkeebhaaGreatDoor

/- A twin of rows, with a mark in the room behind; is it still what it was made of? No condition. -/
namespace Go.Proofs.YthageoibkeebhaaGreatDoor
open Go.RowKit
set_option maxRecDepth 100000
set_option maxHeartbeats 2000000
theorem rwr_all (x : Rw) : ∀ u ∈ (rowR x).toList, u.oneCell' = true := fun u hu => Array.all_eq_true_iff_forall_mem.1 (rowR_one x) u (by simpa using hu)
def spareR : Rw := ⟨⟨#[115, 112, 97, 114, 101]⟩, ⟨#[]⟩⟩
/-- A twin: the rows, and behind them the mark, in a block of the call's own. -/
def TwR (w : World) (base : Nat) (b n cap : Nat) (l : List Rw) : Prop := OwnC w base 84 2 (.slice (some ⟨b, 0, none⟩) (n + 1) cap) (n + 1) ((l ++ [spareR]).flatMap rwL)
theorem TwR.ext {w w' : World} {base b n cap : Nat} {l : List Rw} (h : TwR w base b n cap l) (he : Ext w w') : TwR w' base b n cap l := OwnC.ext h he
theorem flat_lenR (l : List Rw) : (l.flatMap rwL).length = l.length * 2 := by
  induction l with
  | nil => rfl
  | cons x l ih => rw [List.flatMap_cons, List.length_append, ih, List.length_cons, Nat.add_mul]; show 2 + _ = _; omega
theorem TwR.own {w : World} {base b n cap : Nat} {l : List Rw} (h : TwR w base b n cap l) (hn : n = l.length) : OwnC w base 84 2 (.slice (some ⟨b, 0, none⟩) n cap) n (l.flatMap rwL) := by
  have := OwnC.cut (m := n) h (by omega)
  rw [List.flatMap_append, ← show (l.flatMap rwL).length = n * 2 by rw [hn]; exact flat_lenR l, List.take_left] at this
  exact this
theorem TwR.cap {w : World} {base b n cap : Nat} {l : List Rw} (h : TwR w base b n cap l) : n + 1 ≤ cap := by
  obtain ⟨a, c, e, h1, _⟩ := OwnC.form h
  injection e with _ _ e
  omega
theorem tRows_any (w : World) (l : List Rw) (a : Option Addr) (cap n : Nat) (hnl : n = l.length) (hr : RowIs w 2 (.slice a n cap) n (l.flatMap rwL)) (hn : n ≤ 50000) :
    Calls Tryz.prog 7 #[.slice a n cap] w fun e w' => ∃ b cap', e = .returned (.slice (some ⟨b, 0, none⟩) n cap') ∧ TwR w' w.heap.size b n cap' l ∧ Ext w w' := by
  have hrn' := Lib.hid hnl
  have hr' := Lib.hid hr
  clear hnl hr
  obtain ⟨ir, hir, hiz, his, hib⟩ : ∃ i, Tryz.prog.info? 84 = some i ∧ i.zero = some (.agg #[.string ⟨#[]⟩, .string ⟨#[]⟩]) ∧ i.size = 2 ∧ i.bytes = 32 := by
    have h : (Tryz.prog.info? 84).map (fun i => (i.zero, i.size, i.bytes)) = some (some (.agg #[.string ⟨#[]⟩, .string ⟨#[]⟩]), 2, 32) := by kernel_rfl
    obtain ⟨i, hi, he⟩ := Option.map_eq_some_iff.1 h
    simp only [Prod.mk.injEq] at he
    exact ⟨i, hi, he.1, he.2.1, he.2.2⟩
  go_enter Tryz.func7, Tryz.ntmps7
  go_wp2_with (first | (refine wpList_make_own w (by rfl) (.const (.int .i64 0)) (.tmp 7) 22 (by rfl) w.heap.size 84 ir _ 2 Tryz.underlying22 hir hiz his .i64 .i64 ((n : Int) + 1) (n + 1) (by rfl) (by rfl) (by omega) (by rw [hib]; omega) (by unfold maxLen; omega) (Nat.le_refl _) ?_; go_loud (intro w1 hown1 hgr1; have hE1 : Ext w w1 := Below.grown (Below.refl _ _) hgr1 (Nat.le_refl _) (fun _ h => by cases h))) | fail)
  go_wp2_with fail
  go_loopw [3, 4] (fun out i wr => ∃ (k : Nat) (oa : Option Addr) (oc : Nat), k ≤ n ∧ i = .int .i64 k ∧ out = .slice oa k oc ∧ OwnC wr w.heap.size 84 2 (.slice oa k oc) k ((l.take k).flatMap rwL) ∧ Ext w wr) (fun _ i _ => n - (intOf i).toNat)
  case atStart => exact ⟨0, _, _, by omega, rfl, rfl, OwnC.of_own hown1, hE1⟩
  case round =>
    obtain ⟨k, oa, oc, hk, rfl, rfl, hown, hEr⟩ := hrel
    by_cases hlt : k < n
    · have hli : (k : Int) < (n : Int) := by omega
      obtain ⟨r, hr⟩ : ∃ r, l[k]? = some r := ⟨_, List.getElem?_eq_getElem (by rw [← hrn'.out]; exact hlt)⟩
      obtain ⟨b, off, hat⟩ := (hr'.out.ext hEr).at
      obtain ⟨rfl, _, hd⟩ := hat (by omega)
      have hrg := rws_range (by rw [← hrn'.out]; exact hd) hr
      have htk : l.take (k + 1) = l.take k ++ [r] := by rw [List.take_add_one, hr]; rfl
      have htk' := Lib.hid htk
      have hsz := hEr.size
      clear hat hd hr htk
      go_wp2_with (first | (refine wpList_load_mid (by rfl) 84 (.tmp 18) (by rfl) b (off + k * 2) (by rfl) (rowR r).toList _ hrg Tryz.underlying84 rfl (by exact info_row) ?_) | (refine wpList_bs_row (by rfl) (.tmp 19) (by rfl) r (by rfl) ?_) | (at_builtin; go_loud (refine wpList_append_c (by rfl) (.tmp 15) (.tmp 20) 22 84 (by rfl) Tryz.underlying22 el_row wr w.heap.size k _ (.slice oa k oc) (by rfl) hown (rowR r) (by rfl) (by rfl) (rwr_all r) (by omega) (by omega) hsz ?_); go_loud (intro v' w3 hA3; obtain ⟨oa', oc', rfl, _⟩ := hA3.own.form; have hown2 := hA3.own; have hX3 : Ext w w3 := Below.trans hEr hA3.below)) | fail)
      go_roundw
      case rel =>
        refine ⟨k + 1, oa', oc', by omega, by go_num, rfl, ?_, hX3⟩
        rw [htk'.out, List.flatMap_append, show List.flatMap rwL [r] = (rowR r).toList from rfl]
        exact hown2
      case measure => simp [intOf]; omega
    · have hli : ¬ (k : Int) < (n : Int) := by omega
      obtain rfl : k = n := by omega
      rw [List.take_of_length_le (by rw [← hrn'.out]; exact Nat.le_refl _)] at hown
      have hxl : (l.flatMap rwL).length = k * 2 := hown.1
      clear hr' hown1
      have hsz := hEr.size
      go_wp2_with (first | (at_builtin; go_loud (refine wpList_append_c (by rfl) (.tmp 22) (.tmp 24) 22 84 (by rfl) Tryz.underlying22 el_row wr w.heap.size k _ (.slice oa k oc) (by rfl) hown (rowR spareR) (by rfl) (by rfl) (rwr_all spareR) (by omega) (by omega) hsz ?_); go_loud (intro v' w3 hA3; obtain ⟨oa', oc', rfl, hoc, hoa⟩ := hA3.own.form); go_loud (have hX3 : Ext w w3 := Below.trans hEr hA3.below); go_loud (have hkc : (k : Int) ≤ (oc' : Int) := by omega)) | fail)
      go_ret
      obtain ⟨b, rfl⟩ : ∃ b, oa' = some ⟨b, 0, none⟩ := by
        rcases hoa with e | e
        · injection e with _ e
          omega
        · exact e
      refine ⟨b, oc', rfl, ?_, hX3⟩
      unfold TwR
      rw [List.flatMap_append]
      exact hA3.own
theorem lRows_any (w : World) (l : List Rw) (base b cap' : Nat) (a : Option Addr) (cap n : Nat) (hnl : n = l.length) (hr : RowIs w 2 (.slice a n cap) n (l.flatMap rwL)) (hn : n ≤ 50000) (hT : TwR w base b n cap' l) :
    Calls Tryz.prog 11 #[.slice (some ⟨b, 0, none⟩) n cap', .slice a n cap] w fun e w' => e = .returned (.bool true) ∧ Ext w w' := by
  have hn' := Lib.hid hnl
  have hr' := Lib.hid hr
  have hT' := Lib.hid hT
  have hcap := hT.cap
  clear hnl hr hT
  have hci : ¬ (cap' : Int) ≤ (n : Int) := by omega
  go_enter Tryz.func11, Tryz.ntmps11
  go_wp2_with fail
  go_loopw [5] (fun i wr => ∃ k : Nat, k ≤ n ∧ i = .int .i64 k ∧ Ext w wr) (fun i _ => n - (intOf i).toNat)
  case atStart => exact ⟨0, by omega, rfl, Ext.refl _⟩
  case round =>
    obtain ⟨k, hk, rfl, hE⟩ := hrel
    have htw := (OwnC.row (hT'.out.ext hE))
    obtain ⟨tb, tof, hat2⟩ := htw.at
    obtain ⟨e1, _, hd2⟩ := hat2 (by omega)
    injection e1 with e1
    injection e1 with e1 e2
    subst e1 e2
    by_cases hlt : k < n
    · have hli : (k : Int) < (n : Int) := by omega
      obtain ⟨r, hrr⟩ : ∃ r, l[k]? = some r := ⟨_, List.getElem?_eq_getElem (by rw [← hn'.out]; exact hlt)⟩
      obtain ⟨lb, off, hat⟩ := (hr'.out.ext hE).at
      obtain ⟨rfl, _, hd⟩ := hat (by omega)
      have p := rws_range (by rw [← hn'.out]; exact hd) hrr
      have q := rws_range (l := l ++ [spareR]) (by rw [List.length_append, ← hn'.out]; exact hd2) (k := k) (x := r) (by rw [List.getElem?_append_left (by rw [← hn'.out]; exact hlt)]; exact hrr)
      rw [Nat.zero_add] at q
      clear hat hd hat2 hd2 hrr htw
      go_upto_region 6 with fail
      refine bqRegion (Ext wr) (by kernel_rfl) (by kernel_rfl) (Ext.refl _).drew ?_
      iterate 3 (refine bqStep (fun K hK => ?_); go_simp; first | (refine hK _ ?_; clear hK K) | (refine ⟨_, fun _ _ => rfl, hK _ ?_⟩; clear hK K))
      refine bqMid (by rfl) 84 _ (by rfl) b (k * 2) (by rfl) _ _ (fun w' h r u hu => h.cell (q r u hu)) Tryz.underlying84 rfl (by exact info_row) ?_
      iterate 3 (refine bqStep (fun K hK => ?_); go_simp; first | (refine hK _ ?_; clear hK K) | (refine ⟨_, fun _ _ => rfl, hK _ ?_⟩; clear hK K))
      refine bqMid (by rfl) 84 _ (by rfl) lb (off + k * 2) (by rfl) _ _ (fun w' h r u hu => h.cell (p r u hu)) Tryz.underlying84 rfl (by exact info_row) ?_
      refine ⟨wpQuiet_neq_rw (by rfl) (.tmp 28) (.tmp 32) (by rfl) r r (by rfl) (by rfl) ?_⟩
      rw [sameR_iff.2 rfl]
      refine wpQuiet_nil (fun w5 hE5 => ?_)
      simp only [Act.put, List.setIfInBounds_toArray, List.set_cons_zero, List.set_cons_succ, Bool.not_true]
      go_wp2_with fail
      go_roundw
      case rel => exact ⟨k + 1, by omega, by go_num, hE.trans hE5⟩
      case measure => simp [intOf]; omega
    · have hli : ¬ (k : Int) < (n : Int) := by omega
      have q := rws_range (l := l ++ [spareR]) (by rw [List.length_append, ← hn'.out]; exact hd2) (k := n) (x := spareR) (by rw [List.getElem?_append_right (by rw [← hn'.out]; exact Nat.le_refl _), ← hn'.out, Nat.sub_self]; rfl)
      rw [Nat.zero_add] at q
      have hi1 : (n : Int) + 1 ≤ (cap' : Int) := by omega
      have hi2 : 0 ≤ (n : Int) + 1 := by omega
      have hi3 : ((n : Int) + 1).toNat = n + 1 := by omega
      have hi4 : (n : Int) < ((n : Int) + 1) := by omega
      clear hat2 hd2 htw
      obtain ⟨W2, hW2⟩ : ∃ W, W = wr.alloc (.cells (rowR spareR) 84) := ⟨_, rfl⟩
      have hE2 : Ext w W2 := by rw [hW2]; exact hE.alloc _
      have hc0 : W2.cell? ⟨wr.heap.size, 0, none⟩ = some (.string ⟨#[115, 112, 97, 114, 101]⟩) := by rw [hW2, cell_of_row _ _ _ _ _ _ (heap_alloc_new wr _)]; rfl
      have hW2' := Lib.hid hW2
      clear hW2
      go_upto_region 9 with (first | (refine wpList_load_mid (by rfl) 84 (.tmp 41) (by rfl) b (n * 2) (by rfl) (rowR spareR).toList _ q Tryz.underlying84 rfl (by exact info_row) ?_) | (refine wpList_store_whole (by rfl) 84 (.tmp 6) (.tmp 42) (by rfl) wr _ (rowR spareR) wr.heap.size (by rfl) rfl (by rfl) (by exact info_row) (by rfl) (rowR_one spareR) ?_; rw [← hW2'.out]) | fail)
      clear hi1 hi2 hi3 hi4 q
      go_wp2_with fail
      go_ret
      exact ⟨rfl, hE2⟩
end Go.Proofs.YthageoibkeebhaaGreatDoor

/- A twin of a reply, of what was said. No condition. -/
namespace Go.Proofs.YthageoibkeebhaaGreatDoor
open Go.RowKit
set_option maxRecDepth 100000
set_option maxHeartbeats 4000000
theorem TwR.weak {w : World} {base base' b n cap : Nat} {l : List Rw} (h : TwR w base' b n cap l) (hb : base ≤ base') : TwR w base b n cap l := OwnC.weak h hb
def TwRpE (i : Int) (y : Bool) (l : List Rw) (n : Nat) (w : World) (e : Ending) (w' : World) : Prop := ∃ b cap, e = .returned (.agg (reH i y (.slice (some ⟨b, 0, none⟩) n cap))) ∧ TwR w' w.heap.size b n cap l ∧ Ext w w'
theorem twinRp_any (w : World) (i : Int) (y : Bool) (l : List Rw) (a : Option Addr) (cap n : Nat) (hn : n = l.length) (hr : RowIs w 2 (.slice a n cap) n (l.flatMap rwL)) (hl : n ≤ 50000) : Calls Tryz.prog 111 #[.agg (reH i y (.slice a n cap))] w (TwRpE i y l n w) := by
  obtain ⟨X, hX⟩ : ∃ X, X = w.heap.size := ⟨_, rfl⟩
  obtain ⟨V, hV⟩ : ∃ W, W = (w.alloc (.cells (reH i y (.slice a n cap)) 74)).alloc (.cells zRe 74) := ⟨_, rfl⟩
  have hE0 : Ext w V := by rw [hV]; exact ((Ext.refl _).alloc _).alloc _
  have hxo : Hid (∀ W, OffB (fun k => k = X + 1) V W → W.cell? ⟨X, 0, none⟩ = some (.int .i64 i) ∧ W.cell? ⟨X, 1, none⟩ = some (.bool y) ∧ W.cell? ⟨X, 2, none⟩ = some (.slice a n cap)) := Lib.hid (fun W hE => by
    have h0 : V.heap[X]? = some (.cells (reH i y (.slice a n cap)) 74 (0, 0)) := by rw [hV, hX]; exact ((Ext.refl _).alloc _).row (heap_alloc_new w _)
    have h1 := (hE.block X (Array.getElem?_eq_some_iff.1 h0).1 (fun hB => by have hB : X = X + 1 := hB; omega)).trans h0
    exact re_cells h1)
  have hrow : Hid (∀ W, Ext V W → W.heap[X + 1]? = some (.cells zRe 74 (0, 0))) := Lib.hid (fun W hE => by
    have h1 := heap_alloc_new (w.alloc (.cells (reH i y (.slice a n cap)) 74)) (.cells zRe 74)
    rw [show (w.alloc (.cells (reH i y (.slice a n cap)) 74)).heap.size = X + 1 by rw [hX]; simp] at h1
    exact hE.row (by rw [hV]; exact h1))
  have hth : Hid (∀ W, Ext V W → W.there (X + 1) 0 3) := Lib.hid (fun W hE j hj => by
    have h2 := hrow.out W hE
    exact ⟨by rw [cell_of_row _ _ _ _ _ _ h2, Nat.zero_add, Array.getElem?_eq_getElem (show j < zRe.size from hj)]; rfl, by unfold World.frozen?; rw [h2]; simp⟩)
  have hrun : Hid (∀ W b cap', Ext V W → (storeCells ⟨X + 1, 0, none⟩ (reH i y (.slice (some ⟨b, 0, none⟩) n cap')).toList).run Tryz.prog W = .ok () (W.setCells (X + 1) 0 (reH i y (.slice (some ⟨b, 0, none⟩) n cap')).toList)) := Lib.hid (fun W b cap' hE => run_storeCells_mid W (X + 1) 0 _ (show W.there (X + 1) 0 3 from hth.out W hE) (fun v hv => Array.all_eq_true_iff_forall_mem.1 (reH_one i y (some ⟨b, 0, none⟩) n cap') v (by simpa using hv)))
  have htw : Hid (∀ W, Ext V W → Calls Tryz.prog 7 #[.slice a n cap] W fun e w' => ∃ b cap', e = .returned (.slice (some ⟨b, 0, none⟩) n cap') ∧ TwR w' W.heap.size b n cap' l ∧ Ext W w') := Lib.hid (fun W hE => tRows_any W l a cap n hn (hr.ext (hE0.trans hE)) hl)
  have hVs : Hid (V.heap.size = X + 2) := Lib.hid (by rw [hV, hX]; simp)
  have hV' := Lib.hid hV
  have hX' := Lib.hid hX
  have hsV := hE0.size
  obtain ⟨C, hC⟩ : ∃ C : Nat → Nat → Array Value, ∀ b c, C b c = reH i y (.slice (some ⟨b, 0, none⟩) n c) := ⟨fun b c => reH i y (.slice (some ⟨b, 0, none⟩) n c), fun _ _ => rfl⟩
  have hC' := Lib.hid hC
  have hsz : ∀ b c, (C b c).size = 3 := fun b c => by rw [hC]; rfl
  have hD : ∀ b c, (#[.int .i64 i, .bool y, .slice (some ⟨b, 0, none⟩) n c] : Array Value) = C b c := fun b c => (hC b c).symm
  have hrunC : Hid (∀ W b cap', Ext V W → (storeCells ⟨X + 1, 0, none⟩ (C b cap').toList).run Tryz.prog W = .ok () (W.setCells (X + 1) 0 (C b cap').toList)) := Lib.hid (fun W b c hE => by rw [hC]; exact hrun.out W b c hE)
  clear hr hn hV hX hC
  unfold reH zRe at hV'
  unfold reH
  go_enter Tryz.func111, Tryz.ntmps111
  go_upto_region 1 with fail
  rw [← hV'.out, ← hX'.out]
  go_region_held3 (fun w' => w'.cell? ⟨X, 0, none⟩ = some (.int .i64 i) ∧ w'.cell? ⟨X, 1, none⟩ = some (.bool y) ∧ w'.cell? ⟨X, 2, none⟩ = some (.slice a n cap)) ((refine hxo.out _ ?_; first | exact .of_ext (Ext.refl _).drew | exact .of_ext hV3 | exact OffB.setCells (B := fun k => k = X + 1) (.of_ext hV3) rfl _ _)) (first | (go_at_call 7; refine (htw.out _ (Ext.refl V).drew).mono ?_; rintro e w3 ⟨b, cap', rfl, hT, hE3⟩; have hV3 : Ext V w3 := (Ext.refl V).drew.trans hE3; have hT' := Lib.hid hT; clear hT; have hst := Lib.hid (hrunC.out w3 b cap' hV3)) | (rw [hst.out]; go_simp) | fail)
  all_goals
    have hset : (w3.setCells (X + 1) 0 (C b cap').toList).heap[X + 1]? = some (.cells (reH i y (.slice (some ⟨b, 0, none⟩) n cap')) 74 (0, 0)) := by
      rw [hC'.out, setCells_heap (X + 1) 74 (0, 0) _ 0 w3 _ (hrow.out w3 hV3) (by show 0 + 3 ≤ 3; omega)]
      rfl
    have hOf : OffB (fun k => k = X + 1) w3 (w3.setCells (X + 1) 0 (C b cap').toList) := OffB.setCells (B := fun k => k = X + 1) (OffB.refl _) rfl _ _
    have hE6 : Ext w (w3.setCells (X + 1) 0 (C b cap').toList) := ((OffB.of_ext (hE0.trans hV3)).trans hOf).ext (fun k hk hB => by have hB : k = X + 1 := hB; rw [hX'.out] at hB; omega)
    have hT6 : TwR (w3.setCells (X + 1) 0 (C b cap').toList) w.heap.size b n cap' l := by
      refine TwR.weak (OwnC.offB hT'.out hOf (fun q hq hB => ?_)) hsV
      have h5 := (OwnC.lt hT'.out q hq).1
      have hB : q = X + 1 := hB
      have h6 : V.drew.heap.size = V.heap.size := rfl
      have h7 := hVs.out
      omega
    generalize w3.setCells (X + 1) 0 (C b cap').toList = Wf at *
    obtain ⟨b0, b1, b2⟩ := re_cells hset
    go_wp2_with fail
    exact bodyPost_ret (v := .agg (reH i y (.slice (some ⟨b, 0, none⟩) n cap'))) (by simp [results, Tryz.results111, go_sem, b0, b1, b2, reH]) rfl ⟨b, cap', rfl, hT6, hE6⟩
def zSaid : Array Value := #[.int .u8 0, .int .u32 0, .int .i64 0, .bool false, .slice none 0 0]
def TwSdE (x : Sa) (n : Nat) (w : World) (e : Ending) (w' : World) : Prop := ∃ b cap, e = .returned (.agg (saRow x (some ⟨b, 0, none⟩) n cap)) ∧ TwR w' w.heap.size b n cap x.rows ∧ Ext w w'
theorem twinSd_any (w : World) (x : Sa) (a : Option Addr) (cap n : Nat) (hn : n = x.rows.length) (hr : RowIs w 2 (.slice a n cap) n (x.rows.flatMap rwL)) (hl : n ≤ 50000) : Calls Tryz.prog 40 #[.agg (saRow x a n cap)] w (TwSdE x n w) := by
  obtain ⟨X, hX⟩ : ∃ X, X = w.heap.size := ⟨_, rfl⟩
  obtain ⟨V, hV⟩ : ∃ W, W = (w.alloc (.cells (saRow x a n cap) 87)).alloc (.cells zSaid 87) := ⟨_, rfl⟩
  have hE0 : Ext w V := by rw [hV]; exact ((Ext.refl _).alloc _).alloc _
  have hxo : Hid (∀ W, OffB (fun k => k = X + 1) V W → W.cell? ⟨X, 0, none⟩ = some (.int .u8 (x.cl : Int)) ∧ W.cell? ⟨X, 1, none⟩ = some (.int .u32 (x.num : Int)) ∧ W.cell? ⟨X, 2, none⟩ = some (.int .i64 x.e) ∧ W.cell? ⟨X, 3, none⟩ = some (.bool x.yes) ∧ W.cell? ⟨X, 4, none⟩ = some (.slice a n cap)) := Lib.hid (fun W hE => by
    have h0 : V.heap[X]? = some (.cells (saRow x a n cap) 87 (0, 0)) := by rw [hV, hX]; exact ((Ext.refl _).alloc _).row (heap_alloc_new w _)
    have h1 := (hE.block X (Array.getElem?_eq_some_iff.1 h0).1 (fun hB => by have hB : X = X + 1 := hB; omega)).trans h0
    exact sa_cs h1)
  have hrow : Hid (∀ W, Ext V W → W.heap[X + 1]? = some (.cells zSaid 87 (0, 0))) := Lib.hid (fun W hE => by
    have h1 := heap_alloc_new (w.alloc (.cells (saRow x a n cap) 87)) (.cells zSaid 87)
    rw [show (w.alloc (.cells (saRow x a n cap) 87)).heap.size = X + 1 by rw [hX]; simp] at h1
    exact hE.row (by rw [hV]; exact h1))
  have hth : Hid (∀ W, Ext V W → W.there (X + 1) 0 5) := Lib.hid (fun W hE j hj => by
    have h2 := hrow.out W hE
    exact ⟨by rw [cell_of_row _ _ _ _ _ _ h2, Nat.zero_add, Array.getElem?_eq_getElem (show j < zSaid.size from hj)]; rfl, by unfold World.frozen?; rw [h2]; simp⟩)
  have hrun : Hid (∀ W b cap', Ext V W → (storeCells ⟨X + 1, 0, none⟩ (saRow x (some ⟨b, 0, none⟩) n cap').toList).run Tryz.prog W = .ok () (W.setCells (X + 1) 0 (saRow x (some ⟨b, 0, none⟩) n cap').toList)) := Lib.hid (fun W b cap' hE => run_storeCells_mid W (X + 1) 0 _ (show W.there (X + 1) 0 5 from hth.out W hE) (sar_all _ _ _ _))
  have htw : Hid (∀ W, Ext V W → Calls Tryz.prog 111 #[.agg #[.int .i64 x.e, .bool x.yes, .slice a n cap]] W fun e w' => ∃ b cap', e = .returned (.agg #[.int .i64 x.e, .bool x.yes, .slice (some ⟨b, 0, none⟩) n cap']) ∧ TwR w' W.heap.size b n cap' x.rows ∧ Ext W w') := Lib.hid (fun W hE => twinRp_any W x.e x.yes x.rows a cap n hn (hr.ext (hE0.trans hE)) hl)
  have hVs : Hid (V.heap.size = X + 2) := Lib.hid (by rw [hV, hX]; simp)
  have hV' := Lib.hid hV
  have hX' := Lib.hid hX
  have hsV := hE0.size
  obtain ⟨C, hC⟩ : ∃ C : Nat → Nat → Array Value, ∀ b c, C b c = saRow x (some ⟨b, 0, none⟩) n c := ⟨fun b c => saRow x (some ⟨b, 0, none⟩) n c, fun _ _ => rfl⟩
  have hC' := Lib.hid hC
  have hsz : ∀ b c, (C b c).size = 5 := fun b c => by rw [hC]; rfl
  have hD : ∀ b c, (#[.int .u8 (x.cl : Int), .int .u32 (x.num : Int), .int .i64 x.e, .bool x.yes, .slice (some ⟨b, 0, none⟩) n c] : Array Value) = C b c := fun b c => (hC b c).symm
  have hrunC : Hid (∀ W b cap', Ext V W → (storeCells ⟨X + 1, 0, none⟩ (C b cap').toList).run Tryz.prog W = .ok () (W.setCells (X + 1) 0 (C b cap').toList)) := Lib.hid (fun W b c hE => by rw [hC]; exact hrun.out W b c hE)
  clear hr hn hV hX hC
  unfold saRow zSaid at hV'
  unfold saRow
  go_enter Tryz.func40, Tryz.ntmps40
  go_upto_region 1 with fail
  rw [← hV'.out, ← hX'.out]
  go_region_held3 (fun w' => w'.cell? ⟨X, 0, none⟩ = some (.int .u8 (x.cl : Int)) ∧ w'.cell? ⟨X, 1, none⟩ = some (.int .u32 (x.num : Int)) ∧ w'.cell? ⟨X, 2, none⟩ = some (.int .i64 x.e) ∧ w'.cell? ⟨X, 3, none⟩ = some (.bool x.yes) ∧ w'.cell? ⟨X, 4, none⟩ = some (.slice a n cap)) ((refine hxo.out _ ?_; first | exact .of_ext (Ext.refl _).drew | exact .of_ext hV3 | exact OffB.setCells (B := fun k => k = X + 1) (.of_ext hV3) rfl _ _)) (first | (go_at_call 111; refine (htw.out _ (Ext.refl V).drew).mono ?_; rintro e w3 ⟨b, cap', rfl, hT, hE3⟩; have hV3 : Ext V w3 := (Ext.refl V).drew.trans hE3; have hT' := Lib.hid hT; clear hT; have hst := Lib.hid (hrunC.out w3 b cap' hV3)) | (rw [hst.out]; go_simp) | fail)
  all_goals
    have hset : (w3.setCells (X + 1) 0 (C b cap').toList).heap[X + 1]? = some (.cells (saRow x (some ⟨b, 0, none⟩) n cap') 87 (0, 0)) := by
      rw [hC'.out, setCells_heap (X + 1) 87 (0, 0) _ 0 w3 _ (hrow.out w3 hV3) (by show 0 + 5 ≤ 5; omega)]
      rfl
    have hOf : OffB (fun k => k = X + 1) w3 (w3.setCells (X + 1) 0 (C b cap').toList) := OffB.setCells (B := fun k => k = X + 1) (OffB.refl _) rfl _ _
    have hE6 : Ext w (w3.setCells (X + 1) 0 (C b cap').toList) := ((OffB.of_ext (hE0.trans hV3)).trans hOf).ext (fun k hk hB => by have hB : k = X + 1 := hB; rw [hX'.out] at hB; omega)
    have hT6 : TwR (w3.setCells (X + 1) 0 (C b cap').toList) w.heap.size b n cap' x.rows := by
      refine TwR.weak (OwnC.offB hT'.out hOf (fun q hq hB => ?_)) hsV
      have h5 := (OwnC.lt hT'.out q hq).1
      have hB : q = X + 1 := hB
      have h6 : V.drew.heap.size = V.heap.size := rfl
      have h7 := hVs.out
      omega
    generalize w3.setCells (X + 1) 0 (C b cap').toList = Wf at *
    obtain ⟨b0, b1, b2, b3, b4⟩ := sa_cs hset
    go_wp2_with fail
    exact bodyPost_ret (v := .agg (saRow x (some ⟨b, 0, none⟩) n cap')) (by simp [results, Tryz.results40, go_sem, b0, b1, b2, b3, b4, saRow]) rfl ⟨b, cap', rfl, hT6, hE6⟩
end Go.Proofs.YthageoibkeebhaaGreatDoor
