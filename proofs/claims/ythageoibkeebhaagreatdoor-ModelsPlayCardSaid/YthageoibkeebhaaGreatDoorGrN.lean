/- Several texts in one: Rn0 RgL Bq. No condition. -/
import Derived.Test.YthageoibkeebhaaGreatDoorGrH
import Derived.Test.YthageoibkeebhaaGreatDoorGrK
import Derived.Test.YthageoibkeebhaaGreatDoorGrD
import Derived.Test.YthageoibkeebhaaGreatDoorGrC
import Derived.Test.YthageoibkeebhaaGreatDoorProg
import Derived.WalkKit
import Derived.WalkLawsBesides
import Derived.BigQuiet
import Derived.Deep.CutRange
import Derived.Lib.Strings
import Derived.Test.YthageoibkeebhaaGreatDoorGrKit
/- The document's state in memory; its change and keep as plain laws on lists. No condition. -/
namespace Go.Proofs.YthageoibkeebhaaGreatDoor
open Go.RowKit
/-- Who said what, as the document keeps it: the reply's rows lie at v. -/
structure Sa where
  cl : Nat
  num : Nat
  e : Int
  yes : Bool
  rows : List Rw
  v : Value
def Sa.cells (p : Sa) : List Value := [.int .u8 (p.cl : Int), .int .u32 (p.num : Int), .int .i64 p.e, .bool p.yes, p.v]
/-- The document's state at st: rows, and who said what. -/
def RefM (base : Nat) (w : World) (st : Nat) (rows : List Rw) (sd : List Sa) : Prop := ∃ ra rc sa sc, w.heap[st]? = some (.cells #[.slice ra rows.length rc, .slice sa sd.length sc] 112 (0, 0)) ∧ base ≤ st ∧ OwnC w base 84 2 (.slice ra rows.length rc) rows.length (rows.flatMap rwL) ∧ OwnC w base 87 5 (.slice sa sd.length sc) sd.length (sd.flatMap Sa.cells) ∧ ∀ p ∈ sd, OwnC w base 84 2 p.v p.rows.length (p.rows.flatMap rwL)
def refTy (t : TypeId) : Prop := t = 112 ∨ t = 84 ∨ t = 87
theorem own_ty {w : World} {base : Nat} {e : TypeId} {z n : Nat} {v : Value} {xs : List Value} (h : OwnC w base e z v n xs) {q : Nat} (hq : v.ownBlock = some q) : ∃ c, w.heap[q]? = some (.cells c e (0, 0)) := by
  obtain ⟨_, ⟨e1, _⟩ | ⟨g, cap, cur, e1, _, h6, _⟩⟩ := h
  · rw [e1] at hq; cases hq
  · rw [e1] at hq
    injection hq with hq
    have hq : g = q := hq
    exact ⟨cur, by rw [← hq]; exact h6⟩
section
variable {base st : Nat} {w w' : World} {rows : List Rw} {sd : List Sa}
theorem RefM.offT {B : Nat → Prop} (h : RefM base w st rows sd) (hO : OffB B w w') (ht : ∀ q, B q → ∀ c t, w.heap[q]? = some (.cells c t (0, 0)) → ¬ refTy t) : RefM base w' st rows sd := by
  obtain ⟨ra, rc, sa, sc, h1, h2, h3, h4, h5⟩ := h
  have k : ∀ {e : TypeId} {z n : Nat} {v : Value} {xs : List Value}, refTy e → OwnC w base e z v n xs → OwnC w' base e z v n xs := fun he ho => ho.offB hO (fun q hq hB => by
    obtain ⟨c, hc⟩ := own_ty ho hq
    exact ht q hB c _ hc he)
  refine ⟨ra, rc, sa, sc, ?_, h2, k (.inr (.inl rfl)) h3, k (.inr (.inr rfl)) h4, fun p hp => k (.inr (.inl rfl)) (h5 p hp)⟩
  exact (hO.block st (Array.getElem?_eq_some_iff.1 h1).1 (fun hB => ht st hB _ _ h1 (.inl rfl))).trans h1
theorem RefM.ext (h : RefM base w st rows sd) (hE : Ext w w') : RefM base w' st rows sd := h.offT (B := fun _ => False) (.of_ext hE) (fun _ h => h.elim)
theorem RefM.at (h : RefM base w st rows sd) : base ≤ st ∧ st < w.heap.size := by
  obtain ⟨ra, rc, sa, sc, h1, h2, _⟩ := h
  exact ⟨h2, (Array.getElem?_eq_some_iff.1 h1).1⟩
/-- What a method reads of it, in all later worlds. -/
theorem RefM.sees (h : RefM base w st rows sd) : ∃ ra rc sa sc, (∀ W, Ext w W → W.cell? ⟨st, 0, none⟩ = some (.slice ra rows.length rc) ∧ W.cell? ⟨st, 1, none⟩ = some (.slice sa sd.length sc) ∧ W.frozen? ⟨st, 0, none⟩ = false ∧ W.frozen? ⟨st, 1, none⟩ = false) ∧ (∀ W, Ext w W → RowIs W 2 (.slice ra rows.length rc) rows.length (rows.flatMap rwL)) ∧ (∀ W, Ext w W → RowIs W 5 (.slice sa sd.length sc) sd.length (sd.flatMap Sa.cells)) ∧ (rows.length ≤ rc ∧ rc ≤ 9223372036854775807) ∧ (sd.length ≤ sc ∧ sc ≤ 9223372036854775807) := by
  obtain ⟨ra, rc, sa, sc, h1, h2, h3, h4, h5⟩ := h
  have k : ∀ {e : TypeId} {z n c : Nat} {a : Option Addr} {xs : List Value}, OwnC w base e z (.slice a n c) n xs → n ≤ c ∧ c ≤ 9223372036854775807 := fun ho => by
    obtain ⟨hl, ⟨e, e0⟩ | ⟨g, c, cur, e, _, _, h6, h7, _⟩⟩ := ho
    · injection e with _ e1 e2
      subst e2
      rw [e0]
      exact ⟨Nat.le_refl _, by omega⟩
    · injection e with _ e1 e2
      subst e2
      exact ⟨h6, by unfold maxLen at h7; omega⟩
  refine ⟨ra, rc, sa, sc, fun W hE => ?_, fun W hE => (h3.ext hE).row, fun W hE => (h4.ext hE).row, k h3, k h4⟩
  have hr := hE.row h1
  refine ⟨by rw [cell_of_row _ _ _ _ _ _ hr]; rfl, by rw [cell_of_row _ _ _ _ _ _ hr]; rfl, ?_, ?_⟩
  all_goals
    unfold World.frozen?
    rw [hr]
    simp
end
/-! ### Rows. -/
def lessR (k : ByteArray) (r : Rw) : Bool := Op.bytesLess r.key.toList k.toList
def ahK (l : List Rw) (k : ByteArray) : List Rw := l.takeWhile (lessR k)
def reK (l : List Rw) (k : ByteArray) : List Rw := l.dropWhile (lessR k)
def keyEq (k : ByteArray) (r : Rw) : Bool := r.key.toList == k.toList
/-- Behind the first one, if that has the key. -/
def pastK (k : ByteArray) (l : List Rw) : List Rw := match l with | [] => [] | r :: q => if keyEq k r then q else r :: q
def chR (l : List Rw) (c : Ch) : List Rw := ahK l c.key ++ (if c.gone then [] else [⟨c.key, c.val⟩]) ++ pastK c.key (reK l c.key)
theorem keyEq_iff {k : ByteArray} {r : Rw} : keyEq k r = true ↔ r.key = k := eqK
theorem lessR_iff {k : ByteArray} {r : Rw} : lessR k r = true ↔ ltK r.key k := ltK_less
theorem isK_eq {k : ByteArray} {r : Rw} : (r.key.data.toList == k.data.toList) = keyEq k r := by unfold keyEq; rw [ByteArray.toList_eq, ByteArray.toList_eq]
theorem del_none {k : ByteArray} {l : List Rw} (h : ∀ r ∈ l, r.key ≠ k) : delW l k = l := by
  unfold delW
  refine List.filter_eq_self.2 fun r hr => ?_
  rw [isK_eq]
  cases he : keyEq k r with
  | false => rfl
  | true => exact absurd (keyEq_iff.1 he) (h r hr)
theorem put_eq (l : List Rw) (k v : ByteArray) : putW l k v = insW ⟨k, v⟩ (delW l k) := rfl
theorem sort_tail {r : Rw} {l : List Rw} (h : sortR (r :: l)) : sortR l ∧ ∀ q ∈ l, ltK r.key q.key := by
  obtain ⟨h1, h2⟩ := List.pairwise_cons.1 h
  exact ⟨h2, h1⟩
theorem ins_front {x : Rw} {l : List Rw} (h : ∀ q ∈ l, ltK x.key q.key) : insW x l = x :: l := by
  cases l with
  | nil => rfl
  | cons y r => unfold insW; exact if_pos (h y (List.mem_cons_self ..))
theorem chR_eq (c : Ch) : ∀ {l : List Rw}, sortR l → chR l c = chW l c
  | [], _ => by
    unfold chR chW ahK reK pastK delW putW
    cases c.gone <;> rfl
  | r :: l, h => by
    obtain ⟨hs, hlt⟩ := sort_tail h
    have ih := chR_eq c hs
    by_cases h1 : ltK r.key c.key
    · have h2 : lessR c.key r = true := lessR_iff.2 h1
      have e1 : chR (r :: l) c = r :: chR l c := by
        unfold chR ahK reK
        rw [List.takeWhile_cons, if_pos h2, List.dropWhile_cons, if_pos h2]
        rfl
      have hne : r.key ≠ c.key := fun e => by rw [e] at h1; exact ltK_irr _ h1
      have e2 : delW (r :: l) c.key = r :: delW l c.key := by
        unfold delW
        rw [List.filter_cons, if_pos]
        rw [isK_eq]
        cases he : keyEq c.key r with
        | false => rfl
        | true => exact absurd (keyEq_iff.1 he) hne
      rw [e1, ih]
      unfold chW
      split
      · rw [e2]
      · rw [put_eq, put_eq, e2]
        have h3 : ¬ bytesBefore c.key.data.toList r.key.data.toList = true := fun h4 => ltK_irr _ (ltK_trans h1 h4)
        conv => rhs; unfold insW
        rw [if_neg h3]
    · have h2 : lessR c.key r = false := by
        cases he : lessR c.key r with
        | false => rfl
        | true => exact absurd (lessR_iff.1 he) h1
      have e1 : chR (r :: l) c = (if c.gone then [] else [⟨c.key, c.val⟩]) ++ pastK c.key (r :: l) := by
        have e3 : ahK (r :: l) c.key = [] := by unfold ahK; rw [List.takeWhile_cons, if_neg (by rw [h2]; simp)]
        have e4 : reK (r :: l) c.key = r :: l := by unfold reK; rw [List.dropWhile_cons, if_neg (by rw [h2]; simp)]
        unfold chR
        rw [e3, e4, List.nil_append]
      rw [e1]
      by_cases he : r.key = c.key
      · have hp : pastK c.key (r :: l) = l := by unfold pastK; exact if_pos (keyEq_iff.2 he)
        have hno : ∀ q ∈ l, q.key ≠ c.key := fun q hq e => by
          have := hlt q hq
          rw [he, e] at this
          exact ltK_irr _ this
        have hd : delW (r :: l) c.key = l := by
          have h5 : delW (r :: l) c.key = delW l c.key := by
            unfold delW
            rw [List.filter_cons, if_neg]
            rw [isK_eq, keyEq_iff.2 he]
            simp
          rw [h5, del_none hno]
        rw [hp]
        unfold chW
        split
        · rw [hd]; rfl
        · rw [put_eq, hd, ins_front (fun q hq => by rw [← he]; exact hlt q hq)]; rfl
      · have hp : pastK c.key (r :: l) = r :: l := by
          unfold pastK
          refine if_neg (fun h5 => he (keyEq_iff.1 h5))
        have hcr : ltK c.key r.key := by
          rcases ltK_total (a := c.key) (b := r.key) (fun e => he e.symm) with h5 | h5
          · exact h5
          · exact absurd h5 h1
        have hall : ∀ q ∈ r :: l, ltK c.key q.key := fun q hq => by
          rcases List.mem_cons.1 hq with rfl | hq
          · exact hcr
          · exact ltK_trans hcr (hlt q hq)
        have hd : delW (r :: l) c.key = r :: l := del_none (fun q hq e => by
          have := hall q hq
          rw [e] at this
          exact ltK_irr _ this)
        rw [hp]
        unfold chW
        split
        · rw [hd]; rfl
        · rw [put_eq, hd, ins_front hall]; rfl
/-! ### Who said what. -/
def lessS (c : Nat) (p : Sa) : Bool := decide (p.cl < c)
def pastS (c : Nat) (l : List Sa) : List Sa := match l with | [] => [] | r :: q => if r.cl = c then q else r :: q
def keepS (l : List Sa) (x : Sa) : List Sa := l.takeWhile (lessS x.cl) ++ x :: pastS x.cl (l.dropWhile (lessS x.cl))
/-- A kept one without rows. -/
def toSa (p : Sv × Nat) : Sa := ⟨p.2, p.1.num, p.1.e, p.1.yes, [], .slice none 0 0⟩
theorem toSa_cells (p : Sv × Nat) : (toSa p).cells = sdc p := rfl
def saidF (o : Nat) (sd : List Sv) : List (Sv × Nat) := (sd.zipIdx o).filter fun p => decide (0 < p.1.num)
theorem saidF_zero (sd : List Sv) : saidL sd = saidF 0 sd := rfl
theorem saidF_cons (o : Nat) (a : Sv) (r : List Sv) : saidF o (a :: r) = if 0 < a.num then (a, o) :: saidF (o + 1) r else saidF (o + 1) r := by
  unfold saidF
  rw [List.zipIdx_cons, List.filter_cons]
  by_cases h : 0 < a.num
  · rw [if_pos h, if_pos (by simpa using h)]
  · rw [if_neg h, if_neg (by simpa using h)]
theorem saidF_ge : ∀ (o : Nat) (sd : List Sv), ∀ p ∈ saidF o sd, o ≤ p.2
  | _, [], _, h => nomatch h
  | o, a :: r, p, h => by
    rw [saidF_cons] at h
    split at h
    · rcases List.mem_cons.1 h with rfl | h
      · exact Nat.le_refl _
      · have := saidF_ge (o + 1) r p h; omega
    · have := saidF_ge (o + 1) r p h; omega
theorem keepS_front {l : List Sa} {x : Sa} (h : ∀ p ∈ l, x.cl < p.cl) : keepS l x = x :: l := by
  unfold keepS
  cases l with
  | nil => rfl
  | cons r q =>
    have h1 := h r (List.mem_cons_self ..)
    have h2 : lessS x.cl r = false := decide_eq_false (by omega)
    rw [List.takeWhile_cons, if_neg (by rw [h2]; simp), List.dropWhile_cons, if_neg (by rw [h2]; simp)]
    have h3 : pastS x.cl (r :: q) = r :: q := if_neg (by omega)
    rw [h3]
    rfl
theorem keepF : ∀ (sd : List Sv) (o i : Nat) (s : Sv), i < sd.length → 0 < s.num → keepS ((saidF o sd).map toSa) (toSa (s, o + i)) = (saidF o (sd.set i s)).map toSa
  | [], _, _, _, h, _ => by simp at h
  | a :: r, o, 0, s, _, hn => by
    rw [Nat.add_zero]
    rw [List.set_cons_zero, saidF_cons, saidF_cons, if_pos hn, List.map_cons]
    have hge : ∀ p ∈ (saidF (o + 1) r).map toSa, (toSa (s, o)).cl < p.cl := fun p hp => by
      obtain ⟨q, hq, rfl⟩ := List.mem_map.1 hp
      have := saidF_ge (o + 1) r q hq
      show o < q.2
      omega
    split
    · rw [List.map_cons]
      unfold keepS
      have h2 : lessS (toSa (s, o)).cl (toSa (a, o)) = false := decide_eq_false (Nat.lt_irrefl o)
      rw [List.takeWhile_cons, if_neg (by rw [h2]; simp), List.dropWhile_cons, if_neg (by rw [h2]; simp)]
      have h3 : pastS (toSa (s, o)).cl (toSa (a, o) :: (saidF (o + 1) r).map toSa) = (saidF (o + 1) r).map toSa := if_pos rfl
      rw [h3]
      rfl
    · exact keepS_front hge
  | a :: r, o, i + 1, s, h, hn => by
    have ih := keepF r (o + 1) i s (by simpa using h) hn
    rw [show o + 1 + i = o + (i + 1) by omega] at ih
    rw [List.set_cons_succ, saidF_cons, saidF_cons]
    split
    · rw [List.map_cons, List.map_cons, ← ih]
      unfold keepS
      have h2 : lessS (toSa (s, o + (i + 1))).cl (toSa (a, o)) = true := decide_eq_true (show o < o + (i + 1) by omega)
      rw [List.takeWhile_cons, if_pos h2, List.dropWhile_cons, if_pos h2]
      rfl
    · exact ih
theorem keep_said {sd : List Sv} {c : Nat} {s : Sv} (hc : c < sd.length) (hn : 0 < s.num) : keepS ((saidL sd).map toSa) (toSa (s, c)) = (saidL (sd.set c s)).map toSa := by
  have := keepF sd 0 c s hc hn
  rw [Nat.zero_add] at this
  exact this
theorem flat_toSa (l : List (Sv × Nat)) : (l.map toSa).flatMap Sa.cells = l.flatMap sdc := by
  rw [List.flatMap_map]
  rfl
end Go.Proofs.YthageoibkeebhaaGreatDoor

/- The document's order: Less. No condition. -/
namespace Go.Proofs.YthageoibkeebhaaGreatDoor
open Go.RowKit
set_option maxRecDepth 100000
set_option maxHeartbeats 2000000
theorem bl_app (p a b : List UInt8) : Op.bytesLess (p ++ a) (p ++ b) = Op.bytesLess a b := by
  induction p with
  | nil => rfl
  | cons x p ih =>
    have h1 : ¬ x < x := UInt8.lt_irrefl x
    simp [Op.bytesLess, h1, ih]
theorem bl_nil (b : List UInt8) : Op.bytesLess [] b = decide (0 < b.length) := by
  cases b <;> simp [Op.bytesLess]
theorem bl_nil2 (a : List UInt8) : Op.bytesLess a [] = false := by
  cases a <;> simp [Op.bytesLess]
theorem bl_ne {x y : UInt8} (a b : List UInt8) (h : x ≠ y) : Op.bytesLess (x :: a) (y :: b) = decide (x < y) := by
  simp [Op.bytesLess, h]
theorem by_at (s : ByteArray) (k : Nat) (h : k < s.size) : s.toList[k]? = some s[k] := by
  rw [Lib.toList_data]
  have h2 : k < s.data.size := h
  rw [Array.getElem?_toList, Array.getElem?_eq_getElem h2]
  rfl
theorem by_len (s : ByteArray) : s.toList.length = s.size := by rw [Lib.toList_data, Array.length_toList]; rfl
theorem by_split (s : ByteArray) (k : Nat) (h : k < s.size) : s.toList = s.toList.take k ++ s[k] :: s.toList.drop (k + 1) := by
  obtain ⟨h1, h2⟩ := List.getElem?_eq_some_iff.1 (by_at s k h)
  have := List.take_append_drop k s.toList
  rw [List.drop_eq_getElem_cons h1, h2] at this
  exact this.symm
theorem by_take (s : ByteArray) (k : Nat) (h : k < s.size) : s.toList.take (k + 1) = s.toList.take k ++ [s[k]] := by
  rw [List.take_add_one, by_at s k h]
  rfl
theorem less_any (w : World) (s t : ByteArray) (hs : s.size ≤ 140737488351232) : Calls Tryz.prog 114 #[.string s, .string t] w fun e w' => e = .returned (.bool (Op.bytesLess s.toList t.toList)) ∧ Ext w w' := by
  obtain ⟨r, hr⟩ : ∃ r, r = Op.bytesLess s.toList t.toList := ⟨_, rfl⟩
  rw [← hr]
  have hr' := Lib.hid hr
  clear hr
  go_enter Tryz.func114, Tryz.ntmps114
  go_wp2_with fail
  go_loopw [5] (fun i wr => ∃ k : Nat, k ≤ s.size ∧ k ≤ t.size ∧ i = .int .i64 k ∧ Hid (s.toList.take k = t.toList.take k) ∧ Ext w wr) (fun i _ => s.size - (intOf i).toNat)
  case atStart => exact ⟨0, by omega, by omega, rfl, Lib.hid rfl, Ext.refl _⟩
  case round =>
    obtain ⟨k, hk1, hk2, rfl, heq, hE⟩ := hrel
    by_cases h1 : k < s.size
    · have h1i : (k : Int) < (s.size : Int) := by omega
      by_cases h2 : k < t.size
      · have h2i : (k : Int) < (t.size : Int) := by omega
        have h0i : 0 ≤ (k : Int) := by omega
        by_cases hxy : s[k] = t[k]
        · have hb : ((s[k].toNat : Int) != (t[k].toNat : Int)) = false := by rw [hxy]; simp
          have hnx : Hid (s.toList.take (k + 1) = t.toList.take (k + 1)) := Lib.hid (by rw [by_take s k h1, by_take t k h2, heq.out, hxy])
          clear hxy
          go_upto_region 4 with fail
          go_quiet (fail)
          go_wp2_with fail
          go_roundw
          case rel => exact ⟨k + 1, by omega, by omega, by go_num, hnx, hE.trans ⟨rfl, rfl, rfl, Nat.le_refl _, fun _ _ => rfl⟩⟩
          case measure => simp [intOf]; omega
        · have hne : ¬ (s[k].toNat : Int) = (t[k].toNat : Int) := fun e => hxy (UInt8.toNat_inj.1 (by omega))
          have hb : ((s[k].toNat : Int) != (t[k].toNat : Int)) = true := by rw [bne_iff_ne]; exact hne
          have hres : Hid (r = decide (s[k].toNat < t[k].toNat)) := Lib.hid (by
            rw [hr'.out, by_split s k h1, by_split t k h2, heq.out, bl_app, bl_ne _ _ hxy]
            by_cases h : s[k] < t[k]
            · rw [decide_eq_true h, decide_eq_true (UInt8.lt_iff_toNat_lt.1 h)]
            · rw [decide_eq_false h, decide_eq_false (fun h' => h (UInt8.lt_iff_toNat_lt.2 h'))])
          clear hxy
          go_upto_region 4 with fail
          go_quiet (fail)
          go_upto_region 5 with fail
          go_quiet (fail)
          go_wp2_with fail
          go_ret
          exact ⟨by rw [hres.out]; rfl, hE.trans ⟨rfl, rfl, rfl, Nat.le_refl _, fun _ _ => rfl⟩⟩
      · have h2i : ¬ (k : Int) < (t.size : Int) := by omega
        have hkt : k = t.size := by omega
        have hres : Hid (r = decide ((s.size : Int) < (t.size : Int))) := Lib.hid (by
          have h3 : t.toList = t.toList.take k := by rw [List.take_of_length_le (by rw [by_len]; omega)]
          rw [hr'.out, h3, by_split s k h1, heq.out]
          conv => lhs; arg 2; rw [← List.append_nil (t.toList.take k)]
          rw [bl_app, bl_nil2, decide_eq_false (by omega)])
        clear hkt
        go_wp2_with fail
        go_ret
        exact ⟨by rw [hres.out]; simp, hE⟩
    · have h1i : ¬ (k : Int) < (s.size : Int) := by omega
      have hres : Hid (r = decide ((s.size : Int) < (t.size : Int))) := Lib.hid (by
        have h3 : s.toList = s.toList.take k := by rw [List.take_of_length_le (by rw [by_len]; omega)]
        have hks : k = s.size := by omega
        have h4 : t.toList = t.toList.take k ++ t.toList.drop k := (List.take_append_drop k t.toList).symm
        rw [hr'.out, h3, h4, heq.out]
        conv => lhs; arg 1; rw [← List.append_nil (t.toList.take k)]
        rw [bl_app, bl_nil, List.length_drop, by_len]
        by_cases h : s.size < t.size
        · rw [decide_eq_true (by omega), decide_eq_true (by omega)]
        · rw [decide_eq_false (by omega), decide_eq_false (by omega)])
      go_wp2_with fail
      go_ret
      exact ⟨by rw [hres.out]; simp, hE⟩
end Go.Proofs.YthageoibkeebhaaGreatDoor

/- A quiet region stepped in a box, so that nothing ahead of the next operation is reduced. No condition. -/
namespace Go.Proofs.YthageoibkeebhaaGreatDoor
open Go.RowKit
structure Bq (p : Prop) : Prop where
  out : p
section
variable {P : Program} {ops : Array Oper} {C : World → Prop} {Q : Act → Prop} {o : Oper} {rest : List Oper} {a : Act}
theorem bqSkip (hw : Region.wanted o (yielded ops a.tmps) = false) (h : Bq (wpQuiet P ops C Q rest (a.put o.dst undef))) : Bq (wpQuiet P ops C Q (o :: rest) a) := by
  refine ⟨?_⟩
  unfold wpQuiet
  rw [if_neg (by rw [hw]; decide)]
  exact h.out
theorem bqStep (h : ∀ K : Act → Prop, (∀ a, Bq (wpQuiet P ops C Q rest a) → K a) → if Region.wanted o (yielded ops a.tmps) then o.quiet P a C K else K (a.put o.dst undef)) : Bq (wpQuiet P ops C Q (o :: rest) a) :=
  ⟨wpQuiet_step fun K hK => h K fun a h => hK a h.out⟩
theorem bqNil (h : Q a) : Bq (wpQuiet P ops C Q [] a) := ⟨h⟩
theorem bqValue (v : Value) (hg : Region.wanted o (yielded ops a.tmps) = true) (h : ∀ w, C w → (execOp a.eval o).run P w = .ok (.value v) w) (k : Bq (wpQuiet P ops C Q rest (a.put o.dst v))) : Bq (wpQuiet P ops C Q (o :: rest) a) :=
  ⟨wpQuiet_value v hg h k.out⟩
theorem bqCell (hg : Region.wanted o (yielded ops a.tmps) = true) (ty : TypeId) (x : Operand) (ho : o.op = .load ty x)
    (g off : Nat) (hx : a.eval x = .pointer (some ⟨g, off, none⟩)) (v : Value) (hrow : ∀ w, C w → w.cell? ⟨g, off, none⟩ = some v)
    (d : TypeDesc) (hu : P.underlying ty = some d) (hd : d.isRow = false)
    (k : Bq (wpQuiet P ops C Q rest (a.put o.dst v))) : Bq (wpQuiet P ops C Q (o :: rest) a) :=
  ⟨wpQuiet_load_cell hg ty x ho g off hx v hrow d hu hd k.out⟩
theorem bqMid (hg : Region.wanted o (yielded ops a.tmps) = true) (ty : TypeId) (x : Operand) (ho : o.op = .load ty x)
    (b off : Nat) (hx : a.eval x = .pointer (some ⟨b, off, none⟩)) (cs : List Value) (d : TypeDesc) (hrow : ∀ w, C w → w.rangeAt b off cs)
    (hu : P.underlying ty = some d) (hd : d.isRow = true) (hi : (P.info? ty).map (·.size) = some cs.length)
    (k : Bq (wpQuiet P ops C Q rest (a.put o.dst (.agg cs.toArray)))) : Bq (wpQuiet P ops C Q (o :: rest) a) :=
  ⟨wpQuiet_load_mid hg ty x ho b off hx cs d hrow hu hd hi k.out⟩
end
theorem bqRegion {P : Program} {id : Nat} {Q : Exit → Act → World → Prop} {a : Act} {w : World} {l : List Oper} (C : World → Prop) (hm : P.follows .mixedOrders = true) (hB : Region.lexB .any l.toArray = true) (hC : C w.drew)
    (h : Bq (wpQuiet P l.toArray C (fun a' => ∀ w', C w' → Q .normal a' w') l a)) : (Code.region id l.toArray true).wp P Q a w :=
  wp_region_class C hm hB hC h.out
end Go.Proofs.YthageoibkeebhaaGreatDoor
