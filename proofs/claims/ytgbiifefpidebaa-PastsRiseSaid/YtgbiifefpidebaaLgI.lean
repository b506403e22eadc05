/- What Log keeps: the items by epochs, the log, and that none of them lies in another one's block. No condition. -/
import Derived.Test.YtgbiifefpidebaaFmS
namespace Go.Proofs.Ytgbiifefpidebaa
open Go.RowKit Go.Maps Go.WideMaps
set_option maxRecDepth 100000
def Ev.item (x : Ev) : Array Value := #[.int .u64 x.idx, .int .u8 x.cl, .int .u32 x.num, .int .u8 x.ask.kind, .string x.ask.key, .string x.ask.val, .string x.ask.old, .bool x.ask.new, .string x.ask.to, .int .i64 x.ask.many, .slice x.ad x.ask.chs.length x.cap]
def Ev.itc (x : Ev) : List Value := x.item.toList
theorem itc_len (x : Ev) : x.itc.length = 11 := rfl
theorem item_one (x : Ev) : ∀ u ∈ x.item.toList, u.oneCell' = true := fun u hu => by
  have h : x.item.all (·.oneCell') = true := by kernel_rfl
  exact Array.all_eq_true_iff_forall_mem.1 h u (by simpa using hu)
/-- An event without the place of its changes. -/
def Ev.strip (x : Ev) : Ev := ⟨x.kind, x.ep, x.cl, x.num, x.ask, none, 0, x.lvl, x.re, x.ry, x.rows, x.ra, x.rc, x.idx⟩
def itemsOf (L : List Ev) (e : Int) : List Ev := L.filter fun y => decide (y.kind = 5) && decide (y.ep = e)
def addI (o its : List Ev) : List Ev := its.foldl (fun o y => if y.idx = (o.length : Int) + 1 then o ++ [y] else o) o
def logS (L os : List Ev) (x : Ev) : List Ev := if x.kind = 3 then addI (os.take x.idx.toNat) (itemsOf L x.ep) else os
def logL (L l : List Ev) : List Ev := l.foldl (logS L) []
def Ev.chv (y : Ev) : Value := .slice y.ad y.ask.chs.length y.cap
def kU (e : Int) : Value := .int .u32 e
theorem kU_inj {a b : Int} (h : kU a = kU b) : a = b := by unfold kU at h; injection h
theorem itemsOf_skip {L : List Ev} {x : Ev} (h : x.kind ≠ 5) (e : Int) : itemsOf (L ++ [x]) e = itemsOf L e := by
  unfold itemsOf
  rw [List.filter_append]
  simp [h]
theorem itemsOf_add {L : List Ev} {x : Ev} (h : x.kind = 5) : itemsOf (L ++ [x]) x.ep = itemsOf L x.ep ++ [x] := by
  unfold itemsOf
  rw [List.filter_append]
  simp [h]
theorem itemsOf_else {L : List Ev} {x : Ev} {e : Int} (h : x.ep ≠ e) : itemsOf (L ++ [x]) e = itemsOf L e := by
  unfold itemsOf
  rw [List.filter_append]
  simp [h]
structure LgI (w : World) (g : Nat) (F : Value → Value) (L : List Ev) : Prop where
  map : FMS 28 w g L.length F
  row : ∀ e, OwnC w (g + 1) 42 11 (F (kU e)) (itemsOf L e).length ((itemsOf L e).flatMap Ev.itc)
  sep : ∀ e e', e ≠ e' → Sep (F (kU e)) (F (kU e'))
  chs : ∀ y ∈ L, y.kind = 5 → OwnC w (g + 1) 57 3 y.chv y.ask.chs.length (y.ask.chs.flatMap Ch.cells) ∧ ∀ e, Sep (F (kU e)) y.chv
theorem LgI.made (w : World) : LgI (w.alloc (.map #[] 0)) w.heap.size (fun _ => .slice none 0 0) [] :=
  ⟨FMS.made w _, fun _ => OwnC.nil _ _ _ _, fun _ _ _ => Sep.nil _, fun _ h => by cases h⟩
theorem LgI.ext {w w' : World} {g : Nat} {F : Value → Value} {L : List Ev} (h : LgI w g F L) (he : Ext w w') : LgI w' g F L :=
  ⟨h.map.kept (grown_ext he) (by simp), fun e => (h.row e).ext he, h.sep, fun y hy hk => ⟨((h.chs y hy hk).1).ext he, (h.chs y hy hk).2⟩⟩
theorem LgI.add0 {w : World} {g : Nat} {F : Value → Value} {L : List Ev} (h : LgI w g F L) {x : Ev} (hx : x.kind ≠ 5) : LgI w g F (L ++ [x]) := by
  refine ⟨?_, fun e => by rw [itemsOf_skip hx]; exact h.row e, h.sep, fun y hy hk => ?_⟩
  · rw [List.length_append, List.length_singleton]; exact h.map.more
  · rcases List.mem_append.1 hy with hy | hy
    · exact h.chs y hy hk
    · rw [List.mem_singleton.1 hy] at hk; exact absurd hk hx
theorem AppE.mapAt {w w2 : World} {g n m k : Nat} {e : TypeId} {size : Nat} {F : Value → Value} {v v' : Value} {xs ys : List Value} (h : AppE w w2 (g + 1) e size v v' n xs) (hv : OwnC w (g + 1) e size v m ys) (hm : FMS 28 w g k F) : FMS 28 w2 g k F :=
  hm.kept h.grown (fun q => by have := (hv.lt g q.symm).1; omega)
theorem LgI.add5 {w w2 w3 : World} {g : Nat} {F : Value → Value} {L : List Ev} (h : LgI w g F L) {y : Ev} (hy : y.kind = 5) (hc : OwnC w (g + 1) 57 3 y.chv y.ask.chs.length (y.ask.chs.flatMap Ch.cells)) (hs : ∀ e, Sep (F (kU e)) y.chv)
    {v' : Value} (ha : AppE w w2 (g + 1) 42 11 (F (kU y.ep)) v' ((itemsOf L y.ep).length + 1) ((itemsOf L y.ep).flatMap Ev.itc ++ y.item.toList)) (hm : FMS 28 w3 g (L.length + 1) (setV F (kU y.ep) v')) (hg : w2.grownBy w3 (some g)) : LgI w3 g (setV F (kU y.ep) v') (L ++ [y]) := by
  have ne : ∀ {e size u n xs}, OwnC w2 (g + 1) e size u n xs → u.ownBlock = none ∨ u.ownBlock ≠ some g := fun {e size u n xs} ho => by
    cases hu : u.ownBlock with
    | none => exact .inl rfl
    | some b => exact .inr (fun q => by have := (ho.lt b hu).1; injection q with q; omega)
  have oth : ∀ e, e ≠ y.ep → setV F (kU y.ep) v' (kU e) = F (kU e) := fun e he => setV_other _ _ (fun q => he (kU_inj q))
  have hrow : ∀ e, e ≠ y.ep → OwnC w2 (g + 1) 42 11 (F (kU e)) (itemsOf L e).length ((itemsOf L e).flatMap Ev.itc) ∧ Sep v' (F (kU e)) := fun e he => ha.keep _ _ _ _ _ _ (h.row e) (h.sep _ _ (fun q => he q.symm))
  have hch : ∀ z ∈ L ++ [y], z.kind = 5 → OwnC w (g + 1) 57 3 z.chv z.ask.chs.length (z.ask.chs.flatMap Ch.cells) ∧ ∀ e, Sep (F (kU e)) z.chv := fun z hz hk => by
    rcases List.mem_append.1 hz with hz | hz
    · exact h.chs z hz hk
    · rw [List.mem_singleton.1 hz]; exact ⟨hc, hs⟩
  refine ⟨by rw [List.length_append, List.length_singleton]; exact hm, fun e => ?_, fun e e' hne => ?_, fun z hz hk => ?_⟩
  · by_cases he : e = y.ep
    · subst he
      rw [setV_same, itemsOf_add hy, List.flatMap_append, List.length_append, List.length_singleton]
      have : List.flatMap Ev.itc [y] = y.item.toList := by simp [Ev.itc]
      rw [this]
      exact ha.own.kept hg (ne ha.own)
    · rw [oth e he, itemsOf_else (fun q => he q.symm)]
      exact (hrow e he).1.kept hg (ne (hrow e he).1)
  · by_cases he : e = y.ep
    · subst he
      rw [setV_same, oth e' (fun q => hne q.symm)]
      exact (hrow e' (fun q => hne q.symm)).2
    · by_cases he' : e' = y.ep
      · subst he'
        rw [setV_same, oth e he]
        exact ((hrow e he).2).symm
      · rw [oth e he, oth e' he']
        exact h.sep e e' hne
  · obtain ⟨h1, h2⟩ := hch z hz hk
    obtain ⟨k1, k2⟩ := ha.keep _ _ _ _ _ _ h1 (h2 y.ep)
    refine ⟨k1.kept hg (ne k1), fun e => ?_⟩
    by_cases he : e = y.ep
    · subst he; rw [setV_same]; exact k2
    · rw [oth e he]; exact h2 e
structure OutI (w : World) (g : Nat) (F : Value → Value) (L : List Ev) (v : Value) (os : List Ev) : Prop where
  lg : LgI w g F L
  own : OwnC w (g + 1) 42 11 v os.length (os.flatMap Ev.itc)
  sepF : ∀ e, Sep v (F (kU e))
  sepC : ∀ y ∈ L, y.kind = 5 → Sep v y.chv
  mem : ∀ y ∈ os, y ∈ L ∧ y.kind = 5
theorem OutI.start {w : World} {g : Nat} {F : Value → Value} {L : List Ev} (h : LgI w g F L) : OutI w g F L (.slice none 0 0) [] :=
  ⟨h, OwnC.nil _ _ _ _, fun _ => Sep.nil _, fun _ _ _ => Sep.nil _, fun _ hy => by cases hy⟩
theorem OutI.ext {w w' : World} {g : Nat} {F : Value → Value} {L : List Ev} {v : Value} {os : List Ev} (h : OutI w g F L v os) (he : Ext w w') : OutI w' g F L v os := ⟨h.lg.ext he, h.own.ext he, h.sepF, h.sepC, h.mem⟩
theorem OutI.push {w w2 : World} {g : Nat} {F : Value → Value} {L : List Ev} {v v' : Value} {os : List Ev} (h : OutI w g F L v os) {y : Ev} (hy : y ∈ L) (hk : y.kind = 5) (ha : AppE w w2 (g + 1) 42 11 v v' (os.length + 1) (os.flatMap Ev.itc ++ y.item.toList)) : OutI w2 g F L v' (os ++ [y]) := by
  have hrow := fun e => ha.keep _ _ _ _ _ _ (h.lg.row e) (h.sepF e)
  have hch := fun z hz hk => ha.keep _ _ _ _ _ _ (h.lg.chs z hz hk).1 (h.sepC z hz hk)
  refine ⟨⟨ha.mapAt h.own h.lg.map, fun e => (hrow e).1, h.lg.sep, fun z hz hk => ⟨(hch z hz hk).1, (h.lg.chs z hz hk).2⟩⟩, ?_, fun e => (hrow e).2, fun z hz hk => (hch z hz hk).2, fun z hz => ?_⟩
  · rw [List.flatMap_append, List.length_append, List.length_singleton]
    have : List.flatMap Ev.itc [y] = y.item.toList := by simp [Ev.itc]
    rw [this]
    exact ha.own
  · rcases List.mem_append.1 hz with hz | hz
    · exact h.mem z hz
    · rw [List.mem_singleton.1 hz]; exact ⟨hy, hk⟩
theorem Sep.clip {a : Option Addr} {n c m k : Nat} {u : Value} (h : Sep (.slice a n c) u) : Sep (.slice a m k) u := by
  intro g hg
  refine h g ?_
  cases a with
  | none => cases hg
  | some a => exact hg
theorem itc_take (os : List Ev) (m : Nat) : (os.flatMap Ev.itc).take (m * 11) = (os.take m).flatMap Ev.itc := (flatMap_cut Ev.itc 11 (fun _ => rfl) os m).2
theorem OutI.cut {w : World} {g : Nat} {F : Value → Value} {L : List Ev} {a : Option Addr} {cap m : Nat} {os : List Ev} (h : OutI w g F L (.slice a os.length cap) os) (hm : m ≤ os.length) : OutI w g F L (.slice a m m) (os.take m) := by
  refine ⟨h.lg, ?_, fun e => (h.sepF e).clip, fun y hy hk => (h.sepC y hy hk).clip, fun y hy => h.mem y (List.mem_of_mem_take hy)⟩
  have h1 := h.own.clip hm
  rw [itc_take] at h1
  rw [List.length_take, Nat.min_eq_left hm]
  exact h1
end Go.Proofs.Ytgbiifefpidebaa
