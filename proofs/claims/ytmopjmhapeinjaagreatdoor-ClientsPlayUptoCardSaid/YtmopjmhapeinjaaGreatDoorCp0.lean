/- A client and the document's client side by side: what they hold, what each call makes of it. No condition. -/
import Derived.Test.YtmopjmhapeinjaaGreatDoorGrD0
import Derived.Test.YtmopjmhapeinjaaGreatDoorGrD2
import Derived.Test.YtmopjmhapeinjaaGreatDoorGrD4
namespace Go.Proofs.YtmopjmhapeinjaaGreatDoor
open Go.RowKit
set_option maxRecDepth 100000
set_option maxHeartbeats 2000000
/-- What is asked, and how it is to be told; none: nothing is asked. -/
abbrev Cst := Option (Ak × Int)
def CHeld (w0 w : World) (c id num : Nat) : Cst → Prop
  | none => ClAt w c id num none
  | some (x, lv) => (x.chs.length * 40 ≤ 140737488351232 ∧ ∀ d ∈ x.chs, d.small) ∧ ∃ g a cap, ClAt w c id num (some ⟨g, 0, none⟩) ∧ w.heap[g]? = some (.cells ((x.row (.slice a x.chs.length cap)).push (.int .u8 lv)) 95 (0, 0)) ∧ OwnC w w0.heap.size 93 3 (.slice a x.chs.length cap) x.chs.length (x.chs.flatMap Ch.cells)
def RHeld (w0 w : World) (r id num : Nat) : Cst → Prop
  | none => ∃ x v lv, RcAt w r id num false x v lv
  | some (x, lv) => ∃ a cap, RcAt w r id num true x (.slice a x.chs.length cap) lv ∧ ChsAt w0 x.chs a cap
/-- The client; the document's client. -/
def CHalf (w0 w : World) (c id num : Nat) (s : Cst) : Prop := w0.heap.size ≤ c ∧ CHeld w0 w c id num s
def RHalf (w0 w : World) (r id num : Nat) (s : Cst) : Prop := w0.heap.size ≤ r ∧ RHeld w0 w r id num s
section
variable {w0 w w' : World} {c r id num : Nat} {s : Cst}
theorem CHalf.cl (h : CHalf w0 w c id num s) : ∃ p, ClAt w c id num p := by
  obtain ⟨_, h⟩ := h
  cases s with
  | none => exact ⟨_, h⟩
  | some y => obtain ⟨_, g, a, cap, h, _⟩ := h; exact ⟨_, h⟩
theorem RHalf.rc (h : RHalf w0 w r id num s) : ∃ wt x v lv, RcAt w r id num wt x v lv := by
  obtain ⟨_, h⟩ := h
  cases s with
  | none => obtain ⟨x, v, lv, h⟩ := h; exact ⟨_, _, _, _, h⟩
  | some y => obtain ⟨a, cap, h, _⟩ := h; exact ⟨_, _, _, _, h⟩
theorem CHalf.keep {B : Nat → Prop} (h : CHalf w0 w c id num s) (hO : OffB B w w') (ht : ∀ q, B q → ∀ d t, w.heap[q]? = some (.cells d t (0, 0)) → t ≠ 87 ∧ t ≠ 95 ∧ t ≠ 93) : CHalf w0 w' c id num s := by
  obtain ⟨h0, h⟩ := h
  refine ⟨h0, ?_⟩
  cases s with
  | none =>
    have h : ClAt w c id num none := h
    exact h.off hO (fun hB => (ht c hB _ _ h).1 rfl)
  | some y =>
    obtain ⟨h1, g, a, cap, h2, h3, h4⟩ := h
    refine ⟨h1, g, a, cap, h2.off hO (fun hB => (ht c hB _ _ h2).1 rfl), (hO.block g (Array.getElem?_eq_some_iff.1 h3).1 (fun hB => (ht g hB _ _ h3).2.1 rfl)).trans h3, h4.offB hO (fun q hq hB => ?_)⟩
    obtain ⟨d, hd⟩ := own_typ h4 hq
    exact (ht q hB _ _ hd).2.2 rfl
theorem RHalf.keep {B : Nat → Prop} (h : RHalf w0 w r id num s) (hO : OffB B w w') (ht : ∀ q, B q → ∀ d t, w.heap[q]? = some (.cells d t (0, 0)) → t ≠ 89) : RHalf w0 w' r id num s := by
  obtain ⟨h0, h⟩ := h
  refine ⟨h0, ?_⟩
  have hk : ∀ {wt : Bool} {x : Ak} {v : Value} {lv : Int}, RcAt w r id num wt x v lv → RcAt w' r id num wt x v lv := fun hr => (hO.block r (Array.getElem?_eq_some_iff.1 hr).1 (fun hB => ht r hB _ _ hr rfl)).trans hr
  cases s with
  | none => obtain ⟨x, v, lv, h⟩ := h; exact ⟨x, v, lv, hk h⟩
  | some y => obtain ⟨a, cap, h, h2⟩ := h; exact ⟨a, cap, hk h, h2⟩
theorem CHalf.ext (h : CHalf w0 w c id num s) (hE : Ext w w') : CHalf w0 w' c id num s := h.keep (B := fun _ => False) (.of_ext hE) (fun _ hB => hB.elim)
theorem RHalf.ext (h : RHalf w0 w r id num s) (hE : Ext w w') : RHalf w0 w' r id num s := h.keep (B := fun _ => False) (.of_ext hE) (fun _ hB => hB.elim)
theorem mg_ty {b q : Nat} (h : mutG b w q) {d : Array Value} {t : TypeId} (hd : w.heap[q]? = some (.cells d t (0, 0))) : bkOwn t := by
  obtain ⟨_, d', t', h1, h2⟩ := h
  rw [hd] at h1
  injection h1 with h1
  injection h1 with _ h1
  rw [h1]; exact h2
theorem CHalf.mut {b : Nat} (h : CHalf w0 w c id num s) (hO : OffB (mutG b w) w w') : CHalf w0 w' c id num s := h.keep hO (fun q hB d t hd => by
  have := mg_ty hB hd
  exact ⟨fun e => nob_client (e ▸ this), fun e => nob_asked (e ▸ this), fun e => nob_ch (e ▸ this)⟩)
theorem RHalf.mut {b : Nat} (h : RHalf w0 w r id num s) (hO : OffB (mutG b w) w w') : RHalf w0 w' r id num s := h.keep hO (fun _ hB _ _ hd => fun e => nob_rcl (e ▸ mg_ty hB hd))
theorem one_ty {b q : Nat} (hq : q = b) {d e : Array Value} {t u : TypeId} (hb : w.heap[b]? = some (.cells e u (0, 0))) (hd : w.heap[q]? = some (.cells d t (0, 0))) : t = u := by
  rw [hq, hb] at hd
  injection hd with hd
  injection hd with _ hd
  exact hd.symm
theorem CHalf.offR {id' num' : Nat} {s' : Cst} (h : CHalf w0 w c id num s) (hr : RHalf w0 w r id' num' s') (hO : OffB (fun k => k = r) w w') : CHalf w0 w' c id num s := h.keep hO (fun q hB d t hd => by
  obtain ⟨_, _, _, _, hr⟩ := hr.rc
  rw [one_ty hB hr hd]
  decide)
theorem RHalf.offC {id' num' : Nat} {s' : Cst} (h : RHalf w0 w r id num s) (hc : CHalf w0 w c id' num' s') (hO : OffB (fun k => k = c) w w') : RHalf w0 w' r id num s := h.keep hO (fun q hB d t hd => by
  obtain ⟨_, hc⟩ := hc.cl
  rw [one_ty hB hc hd]
  decide)
end
section
variable {w0 w w' : World} {c r id num : Nat} {s : Cst}
/-- What an ask is answered. -/
def askN (num : Nat) (s : Cst) (x : Ak) (lv : Int) : Nat := if (x.okB && lvB lv) = true then (if s.isSome then 0 else num + 1) else 0
def askE (s : Cst) (x : Ak) (lv : Int) : Int := if (x.okB && lvB lv) = true then (if s.isSome then 9 else 0) else 1
def askNum (num : Nat) (s : Cst) (x : Ak) (lv : Int) : Nat := if (x.okB && lvB lv) = true then (if s.isSome then num else num + 1) else num
def askS (s : Cst) (x : Ak) (lv : Int) : Cst := if (x.okB && lvB lv) = true then (if s.isSome then s else some (x, lv)) else s
theorem lvB_or {lv : Int} (h : lvB lv = true) : lv = 1 ∨ lv = 2 := by
  unfold lvB at h
  simpa using h
theorem c_ask (h : CHalf w0 w c id num s) (hE0 : Ext w0 w) (h1 : 1 ≤ id) (hn : num < 4294967295) (x : Ak) (a : Option Addr) (cap : Nat) (lv : Int) (hx : ChsAt w x.chs a cap) (hac : ∀ w', OffB (fun k => k = c) w w' → ChsAt w' x.chs a cap) (hs : x.small) :
    Calls Tryz.prog 9 #[.pointer (some ⟨c, 0, none⟩), .agg (x.row (.slice a x.chs.length cap)), .int .u8 lv] w fun e w' => e = .returned (.tuple #[.int .u32 (askN num s x lv : Nat), .int .i64 (askE s x lv)]) ∧ CHalf w0 w' c id (askNum num s x lv) (askS s x lv) ∧ OffB (fun k => k = c) w w' := by
  unfold askN askE askNum askS
  by_cases hb : (x.okB && lvB lv) = true
  · rw [if_pos hb, if_pos hb, if_pos hb, if_pos hb]
    obtain ⟨hok, hlv⟩ := Bool.and_eq_true_iff.1 hb
    cases s with
    | none =>
      refine (cask_ok w c id num x a cap lv h.2 (by omega) (by omega) (by omega) hx hs hok (lvB_or hlv) hac).mono ?_
      rintro e w' ⟨rfl, g, a', cap', h2, h3, _, ⟨_, h4⟩, hO⟩
      exact ⟨rfl, ⟨h.1, h3.2.2, g, a', cap', h2, h3.1, h4.weak hE0.size⟩, hO⟩
    | some y =>
      obtain ⟨h0, h5, g, a', cap', h2, h3, h4⟩ := h
      refine (cask_state w c id num ⟨g, 0, none⟩ x a cap lv h2 (by omega) hx hs hok (lvB_or hlv)).mono ?_
      rintro e w' ⟨rfl, hE⟩
      exact ⟨rfl, CHalf.ext (s := some y) ⟨h0, h5, g, a', cap', h2, h3, h4⟩ hE, .of_ext hE⟩
  · rw [if_neg hb, if_neg hb, if_neg hb, if_neg hb]
    obtain ⟨p, hp⟩ := h.cl
    refine (cask_arg w c id num p x a cap lv hp (by omega) hx hs (by simpa using hb)).mono ?_
    rintro e w' ⟨rfl, hE⟩
    exact ⟨rfl, h.ext hE, .of_ext hE⟩
theorem r_ask (h : RHalf w0 w r id num s) (hn : num < 4294967295) (x : Ak) (a : Option Addr) (cap : Nat) (lv : Int) (hx0 : ChsAt w0 x.chs a cap) (hx : ChsAt w x.chs a cap) (hs : x.small) :
    Calls Tryz.prog 10 #[.pointer (some ⟨r, 0, none⟩), .agg (x.row (.slice a x.chs.length cap)), .int .u8 lv] w fun e w' => e = .returned (.tuple #[.int .u32 (askN num s x lv : Nat), .int .i64 (askE s x lv)]) ∧ RHalf w0 w' r id (askNum num s x lv) (askS s x lv) ∧ OffB (fun k => k = r) w w' := by
  unfold askN askE askNum askS
  by_cases hb : (x.okB && lvB lv) = true
  · rw [if_pos hb, if_pos hb, if_pos hb, if_pos hb]
    obtain ⟨hok, hlv⟩ := Bool.and_eq_true_iff.1 hb
    cases s with
    | none =>
      obtain ⟨h0, x0, v0, lv0, h⟩ := h
      refine (rask_ok h (by omega) (by omega) hx hs hok (lvB_or hlv)).mono ?_
      rintro e w' ⟨rfl, h2, hO⟩
      exact ⟨rfl, ⟨h0, a, cap, h2, hx0⟩, hO⟩
    | some y =>
      obtain ⟨h0, a', cap', h2, h3⟩ := h
      refine (rask_state h2 hx hs hok (lvB_or hlv)).mono ?_
      rintro e w' ⟨rfl, hE⟩
      exact ⟨rfl, RHalf.ext (s := some y) ⟨h0, a', cap', h2, h3⟩ hE, .of_ext hE⟩
  · rw [if_neg hb, if_neg hb, if_neg hb, if_neg hb]
    obtain ⟨wt, x0, v0, lv0, hp⟩ := h.rc
    refine (rask_arg hp hx hs (by simpa using hb)).mono ?_
    rintro e w' ⟨rfl, hE⟩
    exact ⟨rfl, h.ext hE, .of_ext hE⟩
def dropE (s : Cst) : Int := if s.isSome then 0 else 9
theorem c_drops (h : CHalf w0 w c id num s) (h1 : 1 ≤ id) : Calls Tryz.prog 17 #[.pointer (some ⟨c, 0, none⟩)] w fun e w' => e = .returned (.int .i64 (dropE s)) ∧ CHalf w0 w' c id num none ∧ OffB (fun k => k = c) w w' := by
  cases s with
  | none =>
    refine (drops_idle w c id num h.2 (by omega)).mono ?_
    rintro e w' ⟨rfl, rfl⟩
    exact ⟨rfl, h, OffB.refl _⟩
  | some y =>
    obtain ⟨h0, h5, g, a', cap', h2, h3, h4⟩ := h
    refine (drops_waits w c id num ⟨g, 0, none⟩ h2 (by omega)).mono ?_
    rintro e w' ⟨rfl, h6, hO⟩
    exact ⟨rfl, ⟨h0, h6⟩, hO⟩
theorem r_drops (h : RHalf w0 w r id num s) : Calls Tryz.prog 18 #[.pointer (some ⟨r, 0, none⟩)] w fun e w' => e = .returned (.int .i64 (dropE s)) ∧ RHalf w0 w' r id num none ∧ OffB (fun k => k = r) w w' := by
  cases s with
  | none =>
    obtain ⟨h0, x, v, lv, h2⟩ := h
    refine (rdrops_idle h2).mono ?_
    rintro e w' ⟨rfl, hE⟩
    exact ⟨rfl, ⟨h0, x, v, lv, h2.ext hE⟩, .of_ext hE⟩
  | some y =>
    obtain ⟨h0, a', cap', h2, h3⟩ := h
    refine (rdrops_waits h2).mono ?_
    rintro e w' ⟨rfl, h6, hO⟩
    exact ⟨rfl, ⟨h0, _, _, _, h6⟩, hO⟩
def waN (num : Nat) (s : Cst) : Nat := if s.isSome then num else 0
theorem c_waits (h : CHalf w0 w c id num s) (h1 : 1 ≤ id) : Calls Tryz.prog 24 #[.pointer (some ⟨c, 0, none⟩)] w fun e w' => e = .returned (.tuple #[.int .u32 (waN num s : Nat), .bool s.isSome]) ∧ Ext w w' := by
  cases s with
  | none =>
    refine (waits_idle w c id num h.2 (by omega)).mono ?_
    rintro e w' ⟨rfl, rfl⟩
    exact ⟨rfl, Ext.refl _⟩
  | some y =>
    obtain ⟨h0, h5, g, a', cap', h2, h3, h4⟩ := h
    refine (waits_waits w c id num ⟨g, 0, none⟩ h2 (by omega)).mono ?_
    rintro e w' ⟨rfl, rfl⟩
    exact ⟨rfl, Ext.refl _⟩
theorem r_waits (h : RHalf w0 w r id num s) : Calls Tryz.prog 25 #[.pointer (some ⟨r, 0, none⟩)] w fun e w' => e = .returned (.tuple #[.int .u32 (waN num s : Nat), .bool s.isSome]) ∧ Ext w w' := by
  cases s with
  | none =>
    obtain ⟨h0, x, v, lv, h2⟩ := h
    exact rwaits_any false h2
  | some y =>
    obtain ⟨h0, a', cap', h2, h3⟩ := h
    exact rwaits_any true h2
/-- What a message that comes is answered. -/
def cameHit (num : Nat) (s : Cst) (m : Mg) : Bool := match s with | none => false | some (_, lv) => decide (m.num = (num : Int) ∧ m.lv = lv)
def cameTo (id : Nat) (m : Mg) : Bool := decide (m.say = 2 ∧ m.to = 16 + (id : Int))
def cameB (id num : Nat) (s : Cst) (m : Mg) : Bool := cameTo id m && cameHit num s m
def cameE (id : Nat) (m : Mg) : Int := if cameTo id m = true then 0 else 1
def cameS (id num : Nat) (s : Cst) (m : Mg) : Cst := if cameB id num s m = true then none else s
theorem c_came (h : CHalf w0 w c id num s) (h1 : 1 ≤ id) (h8 : id ≤ 8) (m : Mg) (v8 v9 v10 v11 v12 v13 v14 v15 : Value) : Calls Tryz.prog 20 #[.pointer (some ⟨c, 0, none⟩), .agg (m.row v8 v9 v10 v11 v12 v13 v14 v15)] w fun e w' => e = .returned (.tuple #[.bool (cameB id num s m), .int .i64 (cameE id m)]) ∧ CHalf w0 w' c id num (cameS id num s m) ∧ OffB (fun k => k = c) w w' := by
  unfold cameS cameE cameB
  by_cases ht : cameTo id m = true
  · obtain ⟨hs, hto⟩ := of_decide_eq_true ht
    rw [ht, if_pos rfl, Bool.true_and]
    cases s with
    | none =>
      refine (came_idle w c id num m v8 v9 v10 v11 v12 v13 v14 v15 h.2 (by omega) (by omega) hs hto).mono ?_
      rintro e w' ⟨rfl, hE⟩
      exact ⟨rfl, h.ext hE, .of_ext hE⟩
    | some y =>
      obtain ⟨h0, h5, g, a', cap', h2, h3, h4⟩ := h
      have hW : WaAt w g y.1 y.2 a' cap' := ⟨h3, h4.row, h5⟩
      by_cases hh : cameHit num (some y) m = true
      · obtain ⟨hn, hl⟩ := of_decide_eq_true hh
        rw [hh, if_pos rfl]
        refine (came_yes w c g id num y.1 y.2 a' cap' m v8 v9 v10 v11 v12 v13 v14 v15 h2 hW (by omega) (by omega) hs hto hn hl).mono ?_
        rintro e w' ⟨rfl, h6, hO⟩
        exact ⟨rfl, ⟨h0, h6⟩, hO⟩
      · have hh2 : cameHit num (some y) m = false := by simpa using hh
        have hd := of_decide_eq_false hh2
        rw [hh2, if_neg (by decide)]
        refine (came_no w c g id num y.1 y.2 a' cap' m v8 v9 v10 v11 v12 v13 v14 v15 h2 hW (by omega) (by omega) hs hto (by by_cases hq : m.num = (num : Int); exact .inr (fun hl => hd ⟨hq, hl⟩); exact .inl hq)).mono ?_
        rintro e w' ⟨rfl, hE⟩
        exact ⟨rfl, CHalf.ext (s := some y) ⟨h0, h5, g, a', cap', h2, h3, h4⟩ hE, .of_ext hE⟩
  · have ht2 : cameTo id m = false := by simpa using ht
    have hd := of_decide_eq_false ht2
    rw [ht2, if_neg (by decide), Bool.false_and, if_neg (by decide)]
    obtain ⟨p, hp⟩ := h.cl
    by_cases hs : m.say = 2
    · refine (came_arg2 m v8 v9 v10 v11 v12 v13 v14 v15 hp (by omega) (by omega) hs (fun h => hd ⟨hs, h⟩)).mono ?_
      rintro e w' ⟨rfl, hE⟩
      exact ⟨rfl, h.ext hE, .of_ext hE⟩
    · refine (came_arg1 m v8 v9 v10 v11 v12 v13 v14 v15 hp (by omega) (by omega) hs).mono ?_
      rintro e w' ⟨rfl, hE⟩
      exact ⟨rfl, h.ext hE, .of_ext hE⟩
theorem r_came (h : RHalf w0 w r id num s) (h1 : 1 ≤ id) (h8 : id ≤ 8) (m : Mg) (v8 v9 v10 v11 v12 v13 v14 v15 : Value) : Calls Tryz.prog 21 #[.pointer (some ⟨r, 0, none⟩), .agg (m.row v8 v9 v10 v11 v12 v13 v14 v15)] w fun e w' => e = .returned (.tuple #[.bool (cameB id num s m), .int .i64 (cameE id m)]) ∧ RHalf w0 w' r id num (cameS id num s m) ∧ OffB (fun k => k = r) w w' := by
  unfold cameS cameE cameB
  by_cases ht : cameTo id m = true
  · obtain ⟨hs, hto⟩ := of_decide_eq_true ht
    rw [ht, if_pos rfl, Bool.true_and]
    cases s with
    | none =>
      obtain ⟨h0, x, v, lv, h2⟩ := h
      refine (rcame_idle m v8 v9 v10 v11 v12 v13 v14 v15 h2 (by omega) (by omega) hs hto).mono ?_
      rintro e w' ⟨rfl, hE⟩
      exact ⟨rfl, ⟨h0, x, v, lv, h2.ext hE⟩, .of_ext hE⟩
    | some y =>
      obtain ⟨h0, a', cap', h2, h3⟩ := h
      by_cases hh : cameHit num (some y) m = true
      · obtain ⟨hn, hl⟩ := of_decide_eq_true hh
        rw [hh, if_pos rfl]
        refine (rcame_yes m v8 v9 v10 v11 v12 v13 v14 v15 h2 (by omega) (by omega) hs hto hn hl).mono ?_
        rintro e w' ⟨rfl, h6, hO⟩
        exact ⟨rfl, ⟨h0, _, _, _, h6⟩, hO⟩
      · have hh2 : cameHit num (some y) m = false := by simpa using hh
        have hd := of_decide_eq_false hh2
        rw [hh2, if_neg (by decide)]
        by_cases hq : m.num = (num : Int)
        · refine (rcame_lv m v8 v9 v10 v11 v12 v13 v14 v15 h2 (by omega) (by omega) hs hto hq (fun hl => hd ⟨hq, hl⟩)).mono ?_
          rintro e w' ⟨rfl, hE⟩
          exact ⟨rfl, RHalf.ext (s := some y) ⟨h0, a', cap', h2, h3⟩ hE, .of_ext hE⟩
        · refine (rcame_num m v8 v9 v10 v11 v12 v13 v14 v15 h2 (by omega) (by omega) hs hto hq).mono ?_
          rintro e w' ⟨rfl, hE⟩
          exact ⟨rfl, RHalf.ext (s := some y) ⟨h0, a', cap', h2, h3⟩ hE, .of_ext hE⟩
  · have ht2 : cameTo id m = false := by simpa using ht
    have hd := of_decide_eq_false ht2
    rw [ht2, if_neg (by decide), Bool.false_and, if_neg (by decide)]
    obtain ⟨wt, x0, v0, lv0, hp⟩ := h.rc
    by_cases hs : m.say = 2
    · refine (rcame_arg2 m v8 v9 v10 v11 v12 v13 v14 v15 hp (by omega) (by omega) hs (fun h => hd ⟨hs, h⟩)).mono ?_
      rintro e w' ⟨rfl, hE⟩
      exact ⟨rfl, h.ext hE, .of_ext hE⟩
    · refine (rcame_arg1 m v8 v9 v10 v11 v12 v13 v14 v15 hp (by omega) (by omega) hs).mono ?_
      rintro e w' ⟨rfl, hE⟩
      exact ⟨rfl, h.ext hE, .of_ext hE⟩
theorem c_sends1 {x : Ak} {lv : Int} (h : CHalf w0 w c id num (some (x, lv))) (h1 : 1 ≤ id) (h8 : id ≤ 8) (tt : Int) : Calls Tryz.prog 13 #[.pointer (some ⟨c, 0, none⟩), .int .u8 tt] w (Sends id num lv tt x w) := by
  obtain ⟨h0, h5, g, a', cap', h2, h3, h4⟩ := h
  exact sends_waits w c g id num tt x lv a' cap' h2 ⟨h3, h4.row, h5⟩ (by omega) (by omega)
theorem r_sends1 {x : Ak} {lv : Int} (h : RHalf w0 w r id num (some (x, lv))) (h1 : 1 ≤ id) (h8 : id ≤ 8) (tt : Int) : Calls Tryz.prog 15 #[.pointer (some ⟨r, 0, none⟩), .int .u8 tt] w fun e w' => ∃ g a cap, e = .returned (.slice (some ⟨g, 0, none⟩) 1 1) ∧ SentR g id num lv tt x (.slice a x.chs.length cap) w' ∧ ChsAt w0 x.chs a cap ∧ Ext w w' := by
  obtain ⟨h0, a', cap', h2, h3⟩ := h
  refine (rsends_waits h2 (by omega) (by omega)).mono ?_
  rintro e w' ⟨g, he, hS, hE⟩
  exact ⟨g, a', cap', he, hS, h3, hE⟩
theorem c_sends0 (h : CHalf w0 w c id num none) (h1 : 1 ≤ id) (tt : Int) : Calls Tryz.prog 13 #[.pointer (some ⟨c, 0, none⟩), .int .u8 tt] w fun e w' => e = .returned (.slice none 0 0) ∧ Ext w w' := by
  refine (sends_idle w c id num tt h.2 (by omega)).mono ?_
  rintro e w' ⟨rfl, rfl⟩
  exact ⟨rfl, Ext.refl _⟩
theorem r_sends0 (h : RHalf w0 w r id num none) (tt : Int) : Calls Tryz.prog 15 #[.pointer (some ⟨r, 0, none⟩), .int .u8 tt] w fun e w' => e = .returned (.slice none 0 0) ∧ Ext w w' := by
  obtain ⟨h0, x, v, lv, h2⟩ := h
  exact rsends_idle h2
end
end Go.Proofs.YtmopjmhapeinjaaGreatDoor
