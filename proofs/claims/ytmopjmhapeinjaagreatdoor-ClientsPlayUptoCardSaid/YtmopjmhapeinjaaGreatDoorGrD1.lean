/- Several texts in one: Bb3 Rc0. No condition. -/
import Derived.Test.YtmopjmhapeinjaaGreatDoorGrD0
import Derived.Test.YtmopjmhapeinjaaGreatDoorCli4
import Derived.Test.YtmopjmhapeinjaaGreatDoorGrA8
/- A message's twin, and what a client sends, with all lists in it, are kept in a book. No condition. -/
namespace Go.Proofs.YtmopjmhapeinjaaGreatDoor
open Go.RowKit
set_option maxRecDepth 100000
set_option maxHeartbeats 4000000
theorem twI_ask {it it' : List It} (h : it'.map It.bare = it.map It.bare) {B : Nat} (hb : ∀ y ∈ it, y.ask.chs.length ≤ B) : ∀ y ∈ it', y.ask.chs.length ≤ B := fun y hy => by
  have h1 : y.bare ∈ it.map It.bare := by rw [← h]; exact List.mem_map_of_mem hy
  obtain ⟨z, hz, he⟩ := List.mem_map.1 h1
  have h2 := hb z hz
  have h3 : z.ask = y.ask := by have := congrArg It.ask he; exact this
  rw [← h3]; exact h2
theorem twS_rows {sa sa' : List Sa} (h : sa'.map Sa.bare = sa.map Sa.bare) {B : Nat} (hb : ∀ y ∈ sa, y.rows.length ≤ B) : ∀ y ∈ sa', y.rows.length ≤ B := fun y hy => by
  have h1 : y.bare ∈ sa.map Sa.bare := by rw [← h]; exact List.mem_map_of_mem hy
  obtain ⟨z, hz, he⟩ := List.mem_map.1 h1
  have h2 := hb z hz
  have h3 : z.rows = y.rows := by have := congrArg Sa.rows he; exact this
  rw [← h3]; exact h2
theorem TwM.msO {w : World} {base : Nat} {x : Ms} {it' : List It} {sa' : List Sa} {b8 d8 b9 d9 bI dI bR dR bS dS bY dY : Nat} (h : TwM w base x it' sa' b8 d8 b9 d9 bI dI bR dR bS dS bY dY) : MsO w base x ⟨some ⟨b8, 0, none⟩, d8, some ⟨b9, 0, none⟩, d9, some ⟨bI, 0, none⟩, dI, some ⟨bR, 0, none⟩, dR, some ⟨bS, 0, none⟩, dS, some ⟨bY, 0, none⟩, dY⟩ it' sa' := by
  have hl : x.it.length = it'.length := by have := congrArg List.length h.itb; rw [List.length_map, List.length_map] at this; exact this.symm
  have hs : x.sa.length = sa'.length := by have := congrArg List.length h.sab; rw [List.length_map, List.length_map] at this; exact this.symm
  refine ⟨TwY.own h.ch rfl, TwN.own h.ha rfl, TwI.own h.it hl, hl, h.it.2.1.own, h.it.2.2, TwR.own h.ro rfl, TwS.own h.sa hs, hs, h.sa.2.1.own, h.sa.2.2, TwR.own h.rr rfl, fun q hq he => ?_, fun q hq => ?_⟩
  · injection hq with hq
    injection he with he
    exact h.sep.1 (by have hq : bR = q := hq; have he : bY = q := he; omega)
  · obtain ⟨p, hp, hb⟩ := hq
    have h1 := h.sep.2 p hp q hb
    exact ⟨fun he => by injection he with he; exact h1.1 (by have he : bR = q := he; omega), fun he => by injection he with he; exact h1.2 (by have he : bY = q := he; omega)⟩
/-- All blocks of a message's lists came behind base. -/
theorem MsO.blk {w : World} {base : Nat} {x : Ms} {p : Ml} {it : List It} {sa : List Sa} (h : MsO w base x p it sa) {q : Nat} (hq : blkM x p it sa q) : base ≤ q ∧ q < w.heap.size := by
  rcases hq with hq | hq | hq | hq | hq | hq
  · exact h.ch.lt q hq
  · exact h.ha.lt q hq
  · rcases hq with hq | ⟨y, hy, hb⟩
    · exact h.it.lt q hq
    · exact (h.ito y hy).lt q hb
  · exact h.ro.lt q hq
  · rcases hq with hq | ⟨y, hy, hb⟩
    · exact h.sa.lt q hq
    · exact (h.sao y hy).lt q hb
  · exact h.rr.lt q hq
theorem MsO.weak {w : World} {base base' : Nat} {x : Ms} {p : Ml} {it : List It} {sa : List Sa} (h : MsO w base' x p it sa) (hb : base ≤ base') : MsO w base x p it sa :=
  ⟨h.ch.weak hb, h.ha.weak hb, h.it.weak hb, h.itn, fun p hp => (h.ito p hp).weak hb, h.its, h.ro.weak hb, h.sa.weak hb, h.san, fun p hp => (h.sao p hp).weak hb, h.sas, h.rr.weak hb, h.sep1, h.sep2⟩
theorem own_one {w : World} {g base : Nat} {cs : Array Value} {e : TypeId} (h : w.heap[g]? = some (.cells cs e (0, 0))) (hb : base ≤ g) : OwnC w base e cs.size (.slice (some ⟨g, 0, none⟩) 1 1) 1 cs.toList :=
  ⟨by simp, .inr ⟨g, 1, cs, rfl, hb, h, Nat.le_refl _, by unfold maxLen; omega, by omega, by rw [Nat.one_mul, ← Array.length_toList, List.take_length]⟩⟩
/-- The item, the message that is sent. -/
def sIt (id num : Nat) (x : Ak) (a : Option Addr) : It := ⟨0, id, num, x, .slice a x.chs.length x.chs.length⟩
def sMs (id num : Nat) (lv tt : Int) (x : Ak) (a : Option Addr) : Ms := ⟨⟨1, 16 + (id : Int), tt, 0, lv, (num : Int), 0, 0⟩, [], [], [sIt id num x a], [], [], 0, false, []⟩
def sMl (gi : Nat) : Ml := ⟨none, 0, none, 0, some ⟨gi, 0, none⟩, 1, none, 0, none, 0, none, 0⟩
theorem sMs_few (id num : Nat) (lv tt : Int) (x : Ak) (a : Option Addr) (h : x.chs.length ≤ 50000) : (sMs id num lv tt x a).few :=
  ⟨Nat.zero_le _, Nat.zero_le _, (by show 1 ≤ 50000; omega), fun y hy => by rw [List.mem_singleton.1 hy]; exact h, Nat.zero_le _, Nat.zero_le _, (fun _ hy => nomatch hy), Nat.zero_le _⟩
theorem sMs_arr (id num : Nat) (lv tt : Int) (x : Ak) (a : Option Addr) (gi : Nat) : (sMs id num lv tt x a).arr (sMl gi) = msgRow id tt lv num (.slice (some ⟨gi, 0, none⟩) 1 1) := rfl
theorem SentAt.msO {w : World} {base g id num : Nat} {lv tt : Int} {x : Ak} (h : SentAt base g id num lv tt x w) : ∃ gi a, w.heap[g]? = some (.cells (msgRow id tt lv num (.slice (some ⟨gi, 0, none⟩) 1 1)) 63 (0, 0)) ∧ base ≤ g ∧ MsO w base (sMs id num lv tt x a) (sMl gi) [sIt id num x a] [] ∧ RowIs w 11 (.slice (some ⟨gi, 0, none⟩) 1 1) 1 (itemRow id num x (.slice a x.chs.length x.chs.length)).toList ∧ RowIs w 3 (.slice a x.chs.length x.chs.length) x.chs.length (x.chs.flatMap Ch.cells) := by
  obtain ⟨gi, a, h1, h2, h3, h4, h5, _, h6⟩ := h
  have ho := own_one h2 h5
  refine ⟨gi, a, h1, h4, ⟨OwnC.nil _ _ _ _, OwnC.nil _ _ _ _, ?_, rfl, fun p hp => ?_, List.pairwise_singleton .., OwnC.nil _ _ _ _, OwnC.nil _ _ _ _, rfl, (fun _ hp => nomatch hp), .nil, OwnC.nil _ _ _ _, (fun q hq => by cases hq), fun q hq => ?_⟩, ho.row, h3.1⟩
  · exact ho
  · rw [List.mem_singleton.1 hp]; exact h6
  · obtain ⟨p, hp, _⟩ := hq; cases hp
section
variable {K : Nat → Prop} {w0 w w' : World} {g n : Nat}
theorem pb_msgs0 {K' : Nat → Prop} (h : PlayB K w0 g n w) (hKK : ∀ k, K' k → K k) (hn : n < 700000) : Calls Tryz.prog 16 #[.pointer (some ⟨g, 0, none⟩), .slice none 0 0] w (KeptB K' w0 g (n + 1) w) := by
  have hcall := Lib.hid (fun W (hE : Ext w W) => pb_kmsg (K' := K') (h.ext hE) hKK (by omega) none 0 0 [] (OwnC.nil _ _ _ _) (by omega) (fun q hq => by cases hq) (fun q _ hq => by cases hq))
  clear h hKK
  go_enter Tryz.func16, Tryz.ntmps16
  go_wp2_with fail
  go_loopw [4] (fun i wr => i = .int .i64 0 ∧ Ext w wr) (fun _ _ => 0)
  case atStart => exact ⟨rfl, Ext.refl _⟩
  case round =>
    obtain ⟨rfl, hE⟩ := hrel
    go_wp2_with fail
    refine (hcall.out wr hE).mono ?_
    rintro e w2 ⟨rfl, hP2, hO2⟩
    have hP2' := Lib.hid hP2
    have hO2' := Lib.hid hO2
    clear hP2 hO2 hcall
    go_wp2_with fail
    go_end0
    exact ⟨rfl, hP2'.out, mutG_ext hE hO2'.out⟩
theorem pb_msgs1 {K' : Nat → Prop} (h : PlayB K w0 g n w) (hKK : ∀ k, K' k → K k) (x : Ms) (p : Ml) (it : List It) (sa : List Sa) (hM : MsO w w0.heap.size x p it sa) (hf : x.few) (hl : x.it.length ≤ 3000) (hls : x.sa.length ≤ 3000) (hli : ∀ y ∈ it, y.ask.chs.length ≤ 1000000) (hlr : ∀ y ∈ sa, y.rows.length ≤ 1000000) (hn : n < 600000) (b : Nat) (hb : w.heap[b]? = some (.cells (x.arr p) 63 (0, 0))) (hbb : w0.heap.size ≤ b) (hK : ∀ q, blkM x p it sa q → K q) (hKb : K b) (hKn : ∀ q, K' q → ¬ blkM x p it sa q ∧ q ≠ b) : Calls Tryz.prog 16 #[.pointer (some ⟨g, 0, none⟩), .slice (some ⟨b, 0, none⟩) 1 1] w (KeptB K' w0 g (n + x.it.length + x.sa.length + 6 + 1) w) := by
  obtain ⟨N, hN⟩ : ∃ N : Nat, N = 1 := ⟨_, rfl⟩
  have hown : OwnC w w0.heap.size 63 16 (.slice (some ⟨b, 0, none⟩) 1 1) 1 (x.arr p).toList := own_one hb hbb
  have hbK : ∀ q, blkM x p it sa q → q ≠ b := fun q hq he => by
    subst he
    have hne : ∀ {b2 : Nat} {e2 : TypeId} {z2 n2 : Nat} {v2 : Value} {x2 : List Value}, OwnC w b2 e2 z2 v2 n2 x2 → 63 ≠ e2 → v2.ownBlock ≠ some q := fun h2 hne => own_ne hown h2 hne rfl
    rcases hq with hq | hq | hq | hq | hq | hq
    · exact hne hM.ch (by decide) hq
    · exact hne hM.ha (by decide) hq
    · rcases hq with hq | ⟨y, hy, hq⟩
      · exact hne hM.it (by decide) hq
      · exact hne (hM.ito y hy) (by decide) hq
    · exact hne hM.ro (by decide) hq
    · rcases hq with hq | ⟨y, hy, hq⟩
      · exact hne hM.sa (by decide) hq
      · exact hne (hM.sao y hy) (by decide) hq
    · exact hne hM.rr (by decide) hq
  have c1 := Lib.hid (pb_msg (K' := fun q => K' q ∨ q = b) h (fun q hq => by rcases hq with hq | rfl; exact hKK q hq; exact hKb) x p it sa hM hf hl hls hli hlr (by omega) hK (fun q hq hm => by
    rcases hq with hq | hq
    · exact (hKn q hq).1 hm
    · exact hbK q hm hq))
  have c2 := Lib.hid (fun W (hO : OffB (mutG w0.heap.size w) w W) (hP : PlayB (fun q => K' q ∨ q = b) w0 g (n + x.it.length + x.sa.length + 6) W) => pb_kmsg (K' := K') hP (fun q hq => .inl hq) (by omega) (some ⟨b, 0, none⟩) 1 1 _ (mg_own hO hown nob_msg) (by omega) (fun q hq => .inr (by injection hq with hq; exact hq.symm)) (fun q hq he => (hKn q hq).2 (by injection he with he; exact he.symm)))
  have hrow := Lib.hid hb
  have hrg : w.rangeAt b 0 (x.arr p).toList := fun r v hv => by
    rw [Nat.zero_add, cell_of_row _ _ r _ 63 (0, 0) hb, ← hv]; simp
  clear h hKK hM hf hl hls hli hlr hb hbb hK hKb hKn hown hbK
  generalize n + x.it.length + x.sa.length + 6 = n1 at *
  obtain ⟨R, hR⟩ : ∃ R, R = x.arr p := ⟨_, rfl⟩
  rw [← hR] at c1 hrg
  have hR16 : R.size = 16 := by rw [hR]; rfl
  have hR' := Lib.hid hR16
  clear hR hrow hR16
  rw [← hN] at c2 ⊢
  have hN' := Lib.hid hN
  have hN1 : N ≤ 1 := by omega
  have hN0 : 1 ≤ N := by omega
  clear hN
  go_enter Tryz.func16, Tryz.ntmps16
  go_wp2_with fail
  go_loopw [4] (fun i wr => ∃ k : Nat, k ≤ N ∧ i = .int .i64 k ∧ (k = 0 → Hid (wr = w)) ∧ (k ≠ 0 → Hid (PlayB (fun q => K' q ∨ q = b) w0 g n1 wr ∧ OffB (mutG w0.heap.size w) w wr))) (fun i _ => N - (intOf i).toNat)
  case atStart => exact ⟨0, by omega, rfl, fun _ => Lib.hid rfl, fun h => (h rfl).elim⟩
  case round =>
    obtain ⟨k, hk, rfl, h0, h1⟩ := hrel
    by_cases hlt : k < N
    · have hli : (k : Int) < (N : Int) := by omega
      obtain rfl : wr = w := (h0 (by omega)).out
      have hrg2 : wr.rangeAt b (0 + k * 16) R.toList := by
        rw [show k = 0 by omega, Nat.zero_mul]; exact hrg
      have hrg3 : wr.rangeAt b (k * 16) R.toList := by rw [Nat.zero_add] at hrg2; exact hrg2
      clear h0 h1 hrg
      go_wp2_with (first | (refine wpList_load_mid (by rfl) 63 (.tmp 14) (by rfl) b (k * 16) (by rfl) R.toList _ hrg3 Tryz.underlying63 rfl (by rw [Array.length_toList, hR'.out]; exact info_msg) ?_) | fail)
      refine c1.out.mono ?_
      rintro e w2 ⟨rfl, hP2, hO2⟩
      have hP2' := Lib.hid (And.intro hP2 hO2)
      clear hP2 hO2 c1
      go_wp2_with fail
      go_roundw
      case rel => exact ⟨k + 1, by omega, by go_num, fun h => absurd h (by omega), fun _ => hP2'⟩
      case measure => simp [intOf]; omega
    · have hli : ¬ (k : Int) < (N : Int) := by omega
      have hP := h1 (by omega)
      have c3 := Lib.hid (c2.out wr hP.out.2 hP.out.1)
      clear h0 h1 c1 c2 hrg
      go_wp2_with fail
      refine c3.out.mono ?_
      rintro e w2 ⟨rfl, hP2, hO2⟩
      have hP2' := Lib.hid hP2
      have hO2' := Lib.hid (mutG_trans hP.out.2 hO2)
      clear hP2 hO2 c3
      go_wp2_with fail
      go_end0
      exact ⟨rfl, hP2'.out, hO2'.out⟩
end
end Go.Proofs.YtmopjmhapeinjaaGreatDoor

/- The document's client: its block; New, Drops, Waits, Came. No condition. -/
namespace Go.Proofs.YtmopjmhapeinjaaGreatDoor
open Go.RowKit
set_option maxRecDepth 100000
set_option maxHeartbeats 2000000
def rcRow (id num : Int) (wt : Bool) (x : Ak) (v : Value) (lv : Int) : Array Value := #[.int .u8 id, .int .u32 num, .bool wt, .int .u8 x.kind, .string x.key, .string x.val, .string x.old, .bool x.new, .string x.to, .int .i64 x.many, v, .int .u8 lv]
def RcAt (w : World) (c : Nat) (id num : Int) (wt : Bool) (x : Ak) (v : Value) (lv : Int) : Prop := w.heap[c]? = some (.cells (rcRow id num wt x v lv) 89 (0, 0))
theorem RcAt.ext {w w' : World} {c : Nat} {id num lv : Int} {wt : Bool} {x : Ak} {v : Value} (h : RcAt w c id num wt x v lv) (he : Ext w w') : RcAt w' c id num wt x v lv := he.row h
theorem RcAt.cells {w : World} {c : Nat} {id num lv : Int} {wt : Bool} {x : Ak} {v : Value} (h : RcAt w c id num wt x v lv) :
    w.cell? ⟨c, 0, none⟩ = some (.int .u8 id) ∧ w.cell? ⟨c, 1, none⟩ = some (.int .u32 num) ∧ w.cell? ⟨c, 2, none⟩ = some (.bool wt) ∧ w.cell? ⟨c, 11, none⟩ = some (.int .u8 lv) ∧ w.rangeAt c 3 (x.row v).toList ∧ ∀ o, w.frozen? ⟨c, o, none⟩ = false := by
  refine ⟨?_, ?_, ?_, ?_, fun j u hu => ?_, fun o => ?_⟩
  any_goals (rw [cell_of_row _ _ _ _ 89 (0, 0) h]; rfl)
  · have hj : j < 8 := (List.getElem?_eq_some_iff.1 hu).1
    rw [cell_of_row _ _ _ _ 89 (0, 0) h, ← hu]
    obtain rfl | rfl | rfl | rfl | rfl | rfl | rfl | rfl : j = 0 ∨ j = 1 ∨ j = 2 ∨ j = 3 ∨ j = 4 ∨ j = 5 ∨ j = 6 ∨ j = 7 := by omega
    all_goals rfl
  · unfold World.frozen?; rw [h]; simp
theorem RcAt.put {w : World} {c : Nat} {id num lv : Int} {wt : Bool} {x : Ak} {v : Value} (h : RcAt w c id num wt x v lv) (k : Nat) (u : Value) {num' lv' : Int} {wt' : Bool} (hb : (rcRow id num wt x v lv).setIfInBounds k u = rcRow id num' wt' x v lv') : RcAt (w.setCell ⟨c, k, none⟩ u) c id num' wt' x v lv' := by
  unfold RcAt at h ⊢
  rw [setCell_eq_setRow _ _ _ _ _ _ _ h, setRow_heap _ _ _ _ _ _ h, hb]
def zAk : Ak := ⟨0, ⟨#[]⟩, ⟨#[]⟩, ⟨#[]⟩, false, ⟨#[]⟩, 0, []⟩
theorem rnew_ok (w : World) (id : Int) (h1 : 1 ≤ id) (h2 : id ≤ 8) : Calls Tryz.prog 7 #[.int .u8 id] w fun e w' => e = .returned (.tuple #[.pointer (some ⟨w.heap.size, 0, none⟩), .int .i64 0]) ∧ RcAt w' w.heap.size id 0 false zAk (.slice none 0 0) 0 ∧ Ext w w' := by
  have h3 : ¬ id < 1 := by omega
  have h4 : ¬ 8 < id := by omega
  go_enter Tryz.func7, Tryz.ntmps7
  go_wp2_with fail
  go_ret2
  exact ⟨rfl, heap_alloc_new w _, (Ext.refl _).alloc _⟩
theorem rnew_arg (w : World) (id : Int) (h : id < 1 ∨ 8 < id) : Calls Tryz.prog 7 #[.int .u8 id] w fun e w' => e = .returned (.tuple #[.pointer none, .int .i64 1]) ∧ Ext w w' := by
  rcases h with h | h
  · go_enter Tryz.func7, Tryz.ntmps7
    go_wp2_with fail
    go_ret2
    exact ⟨rfl, Ext.refl _⟩
  · have h3 : ¬ id < 1 := by omega
    go_enter Tryz.func7, Tryz.ntmps7
    go_wp2_with fail
    go_ret2
    exact ⟨rfl, Ext.refl _⟩
section
variable {w : World} {c : Nat} {id num lv : Int} {x : Ak} {v : Value}
theorem rdrops_idle (h : RcAt w c id num false x v lv) : Calls Tryz.prog 18 #[.pointer (some ⟨c, 0, none⟩)] w fun e w' => e = .returned (.int .i64 9) ∧ Ext w w' := by
  obtain ⟨c0, c1, c2, c11, _, cf⟩ := h.cells
  go_enter Tryz.func18, Tryz.ntmps18
  go_wp2_with fail
  go_ret
  exact ⟨rfl, Ext.refl _⟩
theorem rdrops_waits (h : RcAt w c id num true x v lv) : Calls Tryz.prog 18 #[.pointer (some ⟨c, 0, none⟩)] w fun e w' => e = .returned (.int .i64 0) ∧ RcAt w' c id num false x v lv ∧ OffB (fun k => k = c) w w' := by
  obtain ⟨c0, c1, c2, c11, _, cf⟩ := h.cells
  have cf2 := cf 2
  have hp := h.put 2 (.bool false) (num' := num) (wt' := false) (lv' := lv) rfl
  have ho : OffB (fun k => k = c) w (w.setCell ⟨c, 2, none⟩ (.bool false)) := OffB.setCell (B := fun k => k = c) (OffB.refl w) rfl _
  clear cf h
  go_enter Tryz.func18, Tryz.ntmps18
  go_wp2_with fail
  go_ret
  exact ⟨rfl, hp, ho⟩
theorem rwaits_any (wt : Bool) (h : RcAt w c id num wt x v lv) : Calls Tryz.prog 25 #[.pointer (some ⟨c, 0, none⟩)] w fun e w' => e = .returned (.tuple #[.int .u32 (if wt then num else 0), .bool wt]) ∧ Ext w w' := by
  obtain ⟨c0, c1, c2, c11, _, cf⟩ := h.cells
  clear h cf
  cases wt
  · go_enter Tryz.func25, Tryz.ntmps25
    go_wp2_with fail
    go_ret2
    exact ⟨rfl, Ext.refl _⟩
  · go_enter Tryz.func25, Tryz.ntmps25
    go_wp2_with fail
    go_ret2
    exact ⟨rfl, Ext.refl _⟩
end
end Go.Proofs.YtmopjmhapeinjaaGreatDoor
