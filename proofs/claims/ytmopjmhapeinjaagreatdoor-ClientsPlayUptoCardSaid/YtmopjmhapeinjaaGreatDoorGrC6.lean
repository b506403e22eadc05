/- Several texts in one: BkKMsg BkZ. No condition. -/
import Derived.Test.YtmopjmhapeinjaaGreatDoorGrB5
import Derived.Deep.RegionLaw
import Derived.Deep.CutRange
import Derived.Test.YtmopjmhapeinjaaGreatDoorGrC4
import Derived.Test.YtmopjmhapeinjaaGreatDoorGrC5
/- keepMsg: a list more is kept. No condition. -/
namespace Go.Proofs.YtmopjmhapeinjaaGreatDoor
open Go.RowKit
set_option maxRecDepth 100000
set_option maxHeartbeats 4000000
theorem el_heldMsg : ElemIs Tryz.prog 131 3 56 := by
  refine ElemIs.mk (z := .agg #[.slice none 0 0, .slice none 0 0, .int .i64 0]) (by kernel_rfl) (by rfl) (by decide)
theorem keepMsg_any {base N0 g n : Nat} {T : Nat → Kd} {st : Nat → Nat} {w : World} (h : BkI bkT base N0 g n T st w) (h0 : ∀ j, st j = 0) (hn : n < 1000000) (hm : (T 12).2.length ≤ 1000000) (a : Option Addr) (len cap : Nat) (hx : ∃ xs, OwnC w base (bkT.et 12) (bkT.z 12) (.slice a len cap) len xs) (hxl : len ≤ 1000000) (hxg : (Value.slice a len cap).ownBlock ≠ some g) (hxf : ∀ j q, (Value.slice a len cap).ownBlock = some q → ¬ FP (T j) q) :
    Calls Tryz.prog 37 #[.pointer (some ⟨g, 0, none⟩), .slice a len cap] w fun e w' => e = .returned (.tuple #[]) ∧ Below base w w' ∧ OffB (fun q => q = g ∨ (T 12).1.ownBlock = some q) w w' ∧ ∃ v', (∀ q, v'.ownBlock = some q → (T 12).1.ownBlock = some q ∨ w.heap.size ≤ q) ∧ BkI bkT base w'.heap.size g (n + 1) (upd T 12 (v', (T 12).2 ++ [⟨.slice a len cap, len, n + 1, .slice none 0 0⟩])) st w' := by
  obtain ⟨hv, hhv⟩ : ∃ v, v = (T 12).1 := ⟨_, rfl⟩
  obtain ⟨hs, hhs⟩ : ∃ v, v = (T 12).2 := ⟨_, rfl⟩
  obtain ⟨W1, hW1⟩ : ∃ W, W = w.setCell ⟨g, 0, none⟩ (.int .i64 ((n + 1 : Nat) : Int)) := ⟨_, rfl⟩
  have hgw : g < w.heap.size := (Array.getElem?_eq_some_iff.1 h.row).1
  have c0 : w.cell? ⟨g, 0, none⟩ = some (.int .i64 (n : Int)) := by rw [cell_of_row _ _ _ _ _ _ h.row]; rfl
  have z0 : w.frozen? ⟨g, 0, none⟩ = false := by unfold World.frozen?; rw [h.row]; simp
  have hr1 : W1.heap[g]? = some (.cells (bkRow (n + 1) T) 46 (0, 0)) := by
    rw [hW1, setCell_eq_setRow _ _ _ _ _ _ _ h.row, setRow_heap _ _ _ _ _ _ h.row]
    rfl
  have hO1 : OffB (fun q => q = g ∨ hv.ownBlock = some q) w W1 := by rw [hW1]; exact (OffB.refl w).setCell (p := ⟨g, 0, none⟩) (.inl rfl) _
  have hown : OwnC w base 131 3 hv hs.length (hs.flatMap Hd.cs) := by have := h.hdr 12; rw [← hhv, ← hhs] at this; exact this
  have hsepg : ∀ q, hv.ownBlock = some q → q ≠ g := fun q hq e => h.sepg 12 (.inl (by rw [← hhv, ← e]; exact hq))
  have hown1 : OwnC W1.drew base 131 3 hv hs.length (hs.flatMap Hd.cs) := by
    refine (hown.offB (B := fun q => q = g) (w' := W1) ?_ hsepg).ext (Ext.refl _).drew
    rw [hW1]; exact (OffB.refl (B := fun q => q = g) w).setCell (p := ⟨g, 0, none⟩) rfl _
  have hsz1 : W1.drew.heap.size = w.heap.size := by show W1.heap.size = _; rw [hW1]; simp
  have hbase : base ≤ W1.drew.heap.size := by rw [hsz1]; have := h.gb; omega
  have hcell : ∀ (w' : World), w'.heap[g]? = some (.cells (bkRow (n + 1) T) 46 (0, 0)) → w'.cell? ⟨g, 0, none⟩ = some (.int .i64 ((n + 1 : Nat) : Int)) ∧ w'.cell? ⟨g, 12, none⟩ = some hv ∧ w'.frozen? ⟨g, 12, none⟩ = false := fun w' hw' => by
    refine ⟨by rw [cell_of_row _ _ _ _ _ _ hw']; rfl, by rw [cell_of_row _ _ _ _ _ _ hw', hhv]; rfl, ?_⟩
    unfold World.frozen?; rw [hw']; simp
  obtain ⟨ca0, ca1, _⟩ := hcell W1.drew hr1
  have hlit := fun o => hcell (W1.drew.alloc o) (((Ext.refl _).alloc _).row (show W1.drew.heap[g]? = _ from hr1))
  obtain ⟨cb0, cb1, _⟩ := hlit (.cells #[.slice a len cap, .slice none 0 0, .int .i64 ((n + 1 : Nat) : Int)] 131)
  have cc0 : (W1.alloc (.cells #[.slice a len cap, .slice none 0 0, .int .i64 ((n + 1 : Nat) : Int)] 131)).drew.cell? ⟨g, 0, none⟩ = _ := cb0
  have cc1 : (W1.alloc (.cells #[.slice a len cap, .slice none 0 0, .int .i64 ((n + 1 : Nat) : Int)] 131)).drew.cell? ⟨g, 12, none⟩ = _ := cb1
  have hfin : Hid (∀ v' w6, AppK W1.drew w6 base 131 3 hv v' hs.length (hs.flatMap Hd.cs) [.slice a len cap, .slice none 0 0, .int .i64 ((n + 1 : Nat) : Int)] → w6.cell? ⟨g, 12, none⟩ = some hv ∧ w6.frozen? ⟨g, 12, none⟩ = false ∧ Hid (Below base w (w6.setCell ⟨g, 12, none⟩ v') ∧ OffB (fun q => q = g ∨ (T 12).1.ownBlock = some q) w (w6.setCell ⟨g, 12, none⟩ v') ∧ (∀ q, v'.ownBlock = some q → (T 12).1.ownBlock = some q ∨ w.heap.size ≤ q) ∧ BkI bkT base (w6.setCell ⟨g, 12, none⟩ v').heap.size g (n + 1) (upd T 12 (v', (T 12).2 ++ [⟨.slice a len cap, len, n + 1, .slice none 0 0⟩])) st (w6.setCell ⟨g, 12, none⟩ v'))) := Lib.hid (fun v' w6 hA => by
    have hO6 : OffB (fun q => q = g ∨ hv.ownBlock = some q) w w6 := hO1.trans (OffB.trans (.of_ext (Ext.refl _).drew) (hA.off.mono fun q hq => .inr hq))
    have hg6 : w6.heap[g]? = some (.cells (bkRow (n + 1) T) 46 (0, 0)) := (hA.off.block g (by rw [hsz1]; exact hgw) (fun e => hsepg g e rfl)).trans hr1
    obtain ⟨_, d1, d2⟩ := hcell w6 hg6
    have hO7 : OffB (fun q => q = g ∨ hv.ownBlock = some q) w (w6.setCell ⟨g, 12, none⟩ v') := hO6.setCell (p := ⟨g, 12, none⟩) (.inl rfl) _
    have hvq : ∀ q, v'.ownBlock = some q → q ≠ g := fun q hq e => by
      rcases hA.at_ q hq with h1 | h1
      · exact hsepg q h1 e
      · rw [hsz1] at h1; omega
    have hva : ∀ q, v'.ownBlock = some q → (T 12).1.ownBlock = some q ∨ w.heap.size ≤ q := fun q hq => by
      rw [← hhv]
      rcases hA.at_ q hq with h1 | h1
      · exact .inl h1
      · rw [hsz1] at h1; exact .inr h1
    refine ⟨d1, d2, Lib.hid ⟨hO7.below (fun q hq => ?_) (by rw [← hsz1]; exact hbase), by rw [← hhv]; exact hO7, hva, h.kept 12 h0 v' ⟨.slice a len cap, len, n + 1, .slice none 0 0⟩ ?_ (by rw [← hhv]; exact hO7) ?_ hva ⟨hx, rfl⟩ hxl hxg hxf⟩⟩
    · rcases hq with rfl | hq
      · exact h.gb
      · exact (hown.lt q hq).1
    · rw [setCell_eq_setRow _ _ _ _ _ _ _ hg6, setRow_heap _ _ _ _ _ _ hg6]
      rfl
    · have h1 : OwnC w6 base 131 3 v' (hs.length + 1) (hs.flatMap Hd.cs ++ [.slice a len cap, .slice none 0 0, .int .i64 ((n + 1 : Nat) : Int)]) := hA.own
      rw [← hhs, List.flatMap_append]
      refine h1.offB (B := fun q => q = g) ((OffB.refl (B := fun q => q = g) w6).setCell (p := ⟨g, 12, none⟩) rfl _) hvq)
  have hml : hs.length ≤ 1000000 := by rw [hhs]; exact hm
  obtain ⟨m, hmm⟩ : ∃ m, m = hs.length := ⟨_, rfl⟩
  obtain ⟨xs, hxs⟩ : ∃ xs, xs = hs.flatMap Hd.cs := ⟨_, rfl⟩
  rw [← hmm] at hml hown1 hfin
  rw [← hxs] at hown1 hfin
  have hown1' := Lib.hid hown1
  have hW1' := Lib.hid hW1
  have hn1 : IntKind.i64.wrap ((n : Int) + 1) = (n : Int) + 1 := by rw [IntKind.wrap_i64]; omega
  have e1 : ((n + 1 : Nat) : Int) = (n : Int) + 1 := by omega
  rw [e1] at ca0 cb0 cb1 cc0 cc1
  clear h h0 hm hx hxl hxg hxf hhv hhs hgw hr1 hO1 hown hsepg hown1 hcell hlit hW1 hmm hxs hsz1
  go_enter Tryz.func37, Tryz.ntmps37
  go_upto_region 1 with fail
  rw [show w.setCell ⟨g, 0, none⟩ (.int .i64 ((n : Int) + 1)) = W1 by rw [hW1'.out, e1]]
  clear c0 z0 hn1
  go_region_law (first | ((refine step_append_k rfl (.tmp 15) (.tmp 22) 43 131 rfl Tryz.underlying43 el_heldMsg W1.drew base m xs hv (by rfl) hown1'.out #[.slice a len cap, .slice none 0 0, .int .i64 ((n : Int) + 1)] (by rfl) (by rfl) (by simp [Value.oneCell']) (by omega) (by omega) hbase ?_); (intro v' w6 hA; obtain ⟨oa4, oc4, rfl, _⟩ := hA.own.form; obtain ⟨hc6, hz6, hfin6⟩ := hfin.out _ w6 (by rw [e1]; exact hA); clear hA)) | fail)
  all_goals
    go_end0
    exact ⟨rfl, hfin6.out.1, hfin6.out.2.1, _, hfin6.out.2.2⟩
end Go.Proofs.YtmopjmhapeinjaaGreatDoor

/- A book, with the zone that is its own: begun, kept in, asked; lists may be made behind it. No condition. -/
namespace Go.Proofs.YtmopjmhapeinjaaGreatDoor
open Go.RowKit
set_option maxRecDepth 100000
set_option maxHeartbeats 2000000
def bkIn (j : Nat) : Prop := j = 1 ∨ j = 3 ∨ j = 6 ∨ j = 7 ∨ j = 10 ∨ j = 11 ∨ j = 12
/-- A book that keeps n lists; Z: the blocks that are its own. -/
def BkZ (base g n : Nat) (w : World) (Z : Nat → Prop) : Prop := ∃ T N0, BkI bkT base N0 g n T (fun _ => 0) w ∧ (∀ k, Z k ↔ k = g ∨ ∃ j, FP (T j) k) ∧ (∀ j, ¬ bkIn j → (T j).1 = .slice none 0 0) ∧ (∀ j x, x ∈ (T j).2 → x.num ≤ n) ∧ ∀ j, (T j).2.length ≤ n
theorem BkI.off0 {base N0 g n : Nat} {T : Nat → Kd} {w w' : World} {B : Nat → Prop} (h : BkI bkT base N0 g n T (fun _ => 0) w) (hO : OffB B w w') (hb : ∀ q, B q → base ≤ q) (hZ : ∀ q, B q → ¬ (q = g ∨ ∃ j, FP (T j) q)) : BkI bkT base N0 g n T (fun _ => 0) w' := by
  refine ⟨?_, h.gb, h.gN, Nat.le_trans h.big hO.size, h.fpN, fun j => (h.hdr j).offB hO (fun q hq hB => hZ q hB (.inr ⟨j, .inl hq⟩)), fun j x hx => ?_, h.sepg, h.seph, h.sepl, h.sepx, fun W hW => h.tab W (Below.trans (hO.below hb h.base_le) hW)⟩
  · exact (hO.block g (Array.getElem?_eq_some_iff.1 h.row).1 (fun hB => hZ g hB (.inl rfl))).trans h.row
  · obtain ⟨⟨⟨ys, ky⟩, kn⟩, k2⟩ := h.lst j x hx
    exact ⟨⟨⟨ys, ky.offB hO (fun q hq hB => hZ q hB (.inr ⟨j, .inr ⟨x.sl, List.mem_map_of_mem hx, hq⟩⟩))⟩, kn⟩, k2⟩
section
variable {base g n : Nat} {w w' : World} {Z : Nat → Prop}
theorem BkZ.off {B : Nat → Prop} (h : BkZ base g n w Z) (hO : OffB B w w') (hb : ∀ q, B q → base ≤ q) (hZ : ∀ q, B q → ¬ Z q) : BkZ base g n w' Z := by
  obtain ⟨T, N0, h1, h2, h3⟩ := h
  exact ⟨T, N0, h1.off0 hO hb (fun q hq hz => hZ q hq ((h2 q).2 hz)), h2, h3⟩
theorem BkZ.ext (h : BkZ base g n w Z) (hE : Ext w w') : BkZ base g n w' Z := by
  obtain ⟨T, N0, h1, h2⟩ := h
  exact ⟨T, N0, h1.ext hE, h2⟩
theorem BkZ.base_le (h : BkZ base g n w Z) : base ≤ w.heap.size := by
  obtain ⟨T, N0, h1, _⟩ := h
  exact h1.base_le
theorem BkZ.ge (h : BkZ base g n w Z) {k : Nat} (hk : Z k) : base ≤ k := by
  obtain ⟨T, N0, h1, h2, _⟩ := h
  rcases (h2 k).1 hk with rfl | ⟨j, hj⟩
  · exact h1.gb
  · exact h1.fpb j k hj
theorem BkZ.lt (h : BkZ base g n w Z) {k : Nat} (hk : Z k) : k < w.heap.size := by
  obtain ⟨T, N0, h1, h2, _⟩ := h
  rcases (h2 k).1 hk with rfl | ⟨j, hj⟩
  · exact (Array.getElem?_eq_some_iff.1 h1.row).1
  · exact Nat.lt_of_lt_of_le (h1.fpN j k hj) h1.big
/-- A book's own block and those of its headers; all blocks of a book. -/
def bkOwn (t : TypeId) : Prop := t = 46 ∨ ∃ j, bkIn j ∧ t = bkT.ht j
def bkAny (t : TypeId) : Prop := bkOwn t ∨ ∃ j, bkIn j ∧ t = bkT.et j
def bkTyp (w : World) (q : Nat) : Prop := ∃ c t, w.heap[q]? = some (.cells c t (0, 0)) ∧ bkOwn t
theorem own_typ {w : World} {base : Nat} {e : TypeId} {z n : Nat} {v : Value} {xs : List Value} (h : OwnC w base e z v n xs) {q : Nat} (hq : v.ownBlock = some q) : ∃ c, w.heap[q]? = some (.cells c e (0, 0)) := by
  obtain ⟨_, ⟨e1, _⟩ | ⟨g, cap, cur, e1, _, h6, _⟩⟩ := h
  · rw [e1] at hq; cases hq
  · rw [e1] at hq
    injection hq with hq
    have hq : g = q := hq
    exact ⟨cur, by rw [← hq]; exact h6⟩
theorem BkZ.ty (h : BkZ base g n w Z) {k : Nat} (hk : Z k) : ∃ c t, w.heap[k]? = some (.cells c t (0, 0)) ∧ bkAny t := by
  obtain ⟨T, N0, h1, h2, h4, _, _⟩ := h
  have hno : ∀ j, ¬ bkIn j → ¬ FP (T j) k := fun j hj hF => by
    have h5 := h1.hdr j
    rw [h4 j hj] at h5
    rcases hF with h6 | ⟨v, h6, _⟩
    · rw [h4 j hj] at h6; cases h6
    · obtain ⟨x, hx, _⟩ := List.mem_map.1 h6
      obtain ⟨_, ⟨_, e1⟩ | ⟨g, cap, cur, e1, _⟩⟩ := h5
      · have := List.length_pos_of_mem hx; omega
      · cases e1
  rcases (h2 k).1 hk with rfl | ⟨j, hj⟩
  · exact ⟨_, _, h1.row, .inl (.inl rfl)⟩
  · by_cases hin : bkIn j
    · rcases hj with h6 | ⟨v, h6, h7⟩
      · obtain ⟨c, hc⟩ := own_typ (h1.hdr j) h6
        exact ⟨c, _, hc, .inl (.inr ⟨j, hin, rfl⟩)⟩
      · obtain ⟨x, hx, rfl⟩ := List.mem_map.1 h6
        obtain ⟨⟨⟨ys, ky⟩, _⟩, _⟩ := h1.lst j x hx
        obtain ⟨c, hc⟩ := own_typ ky h7
        exact ⟨c, _, hc, .inr ⟨j, hin, rfl⟩⟩
    · exact absurd hj (hno j hin)
/-- What turns blocks of other types alone leaves a book as it is. -/
theorem BkZ.offT {B : Nat → Prop} (h : BkZ base g n w Z) (hO : OffB B w w') (hb : ∀ q, B q → base ≤ q) (ht : ∀ q, B q → ∀ c t, w.heap[q]? = some (.cells c t (0, 0)) → ¬ bkAny t) : BkZ base g n w' Z :=
  h.off hO hb (fun q hq hz => by
    obtain ⟨c, t, h1, h2⟩ := h.ty hz
    exact ht q hq c t h1 h2)
theorem BkZ.start (hr : w.heap[g]? = some (.cells (bkRow 0 fun _ => (.slice none 0 0, [])) 46 (0, 0))) (hg : base ≤ g) (ht : ∀ W, Below base w W → TabW W) : BkZ base g 0 w (fun k => k = g) := by
  have hgw : g < w.heap.size := (Array.getElem?_eq_some_iff.1 hr).1
  have no : ∀ q, ¬ FP ((.slice none 0 0, []) : Kd) q := fun q hq => by
    rcases hq with h | ⟨v, h, _⟩
    · cases h
    · cases h
  have hB : BkI bkT base (g + 1) g 0 (fun _ => (.slice none 0 0, [])) (fun _ => 0) w := ⟨hr, hg, by omega, hgw, fun _ q hq => (no q hq).elim, fun _ => OwnC.nil _ _ _ _, (fun _ _ hx => nomatch hx), fun _ hq => no _ hq, (fun _ _ hv => nomatch hv), fun _ => .nil, fun _ _ _ q hq => (no q hq).elim, ht⟩
  refine ⟨_, _, hB, fun k => ⟨.inl, fun hk => ?_⟩, ?_, ?_, ?_⟩
  · rcases hk with h | ⟨j, h⟩
    · exact h
    · exact (no k h).elim
  · intro _ _; rfl
  · intro _ _ h; cases h
  · intro _; exact Nat.le_refl _
theorem bkz_kept {N1 : Nat} {T : Nat → Kd} (h2 : ∀ k, Z k ↔ k = g ∨ ∃ j, FP (T j) k) (h4 : ∀ j, ¬ bkIn j → (T j).1 = .slice none 0 0) (h5 : ∀ j x, x ∈ (T j).2 → x.num ≤ n) (h6 : ∀ j, (T j).2.length ≤ n) (i : Nat) (hi : bkIn i) (x v' : Value) (len : Nat) (hv : ∀ q, v'.ownBlock = some q → (T i).1.ownBlock = some q ∨ w.heap.size ≤ q) (hB : BkI bkT base N1 g (n + 1) (upd T i (v', (T i).2 ++ [⟨x, len, n + 1, .slice none 0 0⟩])) (fun _ => 0) w') : ∃ Z', BkZ base g (n + 1) w' Z' ∧ ∀ k, Z' k → Z k ∨ x.ownBlock = some k ∨ w.heap.size ≤ k := by
  refine ⟨_, ⟨_, _, hB, fun k => Iff.rfl, fun j hj => ?_, fun j y hy => ?_, fun j => ?_⟩, fun k hk => ?_⟩
  · rw [upd_ne _ _ (fun e => hj (by rw [e]; exact hi))]
    exact h4 j hj
  · by_cases hj : j = i
    · subst hj
      rw [upd_same] at hy
      rcases List.mem_append.1 hy with hy | hy
      · have := h5 j y hy; omega
      · rw [List.mem_singleton.1 hy]; exact Nat.le_refl _
    · rw [upd_ne _ _ hj] at hy
      have := h5 j y hy; omega
  · by_cases hj : j = i
    · subst hj
      rw [upd_same]
      rw [List.length_append]
      have := h6 j
      simp only [List.length_cons, List.length_nil]
      omega
    · rw [upd_ne _ _ hj]
      have := h6 j; omega
  · rcases hk with rfl | ⟨j, hk⟩
    · exact .inl ((h2 _).2 (.inl rfl))
    · by_cases hj : j = i
      · subst hj
        rw [upd_same] at hk
        rcases hk with hk | ⟨u, hu, hk⟩
        · rcases hv k hk with h | h
          · exact .inl ((h2 k).2 (.inr ⟨j, .inl h⟩))
          · exact .inr (.inr h)
        · unfold sls at hu
          rw [List.map_append] at hu
          rcases List.mem_append.1 hu with hu | hu
          · exact .inl ((h2 k).2 (.inr ⟨j, .inr ⟨u, hu, hk⟩⟩))
          · rw [List.mem_singleton.1 hu] at hk
            exact .inr (.inl hk)
      · rw [upd_ne _ _ hj] at hk
        exact .inl ((h2 k).2 (.inr ⟨j, hk⟩))
/-- A list is kept. -/
def BkZE (base g n : Nat) (x : Value) (Z : Nat → Prop) (w : World) (e : Ending) (w' : World) : Prop := e = .returned (.tuple #[]) ∧ Below base w w' ∧ OffB (fun q => Z q ∧ bkTyp w q) w w' ∧ ∃ Z', BkZ base g n w' Z' ∧ ∀ k, Z' k → Z k ∨ x.ownBlock = some k ∨ w.heap.size ≤ k
theorem keepzByte_any (h : BkZ base g n w Z) (hn : n < 900000) (a : Option Addr) (len cap : Nat) (xs : List Value) (hx : OwnC w base 5 1 (.slice a len cap) len xs) (hl : len ≤ 1000000) (hs : ∀ q, (Value.slice a len cap).ownBlock = some q → ¬ Z q) :
    Calls Tryz.prog 119 #[.pointer (some ⟨g, 0, none⟩), .slice a len cap] w (BkZE base g (n + 1) (.slice a len cap) Z w) := by
  obtain ⟨T, N0, h1, h2, h4, h5, h6⟩ := h
  have h8 : ∀ q, q = g ∨ (T 1).1.ownBlock = some q → Z q ∧ bkTyp w q := fun q hq => by
    rcases hq with rfl | hq
    · exact ⟨(h2 _).2 (.inl rfl), _, _, h1.row, .inl rfl⟩
    · obtain ⟨c, hc⟩ := own_typ (h1.hdr 1) hq
      exact ⟨(h2 _).2 (.inr ⟨1, .inl hq⟩), c, _, hc, .inr ⟨1, by unfold bkIn; decide, rfl⟩⟩
  refine (keepByte_any h1 (fun _ => rfl) (by omega) (by have := h6 1; omega) a len cap ⟨xs, hx⟩ hl (fun e => hs g e ((h2 g).2 (.inl rfl))) (fun j q hq hF => hs q hq ((h2 q).2 (.inr ⟨j, hF⟩)))).mono ?_
  rintro e w' ⟨he, hb, hO, v', hv, hB⟩
  exact ⟨he, hb, hO.mono fun q hq => h8 q hq, bkz_kept h2 h4 h5 h6 1 (by unfold bkIn; decide) _ v' len hv hB⟩
theorem bookzByte_any (h : BkZ base g n w Z) (hn : n < 900000) (a : Option Addr) (len cap : Nat) (xs : List Value) (hx : OwnC w base 5 1 (.slice a len cap) len xs) (hl : len ≤ 1000000) (hs : ∀ q, (Value.slice a len cap).ownBlock = some q → ¬ Z q) :
    Calls Tryz.prog 50 #[.pointer (some ⟨g, 0, none⟩), .slice a len cap] w (BkZE base g (n + 1) (.slice a len cap) Z w) := by
  have hk := Lib.hid (keepzByte_any h hn a len cap xs hx hl hs)
  clear h hx hs
  go_enter Tryz.func50, Tryz.ntmps50
  go_wp2_with fail
  refine hk.out.mono ?_
  rintro e w' ⟨rfl, h2⟩
  have h2' := Lib.hid h2
  clear hk h2
  go_wp2_with fail
  go_end0
  exact ⟨rfl, h2'.out⟩
theorem keepzNum_any (h : BkZ base g n w Z) (hn : n < 900000) (a : Option Addr) (len cap : Nat) (xs : List Value) (hx : OwnC w base 54 1 (.slice a len cap) len xs) (hl : len ≤ 1000000) (hs : ∀ q, (Value.slice a len cap).ownBlock = some q → ¬ Z q) :
    Calls Tryz.prog 120 #[.pointer (some ⟨g, 0, none⟩), .slice a len cap] w (BkZE base g (n + 1) (.slice a len cap) Z w) := by
  obtain ⟨T, N0, h1, h2, h4, h5, h6⟩ := h
  have h8 : ∀ q, q = g ∨ (T 3).1.ownBlock = some q → Z q ∧ bkTyp w q := fun q hq => by
    rcases hq with rfl | hq
    · exact ⟨(h2 _).2 (.inl rfl), _, _, h1.row, .inl rfl⟩
    · obtain ⟨c, hc⟩ := own_typ (h1.hdr 3) hq
      exact ⟨(h2 _).2 (.inr ⟨3, .inl hq⟩), c, _, hc, .inr ⟨3, by unfold bkIn; decide, rfl⟩⟩
  refine (keepNum_any h1 (fun _ => rfl) (by omega) (by have := h6 3; omega) a len cap ⟨xs, hx⟩ hl (fun e => hs g e ((h2 g).2 (.inl rfl))) (fun j q hq hF => hs q hq ((h2 q).2 (.inr ⟨j, hF⟩)))).mono ?_
  rintro e w' ⟨he, hb, hO, v', hv, hB⟩
  exact ⟨he, hb, hO.mono fun q hq => h8 q hq, bkz_kept h2 h4 h5 h6 3 (by unfold bkIn; decide) _ v' len hv hB⟩
theorem bookzNum_any (h : BkZ base g n w Z) (hn : n < 900000) (a : Option Addr) (len cap : Nat) (xs : List Value) (hx : OwnC w base 54 1 (.slice a len cap) len xs) (hl : len ≤ 1000000) (hs : ∀ q, (Value.slice a len cap).ownBlock = some q → ¬ Z q) :
    Calls Tryz.prog 51 #[.pointer (some ⟨g, 0, none⟩), .slice a len cap] w (BkZE base g (n + 1) (.slice a len cap) Z w) := by
  have hk := Lib.hid (keepzNum_any h hn a len cap xs hx hl hs)
  clear h hx hs
  go_enter Tryz.func51, Tryz.ntmps51
  go_wp2_with fail
  refine hk.out.mono ?_
  rintro e w' ⟨rfl, h2⟩
  have h2' := Lib.hid h2
  clear hk h2
  go_wp2_with fail
  go_end0
  exact ⟨rfl, h2'.out⟩
theorem keepzRow_any (h : BkZ base g n w Z) (hn : n < 900000) (a : Option Addr) (len cap : Nat) (xs : List Value) (hx : OwnC w base 134 2 (.slice a len cap) len xs) (hl : len ≤ 1000000) (hs : ∀ q, (Value.slice a len cap).ownBlock = some q → ¬ Z q) :
    Calls Tryz.prog 123 #[.pointer (some ⟨g, 0, none⟩), .slice a len cap] w (BkZE base g (n + 1) (.slice a len cap) Z w) := by
  obtain ⟨T, N0, h1, h2, h4, h5, h6⟩ := h
  have h8 : ∀ q, q = g ∨ (T 6).1.ownBlock = some q → Z q ∧ bkTyp w q := fun q hq => by
    rcases hq with rfl | hq
    · exact ⟨(h2 _).2 (.inl rfl), _, _, h1.row, .inl rfl⟩
    · obtain ⟨c, hc⟩ := own_typ (h1.hdr 6) hq
      exact ⟨(h2 _).2 (.inr ⟨6, .inl hq⟩), c, _, hc, .inr ⟨6, by unfold bkIn; decide, rfl⟩⟩
  refine (keepRow_any h1 (fun _ => rfl) (by omega) (by have := h6 6; omega) a len cap ⟨xs, hx⟩ hl (fun e => hs g e ((h2 g).2 (.inl rfl))) (fun j q hq hF => hs q hq ((h2 q).2 (.inr ⟨j, hF⟩)))).mono ?_
  rintro e w' ⟨he, hb, hO, v', hv, hB⟩
  exact ⟨he, hb, hO.mono fun q hq => h8 q hq, bkz_kept h2 h4 h5 h6 6 (by unfold bkIn; decide) _ v' len hv hB⟩
theorem bookzRow_any (h : BkZ base g n w Z) (hn : n < 900000) (a : Option Addr) (len cap : Nat) (xs : List Value) (hx : OwnC w base 134 2 (.slice a len cap) len xs) (hl : len ≤ 1000000) (hs : ∀ q, (Value.slice a len cap).ownBlock = some q → ¬ Z q) :
    Calls Tryz.prog 53 #[.pointer (some ⟨g, 0, none⟩), .slice a len cap] w (BkZE base g (n + 1) (.slice a len cap) Z w) := by
  have hk := Lib.hid (keepzRow_any h hn a len cap xs hx hl hs)
  clear h hx hs
  go_enter Tryz.func53, Tryz.ntmps53
  go_wp2_with fail
  refine hk.out.mono ?_
  rintro e w' ⟨rfl, h2⟩
  have h2' := Lib.hid h2
  clear hk h2
  go_wp2_with fail
  go_end0
  exact ⟨rfl, h2'.out⟩
theorem keepzChange_any (h : BkZ base g n w Z) (hn : n < 900000) (a : Option Addr) (len cap : Nat) (xs : List Value) (hx : OwnC w base 93 3 (.slice a len cap) len xs) (hl : len ≤ 1000000) (hs : ∀ q, (Value.slice a len cap).ownBlock = some q → ¬ Z q) :
    Calls Tryz.prog 108 #[.pointer (some ⟨g, 0, none⟩), .slice a len cap] w (BkZE base g (n + 1) (.slice a len cap) Z w) := by
  obtain ⟨T, N0, h1, h2, h4, h5, h6⟩ := h
  have h8 : ∀ q, q = g ∨ (T 7).1.ownBlock = some q → Z q ∧ bkTyp w q := fun q hq => by
    rcases hq with rfl | hq
    · exact ⟨(h2 _).2 (.inl rfl), _, _, h1.row, .inl rfl⟩
    · obtain ⟨c, hc⟩ := own_typ (h1.hdr 7) hq
      exact ⟨(h2 _).2 (.inr ⟨7, .inl hq⟩), c, _, hc, .inr ⟨7, by unfold bkIn; decide, rfl⟩⟩
  refine (keepChange_any h1 (fun _ => rfl) (by omega) (by have := h6 7; omega) a len cap ⟨xs, hx⟩ hl (fun e => hs g e ((h2 g).2 (.inl rfl))) (fun j q hq hF => hs q hq ((h2 q).2 (.inr ⟨j, hF⟩)))).mono ?_
  rintro e w' ⟨he, hb, hO, v', hv, hB⟩
  exact ⟨he, hb, hO.mono fun q hq => h8 q hq, bkz_kept h2 h4 h5 h6 7 (by unfold bkIn; decide) _ v' len hv hB⟩
theorem bookzChange_any (h : BkZ base g n w Z) (hn : n < 900000) (a : Option Addr) (len cap : Nat) (xs : List Value) (hx : OwnC w base 93 3 (.slice a len cap) len xs) (hl : len ≤ 1000000) (hs : ∀ q, (Value.slice a len cap).ownBlock = some q → ¬ Z q) :
    Calls Tryz.prog 34 #[.pointer (some ⟨g, 0, none⟩), .slice a len cap] w (BkZE base g (n + 1) (.slice a len cap) Z w) := by
  have hk := Lib.hid (keepzChange_any h hn a len cap xs hx hl hs)
  clear h hx hs
  go_enter Tryz.func34, Tryz.ntmps34
  go_wp2_with fail
  refine hk.out.mono ?_
  rintro e w' ⟨rfl, h2⟩
  have h2' := Lib.hid h2
  clear hk h2
  go_wp2_with fail
  go_end0
  exact ⟨rfl, h2'.out⟩
theorem keepzItem_any (h : BkZ base g n w Z) (hn : n < 900000) (a : Option Addr) (len cap : Nat) (xs : List Value) (hx : OwnC w base 100 11 (.slice a len cap) len xs) (hl : len ≤ 1000000) (hs : ∀ q, (Value.slice a len cap).ownBlock = some q → ¬ Z q) :
    Calls Tryz.prog 122 #[.pointer (some ⟨g, 0, none⟩), .slice a len cap] w (BkZE base g (n + 1) (.slice a len cap) Z w) := by
  obtain ⟨T, N0, h1, h2, h4, h5, h6⟩ := h
  have h8 : ∀ q, q = g ∨ (T 10).1.ownBlock = some q → Z q ∧ bkTyp w q := fun q hq => by
    rcases hq with rfl | hq
    · exact ⟨(h2 _).2 (.inl rfl), _, _, h1.row, .inl rfl⟩
    · obtain ⟨c, hc⟩ := own_typ (h1.hdr 10) hq
      exact ⟨(h2 _).2 (.inr ⟨10, .inl hq⟩), c, _, hc, .inr ⟨10, by unfold bkIn; decide, rfl⟩⟩
  refine (keepItem_any h1 (fun _ => rfl) (by omega) (by have := h6 10; omega) a len cap ⟨xs, hx⟩ hl (fun e => hs g e ((h2 g).2 (.inl rfl))) (fun j q hq hF => hs q hq ((h2 q).2 (.inr ⟨j, hF⟩)))).mono ?_
  rintro e w' ⟨he, hb, hO, v', hv, hB⟩
  exact ⟨he, hb, hO.mono fun q hq => h8 q hq, bkz_kept h2 h4 h5 h6 10 (by unfold bkIn; decide) _ v' len hv hB⟩
theorem keepzSaid_any (h : BkZ base g n w Z) (hn : n < 900000) (a : Option Addr) (len cap : Nat) (xs : List Value) (hx : OwnC w base 136 5 (.slice a len cap) len xs) (hl : len ≤ 1000000) (hs : ∀ q, (Value.slice a len cap).ownBlock = some q → ¬ Z q) :
    Calls Tryz.prog 125 #[.pointer (some ⟨g, 0, none⟩), .slice a len cap] w (BkZE base g (n + 1) (.slice a len cap) Z w) := by
  obtain ⟨T, N0, h1, h2, h4, h5, h6⟩ := h
  have h8 : ∀ q, q = g ∨ (T 11).1.ownBlock = some q → Z q ∧ bkTyp w q := fun q hq => by
    rcases hq with rfl | hq
    · exact ⟨(h2 _).2 (.inl rfl), _, _, h1.row, .inl rfl⟩
    · obtain ⟨c, hc⟩ := own_typ (h1.hdr 11) hq
      exact ⟨(h2 _).2 (.inr ⟨11, .inl hq⟩), c, _, hc, .inr ⟨11, by unfold bkIn; decide, rfl⟩⟩
  refine (keepSaid_any h1 (fun _ => rfl) (by omega) (by have := h6 11; omega) a len cap ⟨xs, hx⟩ hl (fun e => hs g e ((h2 g).2 (.inl rfl))) (fun j q hq hF => hs q hq ((h2 q).2 (.inr ⟨j, hF⟩)))).mono ?_
  rintro e w' ⟨he, hb, hO, v', hv, hB⟩
  exact ⟨he, hb, hO.mono fun q hq => h8 q hq, bkz_kept h2 h4 h5 h6 11 (by unfold bkIn; decide) _ v' len hv hB⟩
theorem keepzMsg_any (h : BkZ base g n w Z) (hn : n < 900000) (a : Option Addr) (len cap : Nat) (xs : List Value) (hx : OwnC w base 63 16 (.slice a len cap) len xs) (hl : len ≤ 1000000) (hs : ∀ q, (Value.slice a len cap).ownBlock = some q → ¬ Z q) :
    Calls Tryz.prog 37 #[.pointer (some ⟨g, 0, none⟩), .slice a len cap] w (BkZE base g (n + 1) (.slice a len cap) Z w) := by
  obtain ⟨T, N0, h1, h2, h4, h5, h6⟩ := h
  have h8 : ∀ q, q = g ∨ (T 12).1.ownBlock = some q → Z q ∧ bkTyp w q := fun q hq => by
    rcases hq with rfl | hq
    · exact ⟨(h2 _).2 (.inl rfl), _, _, h1.row, .inl rfl⟩
    · obtain ⟨c, hc⟩ := own_typ (h1.hdr 12) hq
      exact ⟨(h2 _).2 (.inr ⟨12, .inl hq⟩), c, _, hc, .inr ⟨12, by unfold bkIn; decide, rfl⟩⟩
  refine (keepMsg_any h1 (fun _ => rfl) (by omega) (by have := h6 12; omega) a len cap ⟨xs, hx⟩ hl (fun e => hs g e ((h2 g).2 (.inl rfl))) (fun j q hq hF => hs q hq ((h2 q).2 (.inr ⟨j, hF⟩)))).mono ?_
  rintro e w' ⟨he, hb, hO, v', hv, hB⟩
  exact ⟨he, hb, hO.mono fun q hq => h8 q hq, bkz_kept h2 h4 h5 h6 12 (by unfold bkIn; decide) _ v' len hv hB⟩
theorem bookzA_any (h : BkZ base g n w Z) (hn : n < numTop) : Calls Tryz.prog 26 #[.pointer (some ⟨g, 0, none⟩)] w fun e w' => e = .returned (.bool true) ∧ Below base w w' := by
  have h10 : numTop ≤ 1000000 := by decide
  obtain ⟨T, N0, h1, h2, h4, h5, h6⟩ := h
  exact apart_any h1 (fun j x hx => by have := h5 j x hx; omega) (fun j => by have := h6 j; omega) (h4 2 (by unfold bkIn; decide)) (h4 4 (by unfold bkIn; decide)) (h4 5 (by unfold bkIn; decide)) (h4 8 (by unfold bkIn; decide)) (h4 9 (by unfold bkIn; decide)) (h4 13 (by unfold bkIn; decide))
end
end Go.Proofs.YtmopjmhapeinjaaGreatDoor
