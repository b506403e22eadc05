import Derived.Test.YtdkhcamckjidcaaSuf4
import Derived.Test.YtdkhcamckjidcaaKit4
import Derived.Deep.Cut
namespace Go.Proofs.Ytdkhcamckjidcaa
open Go.RowKit
set_option maxRecDepth 100000 in
set_option maxHeartbeats 1000000 in
theorem from_none (w : World) (b f m : Nat) (R : Nat → List Value) (h : SufAt w b f m R) (hm : m ≤ 256) (hf : f + m < 18446744073709551615) (i : Nat) (hi : i < f ∨ f + m < i) :
    Calls Try.prog 14 #[.pointer (some ⟨b, 0, none⟩), .int .u64 (i : Int)] w fun e w' => e = .returned (.tuple #[.slice none 0 0, .int .i64 7]) ∧ Ext w w' := by
  have c3 := h.c3
  have c0 := h.c0
  by_cases h1 : i < f
  · have h2 : (i : Int) < (f : Int) := by omega
    go_enter Try.func14, Try.ntmps14
    go_wp2_with fail
    go_ret2
    exact ⟨rfl, Ext.refl _⟩
  · have h2 : ¬ (i : Int) < (f : Int) := by omega
    have h3 : (f : Int) + (m : Int) < (i : Int) := by omega
    go_enter Try.func14, Try.ntmps14
    go_wp2_with fail
    refine (last_any w b f m R h hm (by omega)).mono ?_
    rintro e w' ⟨rfl, rfl⟩
    go_wp2
    go_ret2
    exact ⟨rfl, (Ext.refl _).drew⟩
theorem wpList_store_it {ops : Array Oper} {rest : List Oper} {o : Oper} {a : Act} {Q : Exit → Act → World → Prop} (hgd : o.guard = none) (p y : Operand) (ho : o.op = .store 34 p y) (w : World) (x : It) (ad : Option Addr) (n c : Nat)
    (hx : a.eval p = .pointer (some ⟨w.heap.size, 0, none⟩)) (hy : a.eval y = .agg (x.row (.slice ad n c))) (h : wpList Try.prog ops Q rest (a.put o.dst undef) (w.alloc (.cells (x.row (.slice ad n c)) 34))) :
    wpList Try.prog ops Q (o :: rest) a (w.alloc (.cells #[.int .u64 0, .int .u8 0, .int .u32 0, .int .u8 0, .string ⟨#[]⟩, .string ⟨#[]⟩, .string ⟨#[]⟩, .bool false, .string ⟨#[]⟩, .int .i64 0, .slice none 0 0] 34)) :=
  wpList_store_whole hgd 34 p y ho w _ (x.row (.slice ad n c)) w.heap.size hx rfl hy info34 rfl (row_one _ _ _ _) h
theorem run_bs23 (x : It) (v : Value) (w : World) : (Instr.buildSlice 23 1 #[(0, .agg (x.row v))]).run Try.prog w = .ok (.slice (some ⟨w.heap.size, 0, none⟩) 1 1) (w.alloc (.cells (x.row v) 34)) := by kernel_rfl
theorem wpList_bs23 {ops : Array Oper} {rest : List Oper} {o : Oper} {a : Act} {Q : Exit → Act → World → Prop} {w : World} (hgd : o.guard = none) (y : Operand) (ho : o.op = .buildSlice 23 1 #[(0, y)]) (x : It) (v : Value) (hy : a.eval y = .agg (x.row v))
    (h : wpList Try.prog ops Q rest (a.put o.dst (.slice (some ⟨w.heap.size, 0, none⟩) 1 1)) (w.alloc (.cells (x.row v) 34))) : wpList Try.prog ops Q (o :: rest) a w := by
  refine wpList_plain hgd fun K hK => ?_
  unfold Oper.wp execOp
  simp only [ho, hy, List.map_toArray, List.map_cons, List.map_nil, Sem.run_bind, Result.andThen_ok, run_bs23, Sem.run_pure]
  exact hK _ _ h
/-- An item, its changes in memory that B leaves alone. -/
def Held (B : Nat → Prop) (w : World) (x : It) (r : List Value) : Prop := ∃ a cap, r = (x.row (.slice a x.chs.length cap)).toList ∧ x.chs.length ≤ cap ∧ x.chs.length * 40 ≤ 140737488351232 ∧ RowIs w 3 (.slice a x.chs.length cap) x.chs.length (x.chs.flatMap Ch.cells) ∧ Out B (.slice a x.chs.length cap)
theorem Held.off {B : Nat → Prop} {w w' : World} {x : It} {r : List Value} (h : Held B w x r) (he : OffB B w w') : Held B w' x r := by
  obtain ⟨a, cap, h1, h2, h3, h4, h5⟩ := h
  exact ⟨a, cap, h1, h2, h3, h4.off h5 he, h5⟩
/-- What was told: the item, and where its changes lie. -/
def outRow (p : It × Option Addr × Nat) : List Value := (p.1.row (.slice p.2.1 p.1.chs.length p.1.chs.length)).toList
def Own (w : World) (base : Nat) (out : Value) (p : It × Option Addr × Nat) : Prop :=
  w.ownsRow base 77 3 (.slice p.2.1 p.1.chs.length p.2.2) p.1.chs.length (p.1.chs.flatMap Ch.cells) ∧ Sep out (.slice p.2.1 p.1.chs.length p.2.2)
theorem own_ext {w w' : World} {base : Nat} {e : TypeId} {size : Nat} {v : Value} {n : Nat} {xs : List Value} (h : w.ownsRow base e size v n xs) (he : Ext w w') : w'.ownsRow base e size v n xs :=
  h.kept (row := none) ⟨Below.os he, Below.tape he, Below.output he, Below.size he, fun k hk _ => Below.block he k hk⟩ (by cases v.ownBlock <;> simp)
theorem own_mono {w : World} {base base' : Nat} {e : TypeId} {size : Nat} {v : Value} {n : Nat} {xs : List Value} (h : w.ownsRow base e size v n xs) (hb : base' ≤ base) : w.ownsRow base' e size v n xs := by
  refine ⟨h.1, ?_⟩
  rcases h.2 with hn | ⟨g, cap, cur, h1, h2, rest⟩
  · exact .inl hn
  · exact .inr ⟨g, cap, cur, h1, Nat.le_trans hb h2, rest⟩
theorem RowIs.clip {w : World} {size : Nat} {a : Option Addr} {cap n : Nat} {xs : List Value} (h : RowIs w size (.slice a n cap) n xs) : RowIs w size (.slice a n n) n xs := by
  obtain ⟨h1, h2, ⟨h0, a', cap', he, hz⟩ | ⟨b, off, cap', he, hc, hd⟩⟩ := h
  · exact ⟨h1, h2, .inl ⟨h0, a, n, by rw [h0], fun _ => h0⟩⟩
  · injection he with e1 _ e3
    subst e1
    exact ⟨h1, h2, .inr ⟨b, off, n, rfl, Nat.le_refl _, hd⟩⟩
set_option maxRecDepth 100000 in
set_option maxHeartbeats 2000000 in
theorem from_ok (w : World) (b f m : Nat) (R : Nat → List Value) (h : SufAt w b f m R) (hm : m ≤ 256) (hf : f + m < 18446744073709551615) (i : Nat) (hi : f ≤ i) (him : i ≤ f + m) (g : Nat → It) (hH : ∀ k, f < k → k ≤ f + m → Held (fun k => k = b) w (g k) (R (k % 256))) :
    Calls Try.prog 14 #[.pointer (some ⟨b, 0, none⟩), .int .u64 (i : Int)] w fun e w' => ∃ (a : Option Addr) (L : List (It × Option Addr × Nat)), e = .returned (.tuple #[.slice a L.length L.length, .int .i64 0]) ∧ L.map (·.1) = (List.range (f + m - i)).map (fun d => g (i + d + 1)) ∧
      RowIs w' 11 (.slice a L.length L.length) L.length (L.flatMap outRow) ∧ Fresh w.heap.size a ∧ (∀ p ∈ L, RowIs w' 3 (.slice p.2.1 p.1.chs.length p.1.chs.length) p.1.chs.length (p.1.chs.flatMap Ch.cells) ∧ Fresh w.heap.size p.2.1) ∧ Ext w w' := by
  have c3 := h.c3
  have c0 := h.c0
  have h2 : ¬ (i : Int) < (f : Int) := by omega
  have h3 : ¬ (f : Int) + (m : Int) < (i : Int) := by omega
  go_enter Try.func14, Try.ntmps14
  go_wp2_with fail
  refine (last_any w b f m R h hm (by omega)).mono ?_
  rintro e w' ⟨rfl, rfl⟩
  clear c3 c0 h2 h3
  go_wp2
  go_loopw [4, 7] (fun out n wr => ∃ (k : Nat) (L : List (It × Option Addr × Nat)), n = .int .u64 (i + k : Nat) ∧ i + k ≤ f + m ∧ L.length = k ∧ L.map (·.1) = (List.range k).map (fun d => g (i + d + 1)) ∧ wr.ownsRow w.heap.size 34 11 out k (L.flatMap outRow) ∧ (∀ p ∈ L, Own wr w.heap.size out p) ∧ Ext w wr) (fun _ n _ => f + m - (intOf n).toNat)
  case atStart => exact ⟨0, [], rfl, by omega, rfl, rfl, World.ownsRow_nil _ _ _ _, by simp, (Ext.refl _).drew⟩
  case round =>
    obtain ⟨k, L, rfl, hk, hL, hmap, hown, hp, hE⟩ := hrel
    have hS : SufAt wr b f m R := h.off (B := fun _ => False) (.of_ext hE) id
    by_cases hlt : i + k < f + m
    · have q1 : ((i + k : Nat) : Int) < (f : Int) + (m : Int) := by omega
      have q2 : IntKind.u64.wrap (((i + k : Nat) : Int) + 1) = ((i + k + 1 : Nat) : Int) := by rw [IntWalk.u64_in _ (by omega)]; simp
      obtain ⟨xv, xcap, hxr, hxc, hxb, hxR, hxo⟩ := hH (i + k + 1) (by omega) (by omega)
      have hm1 : (i + k + 1) % 256 < 256 := Nat.mod_lt _ (by decide)
      have hkb : k < 256 := by omega
      generalize hik : i + k = ik at *
      have hik' := Lib.hid hik
      clear hik
      generalize hx : g (ik + 1) = x at *
      have hx' := Lib.hid hx
      clear hx
      go_wp2_with fail
      refine (last_any wr b f m R hS hm (by omega)).mono ?_
      rintro e w' ⟨rfl, rfl⟩
      go_wp2_with fail
      obtain ⟨W1, hW1⟩ : ∃ W1, W1 = wr.drew := ⟨_, rfl⟩
      have hS1 : SufAt W1 b f m R := by rw [hW1]; exact hS.off (B := fun _ => False) (.of_ext (Ext.refl _).drew) id
      have hE1 : Ext wr W1 := by rw [hW1]; exact (Ext.refl _).drew
      rw [← hW1]
      clear hW1
      refine (at_any' W1 b (ik + 1) _ (by simp)).mono ?_
      rintro e w' ⟨rfl, rfl⟩
      have hrg := (hS1.ring _ hm1).2
      rw [hxr] at hrg
      generalize (ik + 1) % 256 = j at *
      go_wp2_with (first | (refine wpList_load_mid (by rfl) 34 (.tmp 45) (by rfl) b (2 + j * 11) (by rfl) (x.row (.slice xv x.chs.length xcap)).toList _ hrg Try.underlying34 rfl (by rw [row34]; exact info34) ?_) | (refine wpList_store_it (by rfl) (.tmp 8) (.tmp 46) (by rfl) w' x xv x.chs.length xcap (by rfl) (by rfl) ?_; go_loud (obtain ⟨W2, hW2⟩ : ∃ W2, W2 = w'.alloc (.cells (x.row (.slice xv x.chs.length xcap)) 34) := ⟨_, rfl⟩; have hb2 : W2.heap[w'.heap.size]? = some (.cells (x.row (.slice xv x.chs.length xcap)) 34 (0, 0)) := (congrArg (fun z => z.heap[w'.heap.size]?) hW2).trans (heap_alloc_new _ _); have k10 := (row_cells hb2).2.2.2.2.2.2.2.2.2.2; have hE2 : Ext w' W2 := hW2 ▸ (Ext.refl _).alloc _; rw [← hW2]; clear hW2)) | fail)
      have hxR2 := hxR.ext (hE.trans (hE1.trans hE2))
      generalize hn : x.chs.length = n at *
      have hn' := Lib.hid hn
      clear hn
      refine (clone_any W2 xv n xcap _ hxR2 (ch_one _) hxb).mono ?_
      rintro e W3 ⟨v', rfl, hown3, hE3⟩
      obtain ⟨a', cap', rfl, hcap⟩ := own_slice hown3
      have k10' := hE3.cell k10
      have hb3 := hE3.row hb2
      have fz : W3.frozen? ⟨w'.heap.size, 10, none⟩ = false := by unfold World.frozen?; rw [hb3]; simp
      go_wp2_with fail
      refine (clip30_any W3 a' n cap' hcap).mono ?_
      rintro e W4 ⟨rfl, rfl⟩
      have hb4 : (W4.setCell ⟨w'.heap.size, 10, none⟩ (.slice a' n n)).heap[w'.heap.size]? = some (.cells (x.row (.slice a' n n)) 34 (0, 0)) := by
        rw [setCell_eq_setRow _ _ _ _ _ _ _ hb3, setRow_heap _ _ _ _ _ _ hb3, row_set]
      have hrg4 : (W4.setCell ⟨w'.heap.size, 10, none⟩ (.slice a' n n)).rangeAt w'.heap.size 0 (x.row (.slice a' n n)).toList := fun r v hv => by
        rw [Nat.zero_add, cell_of_row _ _ r _ 34 (0, 0) hb4, ← hv]; simp
      obtain ⟨W5, hW5⟩ : ∃ W5, W5 = W4.setCell ⟨w'.heap.size, 10, none⟩ (.slice a' n n) := ⟨_, rfl⟩
      have hE5 : Ext w' W5 := by
        rw [hW5]
        exact Ext.setCell (hE2.trans hE3) (p := ⟨w'.heap.size, 10, none⟩) (Nat.le_refl _) _
      rw [← hW5] at hb4
      rw [← hW5] at hrg4
      have hW5' := Lib.hid hW5
      clear hW5
      go_upto_region 11 with fail
      have hW5 := hW5'.out
      rw [← hW5]
      clear hW5 hxr hrg k10 k10' fz hb3
      refine wp_region_lit ?_
      refine wpList_plain rfl (fun K hK => ?_)
      go_simp
      refine hK _ _ ?_
      clear hK K
      refine wpList_load_mid rfl 34 (.tmp 8) rfl w'.heap.size 0 rfl (x.row (.slice a' n n)).toList _ hrg4 Try.underlying34 rfl (by rw [row34]; exact info34) ?_
      clear hrg4
      refine wpList_bs23 rfl (.tmp 55) rfl x (.slice a' n n) rfl ?_
      have hown5 : W5.ownsRow w.heap.size 34 11 u4 k (L.flatMap outRow) := own_ext hown (hE1.trans hE5)
      refine wpList_append_sep rfl (.tmp 54) (.tmp 56) 23 34 rfl Try.underlying23 el34 W5 w.heap.size k _ u4 rfl hown5 (x.row (.slice a' n n)) rfl rfl (fun u hu => Array.all_eq_true_iff_forall_mem.1 (row_one x a' n n) u (by simpa using hu)) (by omega) (by omega) (hE.trans (hE1.trans hE5)).size ?_
      intro v' w6 hown6 hbel hkeep
      go_wp2_with fail
      have hs42 : wr.heap.size ≤ W2.heap.size := (hE1.trans hE2).size
      have hlt2 : w'.heap.size < W2.heap.size := (Array.getElem?_eq_some_iff.1 hb2).1
      have hown5' : W5.ownsRow W2.heap.size 77 3 (.slice a' n cap') n (x.chs.flatMap Ch.cells) := by
        rw [hW5'.out]; exact ownsRow_setCell_below hown3 hlt2 _
      have hsep : Sep u4 (.slice a' n cap') := fun q hq hq2 => by
        have z1 := (hown.lt q hq).2
        have z2 := (hown5'.lt q hq2).1
        omega
      have hnn := hn'.out
      have hii := hik'.out
      have hxx := hx'.out
      go_roundw
      case rel =>
        refine ⟨k + 1, L ++ [(x, a', cap')], ?_, by omega, by simp [hL], ?_, ?_, ?_, Below.trans (hE.trans (hE1.trans hE5)) hbel⟩
        · congr 1; rw [← hii]; simp; omega
        · rw [List.map_append, hmap, List.range_succ, List.map_append]
          simp only [List.map_cons, List.map_nil]
          rw [← hxx, ← hii]
        · rw [List.flatMap_append]
          have : [(x, a', cap')].flatMap outRow = (x.row (.slice a' n n)).toList := by simp [outRow, hnn]
          rw [this]; exact hown6
        · intro p hpL
          rcases List.mem_append.1 hpL with hpL | hpL
          · exact hkeep _ _ _ _ _ _ (own_ext (hp p hpL).1 (hE1.trans hE5)) (hp p hpL).2
          · simp at hpL
            subst hpL
            simp only [Own, hnn]
            exact hkeep _ _ _ _ _ _ (own_mono hown5' (Nat.le_trans hE.size hs42)) hsep
      case measure => simp [intOf]; omega
    · have q1 : ¬ ((i + k : Nat) : Int) < (f : Int) + (m : Int) := by omega
      obtain ⟨a, cap, rfl, hcap⟩ := own_slice hown
      have hE' := hE
      go_wp2_with fail
      refine (last_any wr b f m R hS hm (by omega)).mono ?_
      rintro e w' ⟨rfl, rfl⟩
      go_wp2_with fail
      refine (clip23_any wr.drew a k cap hcap).mono ?_
      rintro e w' ⟨rfl, rfl⟩
      go_wp2
      go_ret2
      have hkk : f + m - i = k := by omega
      refine ⟨a, L, by rw [hL]; rfl, by rw [hkk]; exact hmap, ?_, Fresh.of_own hown, fun p hpL => ⟨?_, Fresh.of_own (hp p hpL).1⟩, hE.drew⟩
      · rw [hL]; exact ((RowIs.of_own hown).clip).ext (Ext.refl _).drew
      · exact ((RowIs.of_own (hp p hpL).1).clip).ext (Ext.refl _).drew
end Go.Proofs.Ytdkhcamckjidcaa
