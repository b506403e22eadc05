import Derived.Test.YtdkhcamckjidcaaOff
import Derived.Test.YtdkhcamckjidcaaKit3
import Derived.Test.YtdkhcamckjidcaaRead
import Derived.Test.YtdkhcamckjidcaaChecked
namespace Go.Proofs.Ytdkhcamckjidcaa
open Go.RowKit
def zItem : List Value := [.int .u64 0, .int .u8 0, .int .u32 0, .int .u8 0, .string ⟨#[]⟩, .string ⟨#[]⟩, .string ⟨#[]⟩, .bool false, .string ⟨#[]⟩, .int .i64 0, .slice none 0 0]
def sufZero (x : Int) : Array Value := (.int .u64 x :: .int .i64 0 :: ((List.replicate 256 zItem).flatten ++ [.bool true])).toArray
theorem run_build74 (x : Int) (w : World) : (Instr.build 74 #[(0, .int .u64 x), (3, .bool true)]).run Try.prog w = .ok (.agg (sufZero x)) w := by kernel_rfl
theorem info34 : (Try.prog.info? 34).map (·.size) = some 11 := by kernel_rfl
theorem el34 : ElemIs Try.prog 34 11 128 := by
  refine ElemIs.mk (z := .agg #[.int .u64 0, .int .u8 0, .int .u32 0, .int .u8 0, .string ⟨#[]⟩, .string ⟨#[]⟩, .string ⟨#[]⟩, .bool false, .string ⟨#[]⟩, .int .i64 0, .slice none 0 0]) (by kernel_rfl) (by kernel_rfl) (by decide)
theorem el77 : ElemIs Try.prog 77 3 40 := by
  refine ElemIs.mk (z := .agg #[.string ⟨#[]⟩, .string ⟨#[]⟩, .bool false]) (by kernel_rfl) (by kernel_rfl) (by decide)

theorem wpList_build74 {ops : Array Oper} {rest : List Oper} {o : Oper} {a : Act} {Q : Exit → Act → World → Prop} {w : World} (hgd : o.guard = none) (x : Operand) (ho : o.op = .build 74 #[(0, x), (3, .const (.bool true))]) (i : Int) (hx : a.eval x = .int .u64 i)
    (h : wpList Try.prog ops Q rest (a.put o.dst (.agg (sufZero i))) w) : wpList Try.prog ops Q (o :: rest) a w := by
  refine wpList_plain hgd fun K hK => ?_
  have hc : a.eval (.const (.bool true)) = .bool true := rfl
  unfold Oper.wp execOp
  simp only [ho, hx, hc, List.map_toArray, List.map_cons, List.map_nil, Sem.run_bind, Result.andThen_ok, run_build74, Sem.run_pure]
  exact hK _ _ h

/-- A suffix's block. -/
structure SufAt (w : World) (b : Nat) (f m : Int) (R : Nat → List Value) : Prop where
  c0 : w.cell? ⟨b, 0, none⟩ = some (.int .u64 f)
  c1 : w.cell? ⟨b, 1, none⟩ = some (.int .i64 m)
  c3 : w.cell? ⟨b, 2818, none⟩ = some (.bool true)
  ring : ∀ j, j < 256 → (R j).length = 11 ∧ w.rangeAt b (2 + j * 11) (R j)
  free : ∀ o, w.frozen? ⟨b, o, none⟩ = false

def zRing : List Value := (List.replicate 256 ()).flatMap (fun _ => zItem)
theorem zRing_len : zRing.length = 2816 := by kernel_rfl
theorem sufZero_eq (x : Int) : sufZero x = (.int .u64 x :: .int .i64 0 :: (zRing ++ [.bool true])).toArray := by kernel_rfl
theorem zRing_at (j r : Nat) (hj : j < 256) (hr : r < 11) : zRing[j * 11 + r]? = zItem[r]? :=
  flatMap_at (fun (_ : Unit) => zItem) 11 (by decide) (fun _ => rfl) (List.replicate 256 ()) j () (by rw [List.getElem?_replicate, if_pos hj]) r hr _ rfl
theorem sufZero_at (x : Int) (j r : Nat) (hj : j < 256) (hr : r < 11) : (sufZero x)[2 + j * 11 + r]? = zItem[r]? := by
  rw [sufZero_eq, List.getElem?_toArray, show 2 + j * 11 + r = (j * 11 + r + 1) + 1 by omega, List.getElem?_cons_succ, List.getElem?_cons_succ, List.getElem?_append_left (by rw [zRing_len]; omega)]
  exact zRing_at j r hj hr
theorem sufZero_0 (x : Int) : (sufZero x)[0]? = some (.int .u64 x) := by
  rw [sufZero_eq, List.getElem?_toArray]
  exact List.getElem?_cons_zero
theorem sufZero_1 (x : Int) : (sufZero x)[1]? = some (.int .i64 0) := by
  rw [sufZero_eq, List.getElem?_toArray, List.getElem?_cons_succ, List.getElem?_cons_zero]
theorem sufZero_3 (x : Int) : (sufZero x)[2818]? = some (.bool true) := by
  rw [sufZero_eq, List.getElem?_toArray, List.getElem?_cons_succ, List.getElem?_cons_succ, List.getElem?_append_right (by rw [zRing_len]; decide), zRing_len]
  exact List.getElem?_cons_zero
theorem SufAt.new (w : World) (x : Int) : SufAt (w.alloc (.cells (sufZero x) 74)) w.heap.size x 0 (fun _ => zItem) := by
  have hb := heap_alloc_new w (.cells (sufZero x) 74)
  refine ⟨?_, ?_, ?_, fun j hj => ⟨rfl, fun r v hv => ?_⟩, fun o => ?_⟩
  · rw [cell_of_row _ _ 0 _ 74 (0, 0) hb]; exact sufZero_0 x
  · rw [cell_of_row _ _ 1 _ 74 (0, 0) hb]; exact sufZero_1 x
  · rw [cell_of_row _ _ 2818 _ 74 (0, 0) hb]; exact sufZero_3 x
  · have hr : r < 11 := (List.getElem?_eq_some_iff.1 hv).1
    rw [cell_of_row _ _ _ _ 74 (0, 0) hb, sufZero_at x j r hj hr]; exact hv
  · unfold World.frozen?
    rw [hb]
    simp
theorem SufAt.lt {w : World} {b : Nat} {f m : Int} {R : Nat → List Value} (h : SufAt w b f m R) : b < w.heap.size := World.block_lt_of_cell? w _ h.c0
theorem SufAt.off {B : Nat → Prop} {w w' : World} {b : Nat} {f m : Int} {R : Nat → List Value} (h : SufAt w b f m R) (he : OffB B w w') (hb : ¬ B b) : SufAt w' b f m R :=
  ⟨he.cell h.c0 hb, he.cell h.c1 hb, he.cell h.c3 hb, fun j hj => ⟨(h.ring j hj).1, he.range (h.ring j hj).2 hb⟩, fun o => by
    rw [World.frozen?_of_block (w := w) (he.block b h.lt hb)]; exact h.free o⟩
theorem SufAt.there {w : World} {b : Nat} {f m : Int} {R : Nat → List Value} (h : SufAt w b f m R) (j : Nat) (hj : j < 256) : w.there b (2 + j * 11) 11 := fun r hr => by
  obtain ⟨h1, h2⟩ := h.ring j hj
  exact ⟨World.rangeAt.isSome h2 r (by omega), h.free _⟩
theorem SufAt.put0 {w : World} {b : Nat} {f m : Int} {R : Nat → List Value} (h : SufAt w b f m R) (f' : Int) : SufAt (w.setCell ⟨b, 0, none⟩ (.int .u64 f')) b f' m R := by
  refine ⟨World.cell?_setCell_same _ _ _ h.c0, ?_, ?_, fun j hj => ⟨(h.ring j hj).1, fun r v hv => ?_⟩, fun o => ?_⟩
  · rw [World.cell?_setCell_other _ _ _ _ (by simp)]; exact h.c1
  · rw [World.cell?_setCell_other _ _ _ _ (by simp)]; exact h.c3
  · rw [World.cell?_setCell_other _ _ _ _ (by simp <;> omega)]; exact (h.ring j hj).2 r v hv
  · rw [World.frozen?_setCell]; exact h.free o
theorem SufAt.put1 {w : World} {b : Nat} {f m : Int} {R : Nat → List Value} (h : SufAt w b f m R) (m' : Int) : SufAt (w.setCell ⟨b, 1, none⟩ (.int .i64 m')) b f m' R := by
  refine ⟨?_, World.cell?_setCell_same _ _ _ h.c1, ?_, fun j hj => ⟨(h.ring j hj).1, fun r v hv => ?_⟩, fun o => ?_⟩
  · rw [World.cell?_setCell_other _ _ _ _ (by simp)]; exact h.c0
  · rw [World.cell?_setCell_other _ _ _ _ (by simp)]; exact h.c3
  · rw [World.cell?_setCell_other _ _ _ _ (by simp <;> omega)]; exact (h.ring j hj).2 r v hv
  · rw [World.frozen?_setCell]; exact h.free o
theorem SufAt.putR {w : World} {b : Nat} {f m : Int} {R : Nat → List Value} (h : SufAt w b f m R) (j : Nat) (hj : j < 256) (cs : List Value) (hl : cs.length = 11) : SufAt (w.setCells b (2 + j * 11) cs) b f m (fun i => if i = j then cs else R i) := by
  have hth := h.there j hj
  refine ⟨?_, ?_, ?_, fun i hi => ?_, fun o => ?_⟩
  · have := World.rangeAt_setCells_apart (b' := b) (o' := 0) (cs := [.int .u64 f]) (w := w) (fun k v hv => by cases k <;> simp_all [h.c0]) b (2 + j * 11) cs (by simp <;> omega)
    exact this 0 _ rfl
  · have := World.rangeAt_setCells_apart (b' := b) (o' := 1) (cs := [.int .i64 m]) (w := w) (fun k v hv => by cases k <;> simp_all [h.c1]) b (2 + j * 11) cs (by simp <;> omega)
    exact this 0 _ rfl
  · have := World.rangeAt_setCells_apart (b' := b) (o' := 2818) (cs := [.bool true]) (w := w) (fun k v hv => by cases k <;> simp_all [h.c3]) b (2 + j * 11) cs (by simp <;> omega)
    exact this 0 _ rfl
  · by_cases hij : i = j
    · subst hij
      simp only [if_true]
      exact ⟨hl, World.rangeAt_setCells_same w b _ cs (by rw [hl]; exact hth)⟩
    · simp only [if_neg hij]
      obtain ⟨h1, h2⟩ := h.ring i hi
      exact ⟨h1, World.rangeAt_setCells_apart h2 b _ cs (by right; omega)⟩
  · rw [World.frozen?_setCells]; exact h.free o
end Go.Proofs.Ytdkhcamckjidcaa
