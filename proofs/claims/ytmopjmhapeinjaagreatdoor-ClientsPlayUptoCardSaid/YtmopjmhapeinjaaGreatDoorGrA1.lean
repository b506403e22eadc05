/- Several texts in one: Read Read2 Off Bq Ask. No condition. -/
import Derived.Test.YtmopjmhapeinjaaGreatDoorGrA0
import Derived.ProofKit
import Derived.DataReads
import Derived.ChangeOld
import Derived.Deep.MidRow
import Derived.SizedLaws
import Derived.Test.YtmopjmhapeinjaaGreatDoorChecked
/- What a parameter that reads as data looks like in memory: scalars, arrays and structs cell by cell, slices as rows of cells. No condition. -/
namespace Go.Proofs.YtmopjmhapeinjaaGreatDoor
open Go.RowKit

def OKC (P : Program) (w : World) : Nat → TypeId → List Value → Prop
  | 0, _, _ => False
  | n + 1, t, cs => match P.underlying t with
    | some .bool => ∃ b, cs = [.bool b]
    | some (.int k) => ∃ x, cs = [.int k x] ∧ (Lit.int k x).wf = true
    | some .string => ∃ s : ByteArray, cs = [.string s] ∧ s.size ≤ 140737488351232
    | some (.slice e) => cs = [.slice none 0 0] ∨ ∃ (a : Addr) (len cap : Nat), cs = [.slice (some a) len cap] ∧ len ≤ cap ∧ cap ≤ maxLen ∧ len * P.bytesOf e ≤ 140737488351232 ∧
        ∀ i, i < len → ∃ c, w.cells? 0 (a.add (i * P.cellsOf e)) (P.cellsOf e) = some c ∧ OKC P w n e c
    | some (.struct fs) => cs.length = P.cellsOf t ∧ ∀ f ∈ fs.toList, OKC P w n f.type ((cs.drop f.offset).take (P.cellsOf f.type))
    | some (.array m e) => cs.length = P.cellsOf t ∧ ∀ i, i < m → OKC P w n e ((cs.drop (i * P.cellsOf e)).take (P.cellsOf e))
    | _ => True

theorem mapM_get {α β : Type} {f : α → Option β} : ∀ {l : List α} {r : List β}, l.mapM f = some r → ∀ (i : Nat) (x : α), l[i]? = some x → ∃ y, r[i]? = some y ∧ f x = some y
  | [], _, _, _, x, hx => by simp at hx
  | a :: l, r, h, i, x, hx => by
    rw [List.mapM_cons] at h
    simp only [bind, Option.bind_eq_some_iff, pure, Option.some.injEq] at h
    obtain ⟨y, hy, ys, hys, rfl⟩ := h
    cases i with
    | zero => simp at hx; subst hx; exact ⟨y, by simp, hy⟩
    | succ i => obtain ⟨z, h1, h2⟩ := mapM_get hys i x (by simpa using hx); exact ⟨z, by simpa using h1, h2⟩
theorem mapM_len {α β : Type} {f : α → Option β} : ∀ {l : List α} {r : List β}, l.mapM f = some r → r.length = l.length
  | [], _, h => by simp at h; subst h; rfl
  | a :: l, r, h => by
    rw [List.mapM_cons] at h
    simp only [bind, Option.bind_eq_some_iff, pure, Option.some.injEq] at h
    obtain ⟨y, hy, ys, hys, rfl⟩ := h
    simp [mapM_len hys]
theorem weights_all {H : Type} {P : Program} {e : TypeId} : ∀ {ds : List (DataW H)} {d : DataW H}, d ∈ ds → ∀ n ∈ d.weights P e, n ∈ DataW.weightsAll P e ds
  | [], _, h, _, _ => by cases h
  | x :: ds, d, h, n, hn => by
    simp only [DataW.weightsAll, List.mem_append]
    rcases List.mem_cons.1 h with rfl | h
    · exact .inl hn
    · exact .inr (weights_all h n hn)

theorem OKC.of_trod {H : Type} {enc : TypeId × Value → H} {P : Program} {w : World} {spare : Nat → Bool} {held : Bool} : ∀ (n : Nat) (t : TypeId) (cs : List Value) (d : DataW H) (ps : List MemPlace),
    DataW.trod enc P w 0 spare held n t cs = some (d, ps) → (∀ x ∈ d.weights P t, x ≤ reachBytes) → OKC P w n t cs
  | 0, _, _, _, _, h, _ => by simp [DataW.trod] at h
  | n + 1, t, cs, d, ps, h, hw => by
    unfold OKC
    cases hu : P.underlying t with
    | none => trivial
    | some u =>
      unfold DataW.trod at h
      rw [hu] at h
      cases u with
      | bool =>
        split at h <;> simp_all
      | int k =>
        split at h <;> simp_all
      | string =>
        split at h <;> try (simp_all; done)
        rename_i s _
        split at h
        · simp only [Option.some.injEq, Prod.mk.injEq] at h
          obtain ⟨rfl, _⟩ := h
          refine ⟨s, rfl, ?_⟩
          have := hw s.data.toList.length (by simp [DataW.weights])
          simpa [reachBytes] using this
        · cases h
      | slice e =>
        split at h <;> try (simp_all; done)
        rename_i e' a len cap hh
        obtain rfl : e = e' := by simp_all
        right
        simp only at h
        split at h
        · rename_i hb
          rw [Option.bind_eq_some_iff] at h
          obtain ⟨elems, he, h2⟩ := h
          rw [Option.map_eq_some_iff] at h2
          obtain ⟨rest, _, h3⟩ := h2
          simp only [Prod.mk.injEq] at h3
          obtain ⟨rfl, _⟩ := h3
          have hlen : elems.length = len := by
            have := mapM_len he
            simpa using this
          refine ⟨a, len, cap, rfl, hb.2.1, hb.2.2, ?_, fun i hi => ?_⟩
          · have := hw (((elems.map (·.1)).length + (rest.map (·.1)).length) * P.bytesOf e) (by simp [DataW.weights, hu])
            rw [List.length_map, hlen, Nat.add_mul] at this
            unfold reachBytes at this
            omega
          · obtain ⟨y, hy, hy2⟩ := mapM_get he i i (by simp [hi])
            rw [Option.bind_eq_some_iff] at hy2
            obtain ⟨c, hc, hc2⟩ := hy2
            refine ⟨c, hc, OKC.of_trod n e c y.1 y.2 hc2 fun x hx => hw x ?_⟩
            simp only [DataW.weights, hu, List.mem_cons, List.mem_append]
            refine .inr (.inl (weights_all (d := y.1) ?_ x hx))
            exact List.mem_map.2 ⟨y, List.mem_of_getElem? hy, rfl⟩
        · cases h
      | struct fs =>
        split at h <;> try (simp_all; done)
        rename_i fs' hh
        obtain rfl : fs = fs' := by simp_all
        split at h
        · rename_i hl
          rw [Option.map_eq_some_iff] at h
          obtain ⟨xs, hx, h3⟩ := h
          simp only [Prod.mk.injEq] at h3
          obtain ⟨rfl, _⟩ := h3
          refine ⟨hl, fun f hf => ?_⟩
          obtain ⟨j, hj⟩ := List.getElem?_of_mem hf
          obtain ⟨y, hy, hy2⟩ := mapM_get hx j f hj
          refine OKC.of_trod n _ _ y.1 y.2 hy2 fun x hx => hw x ?_
          simp only [DataW.weights, hu]
          exact DataW.weights_mem_each (j := j) (t := f.type) (d := y.1) (by rw [List.getElem?_map, hj]; rfl) (by rw [List.getElem?_map, hy]; rfl) x hx
        · cases h
      | array m e =>
        split at h <;> try (simp_all; done)
        rename_i m' e' hh
        obtain ⟨rfl, rfl⟩ : m = m' ∧ e = e' := by simp_all
        split at h
        · rename_i hl
          rw [Option.map_eq_some_iff] at h
          obtain ⟨xs, hx, h3⟩ := h
          simp only [Prod.mk.injEq] at h3
          obtain ⟨rfl, _⟩ := h3
          refine ⟨hl, fun i hi => ?_⟩
          obtain ⟨y, hy, hy2⟩ := mapM_get hx i i (by simp [hi])
          refine OKC.of_trod n _ _ y.1 y.2 hy2 fun x hx => hw x ?_
          simp only [DataW.weights, hu]
          exact weights_all (d := y.1) (List.mem_map.2 ⟨y, List.mem_of_getElem? hy, rfl⟩) x hx
        · cases h
      | _ => trivial
/-- An array or a struct, by value. -/
theorem okWide_agg {P : Program} {w : World} {r : Reach} {base : Nat} {t : TypeId} {v : Value} (ht : (match P.underlying t with | some (.struct _) | some (.array _ _) => true | _ => false) = true) (h : Value.okWide P w r base t v) : ∃ cs, v = .agg cs := by
  unfold Value.okWide at h
  split at h
  · obtain ⟨cs, h1, _⟩ := h; exact ⟨cs, h1⟩
  · obtain ⟨cs, h1, _⟩ := h; exact ⟨cs, h1⟩
  · split at ht <;> simp_all
theorem flatMap_at {M : Type} (cells : M → List Value) (size : Nat) (hpos : 0 < size) (hlen : ∀ m, (cells m).length = size) : ∀ (l : List M) (i : Nat) (m : M), l[i]? = some m → ∀ r, r < size → ∀ j, j = i * size + r → (l.flatMap cells)[j]? = (cells m)[r]?
  | [], i, m, h, _, _, _, _ => by simp at h
  | x :: l, 0, m, h, r, hr, j, hj => by
    simp at h; subst h
    rw [List.flatMap_cons, List.getElem?_append_left (by rw [hlen]; omega), hj]; simp
  | x :: l, i + 1, m, h, r, hr, j, hj => by
    have e : (i + 1) * size = i * size + size := Nat.succ_mul i size
    rw [List.flatMap_cons, List.getElem?_append_right (by rw [hlen]; omega)]
    refine flatMap_at cells size hpos hlen l i m (by simpa using h) r hr _ ?_
    rw [hlen]; omega
/-- A slice whose elements read as 'M': a row of cells. -/
theorem OKC.row {P : Program} {w : World} {n : Nat} {t e : TypeId} {v : Value} {M : Type} (cells : M → List Value) (good : M → Prop) (size : Nat) (ht : P.underlying t = some (.slice e)) (hsz : P.cellsOf e = size) (hpos : 0 < size)
    (hlen : ∀ m, (cells m).length = size) (hM : ∀ cs, OKC P w n e cs → ∃ m, cs = cells m ∧ good m) (h : OKC P w (n + 1) t [v]) :
    ∃ l : List M, (∀ m ∈ l, good m) ∧ RowIs w size v l.length (l.flatMap cells) ∧ l.length * P.bytesOf e ≤ 140737488351232 := by
  unfold OKC at h
  rw [ht] at h
  simp only [hsz] at h
  rcases h with h | ⟨a, len, cap, h, hc, hm, hbytes, he⟩
  · simp at h; subst h
    exact ⟨[], by simp, RowIs.nil _ _ _ _ (fun _ => rfl), by simp⟩
  · simp at h; subst h
    unfold maxLen at hm
    rcases Nat.eq_zero_or_pos len with rfl | h0
    · exact ⟨[], by simp, RowIs.nil _ _ _ _ (by simp), by simp⟩
    · have hx : ∀ k, k ≤ len → ∃ l : List M, l.length = k ∧ (∀ m ∈ l, good m) ∧ ∀ i, i < k → ∃ m, l[i]? = some m ∧ w.cells? 0 (a.add (i * size)) size = some (cells m) := by
        intro k
        induction k with
        | zero => intro _; exact ⟨[], rfl, by simp, fun i hi => by omega⟩
        | succ k ih =>
          intro hk
          obtain ⟨l, hl, hg, hi⟩ := ih (by omega)
          obtain ⟨c, hc1, hc2⟩ := he k (by omega)
          obtain ⟨m, rfl, hgm⟩ := hM c hc2
          refine ⟨l ++ [m], by simp [hl], ?_, ?_⟩
          · intro x hx
            rcases List.mem_append.1 hx with hx | hx
            · exact hg x hx
            · simp at hx; subst hx; exact hgm
          · intro i hik
            by_cases hi2 : i < k
            · obtain ⟨m', h1, h2⟩ := hi i hi2
              exact ⟨m', by rw [List.getElem?_append_left (by omega)]; exact h1, h2⟩
            · obtain rfl : i = k := by omega
              exact ⟨m, by rw [List.getElem?_append_right (by omega)]; simp [hl], hc1⟩
      obtain ⟨l, hl, hg, hi⟩ := hx len (Nat.le_refl _)
      have hfl : (l.flatMap cells).length = len * size := by
        rw [List.length_flatMap]
        have : l.map (fun m => (cells m).length) = List.replicate l.length size := by
          rw [List.eq_replicate_iff]
          exact ⟨by simp, fun b hb => by obtain ⟨m, _, rfl⟩ := List.mem_map.1 hb; exact hlen m⟩
        rw [this, List.sum_replicate_nat, hl]
      obtain ⟨b, off, sp⟩ := a
      have hsp : sp = none := by
        obtain ⟨m, h1, h2⟩ := hi 0 h0
        obtain ⟨_, h3, h4⟩ := World.cells?_some h2
        have h5 := h4 0 hpos
        rw [List.getElem?_eq_getElem (by omega)] at h5
        have := World.cell?_spot h5
        simpa [Addr.add] using this
      subst hsp
      refine ⟨l, hg, ⟨?_, by omega, .inr ⟨b, off, cap, by rw [hl], by omega, ?_⟩⟩, by rw [hl]; exact hbytes⟩
      · rw [hfl, hl]
      · intro j hj
        rw [hl] at hj
        have hjs : j / size < len := Nat.div_lt_of_lt_mul (by rw [Nat.mul_comm]; exact hj)
        have hjr : j % size < size := Nat.mod_lt _ hpos
        obtain ⟨m, h1, h2⟩ := hi (j / size) hjs
        obtain ⟨_, h3, h4⟩ := World.cells?_some h2
        have h5 := h4 (j % size) hjr
        have hj2 : j = j / size * size + j % size := by rw [Nat.mul_comm]; exact (Nat.div_add_mod j size).symm
        have hadd : ((⟨b, off, none⟩ : Addr).add (j / size * size)).add (j % size) = ⟨b, off + j, none⟩ := by
          conv => rhs; rw [hj2]
          rw [Addr.add_mid, Addr.add_mid, Nat.add_assoc]
        rw [hadd] at h5
        rw [h5]
        exact (flatMap_at cells size hpos hlen l (j / size) m h1 (j % size) hjr j hj2).symm
end Go.Proofs.YtmopjmhapeinjaaGreatDoor

/- Integers and rows of integers, as parameters read. No condition. -/
namespace Go.Proofs.YtmopjmhapeinjaaGreatDoor
open Go.RowKit
theorem RowIs.form {w : World} {size : Nat} {v : Value} {n : Nat} {xs : List Value} (h : RowIs w size v n xs) : ∃ a cap, v = .slice a n cap := by
  obtain ⟨_, _, ⟨rfl, a, cap, rfl, _⟩ | ⟨b, off, cap, rfl, _⟩⟩ := h
  · exact ⟨_, _, rfl⟩
  · exact ⟨_, _, rfl⟩
theorem wf_u8 {x : Int} (h : (Lit.int .u8 x).wf = true) : 0 ≤ x ∧ x < 256 := by
  have hmin : IntKind.u8.min = 0 := rfl
  have hmax : IntKind.u8.max = 255 := rfl
  simp only [Lit.wf, Bool.and_eq_true, decide_eq_true_eq] at h; omega
theorem wf_u16 {x : Int} (h : (Lit.int .u16 x).wf = true) : 0 ≤ x ∧ x < 65536 := by
  have hmin : IntKind.u16.min = 0 := rfl
  have hmax : IntKind.u16.max = 65535 := rfl
  simp only [Lit.wf, Bool.and_eq_true, decide_eq_true_eq] at h; omega
theorem wf_u32 {x : Int} (h : (Lit.int .u32 x).wf = true) : 0 ≤ x ∧ x < 4294967296 := by
  have hmin : IntKind.u32.min = 0 := rfl
  have hmax : IntKind.u32.max = 4294967295 := rfl
  simp only [Lit.wf, Bool.and_eq_true, decide_eq_true_eq] at h; omega
theorem wf_u64 {x : Int} (h : (Lit.int .u64 x).wf = true) : 0 ≤ x ∧ x < 18446744073709551616 := by
  have hmin : IntKind.u64.min = 0 := rfl
  have hmax : IntKind.u64.max = 18446744073709551615 := rfl
  simp only [Lit.wf, Bool.and_eq_true, decide_eq_true_eq] at h; omega
theorem okc_int {P : Program} {w : World} {n : Nat} {t : TypeId} {k : IntKind} {cs : List Value} (ht : P.underlying t = some (.int k)) (h : OKC P w n t cs) : ∃ x, cs = [.int k x] ∧ (Lit.int k x).wf = true := by
  cases n with
  | zero => exact h.elim
  | succ n => unfold OKC at h; rw [ht] at h; exact h
theorem okc_nat {P : Program} {w : World} {t : TypeId} {k : IntKind} {top : Nat} {a : Int} (ht : P.underlying t = some (.int k)) (hk : ∀ x, (Lit.int k x).wf = true → 0 ≤ x ∧ x < (top : Int)) (h : ∃ n, OKC P w n t [.int k a]) : ∃ c : Nat, a = c ∧ c < top := by
  obtain ⟨n, h⟩ := h
  obtain ⟨x, h1, h2⟩ := okc_int ht h
  simp at h1; subst h1
  obtain ⟨h0, h3⟩ := hk _ h2
  obtain ⟨c, rfl⟩ := Int.eq_ofNat_of_zero_le h0
  exact ⟨c, rfl, by omega⟩
/-- A slice of bytes. -/
theorem okc_u8row {P : Program} {w : World} {t e : TypeId} {v : Value} (ht : P.underlying t = some (.slice e)) (he : P.underlying e = some (.int .u8)) (hc : P.cellsOf e = 1) (h : ∃ n, OKC P w n t [v]) :
    ∃ (l : List Nat) (a : Option Addr) (cap : Nat), v = .slice a l.length cap ∧ (∀ c ∈ l, c < 256) ∧ RowIs w 1 v l.length (l.flatMap fun (c : Nat) => [Value.int .u8 (c : Int)]) := by
  obtain ⟨n, h⟩ := h
  cases n with
  | zero => exact h.elim
  | succ n =>
    obtain ⟨l, hg, hr, hby⟩ := OKC.row (fun (c : Nat) => [Value.int .u8 (c : Int)]) (fun c => c < 256) 1 ht hc (by decide) (fun _ => rfl) (fun cs hcs => by
      obtain ⟨x, rfl, hx⟩ := okc_int he hcs
      obtain ⟨h0, h1⟩ := wf_u8 hx
      obtain ⟨c, rfl⟩ := Int.eq_ofNat_of_zero_le h0
      exact ⟨c, rfl, by omega⟩) h
    obtain ⟨a, cap, hv⟩ := hr.form
    exact ⟨l, a, cap, hv, hg, hr⟩
theorem u8row_at (l : List Nat) (k c : Nat) (h : l[k]? = some c) : (l.flatMap fun (c : Nat) => [Value.int .u8 (c : Int)])[k]? = some (.int .u8 (c : Int)) := by
  have := flatMap_at (fun (c : Nat) => [Value.int .u8 (c : Int)]) 1 (by decide) (fun _ => rfl) l k c h 0 (by decide) k (by omega)
  simpa using this
end Go.Proofs.YtmopjmhapeinjaaGreatDoor

/- Worlds that keep all blocks but some of the call's own (OffB), and a slice's row across them. No condition. -/
namespace Go.Proofs.YtmopjmhapeinjaaGreatDoor
open Go.RowKit

/-- All blocks that were there are as they were, but for those of B; new ones may have come. -/
structure OffB (B : Nat → Prop) (w w' : World) : Prop where
  os : w'.os = w.os
  tape : w'.tape = w.tape
  output : w'.output = w.output
  size : w.heap.size ≤ w'.heap.size
  block : ∀ k, k < w.heap.size → ¬ B k → w'.heap[k]? = w.heap[k]?

variable {B : Nat → Prop}
theorem OffB.refl (w : World) : OffB B w w := ⟨rfl, rfl, rfl, Nat.le_refl _, fun _ _ _ => rfl⟩
theorem OffB.trans {a b c : World} (h : OffB B a b) (k : OffB B b c) : OffB B a c :=
  ⟨k.os.trans h.os, k.tape.trans h.tape, k.output.trans h.output, Nat.le_trans h.size k.size, fun i hi hb => (k.block i (Nat.lt_of_lt_of_le hi h.size) hb).trans (h.block i hi hb)⟩
theorem OffB.mono {B' : Nat → Prop} {w w' : World} (h : OffB B w w') (hb : ∀ k, B k → B' k) : OffB B' w w' := ⟨h.os, h.tape, h.output, h.size, fun k hk hn => h.block k hk (fun hB => hn (hb k hB))⟩
/-- What came past the world's end is free to turn. -/
theorem OffB.past {B' : Nat → Prop} {w w' : World} (h : OffB B w w') (hb : ∀ k, k < w.heap.size → B k → B' k) : OffB B' w w' := ⟨h.os, h.tape, h.output, h.size, fun k hk hn => h.block k hk (fun hB => hn (hb k hk hB))⟩
theorem OffB.of_ext {w w' : World} (h : Ext w w') : OffB B w w' := ⟨Below.os h, Below.tape h, Below.output h, Below.size h, fun k hk _ => Below.block h k hk⟩
theorem OffB.of_below {w w' : World} {base : Nat} (h : Below base w w') (hb : ∀ k, k < w.heap.size → base ≤ k → B k) : OffB B w w' := ⟨h.os, h.tape, h.output, h.size, fun k hk hn => h.block k (Nat.lt_of_not_le fun hle => hn (hb k hk hle))⟩
theorem OffB.ext {w w' : World} (h : OffB B w w') (hb : ∀ k, k < w.heap.size → ¬ B k) : Ext w w' := ⟨h.os, h.tape, h.output, h.size, fun k hk => h.block k hk (hb k hk)⟩
theorem OffB.below {w w' : World} {base : Nat} (h : OffB B w w') (hb : ∀ k, B k → base ≤ k) (hs : base ≤ w.heap.size) : Below base w w' := ⟨h.os, h.tape, h.output, h.size, fun k hk => h.block k (by omega) (fun hB => by have := hb k hB; omega)⟩
theorem OffB.drew {a w : World} (h : OffB B a w) : OffB B a w.drew := ⟨h.os, h.tape, h.output, h.size, h.block⟩
theorem OffB.alloc {a w : World} (h : OffB B a w) (o : Obj) : OffB B a (w.alloc o) := h.trans (.of_ext ((Ext.refl w).alloc o))
theorem OffB.setCell {a w : World} (h : OffB B a w) {p : Addr} (hp : B p.block) (u : Value) : OffB B a (w.setCell p u) :=
  h.trans ⟨rfl, rfl, rfl, by simp, fun k _ hn => Below.heap_setCell w p u k (fun e => hn (e ▸ hp))⟩
theorem OffB.setCells {a w : World} (h : OffB B a w) {b : Nat} (hp : B b) (o : Nat) (vs : List Value) : OffB B a (w.setCells b o vs) := by
  induction vs generalizing o w with
  | nil => exact h
  | cons v r ih => exact ih (h.setCell hp v) (o + 1)
theorem OffB.cell {w w' : World} (h : OffB B w w') {a : Addr} {v : Value} (hc : w.cell? a = some v) (hn : ¬ B a.block) : w'.cell? a = some v := by
  rw [World.cell?_of_block (w := w) (h.block a.block (World.block_lt_of_cell? w a hc) hn)]; exact hc
theorem OffB.frozen {w w' : World} (h : OffB B w w') {a : Addr} {v : Value} (hc : w.cell? a = some v) (hn : ¬ B a.block) : w'.frozen? a = w.frozen? a :=
  World.frozen?_of_block (w := w) (h.block a.block (World.block_lt_of_cell? w a hc) hn)
theorem OffB.range {w w' : World} (h : OffB B w w') {b o : Nat} {cs : List Value} (hc : w.rangeAt b o cs) (hn : ¬ B b) : w'.rangeAt b o cs := fun j v hv => h.cell (hc j v hv) hn

/-- The block of a slice's row. -/
def Out (B : Nat → Prop) (v : Value) : Prop := ∀ a n c, v = .slice (some a) n c → ¬ B a.block
theorem Out.nil {a : Nat} {c : Nat} : Out B (.slice none a c) := fun _ _ _ h => by injection h with h1; cases h1
theorem RowIs.off {w w' : World} {size : Nat} {v : Value} {n : Nat} {xs : List Value} (h : RowIs w size v n xs) (hv : Out B v) (he : OffB B w w') : RowIs w' size v n xs := by
  obtain ⟨h1, h2, h3 | ⟨b, off, cap, rfl, hc, h4⟩⟩ := h
  · exact ⟨h1, h2, .inl h3⟩
  · refine ⟨h1, h2, .inr ⟨b, off, cap, rfl, hc, fun i hi => ?_⟩⟩
    have e := h4 i hi
    rw [List.getElem?_eq_getElem (by omega)] at e ⊢
    exact he.cell e (hv ⟨b, off, none⟩ n cap rfl)
theorem Out.of_own {w : World} {base : Nat} {e : TypeId} {size : Nat} {v : Value} {n : Nat} {xs : List Value} (h : w.ownsRow base e size v n xs) (hb : ∀ k, B k → k < base) : Out B v := by
  intro a m c hv hB
  subst hv
  obtain ⟨_, ⟨h1, _⟩ | ⟨g, cap, cur, h1, hg, _⟩⟩ := h
  · injection h1 with h2; cases h2
  · injection h1 with h2
    injection h2 with h3
    subst h3
    have := hb _ hB
    simp at this
    omega
end Go.Proofs.YtmopjmhapeinjaaGreatDoor

/- A quiet region stepped in a box, so that nothing ahead of the next operation is reduced. No condition. -/
namespace Go.Proofs.YtmopjmhapeinjaaGreatDoor
open Go.RowKit
structure Bq (p : Prop) : Prop where
  out : p
section
variable {P : Program} {ops : Array Oper} {C : World → Prop} {Q : Act → Prop} {o : Oper} {rest : List Oper} {a : Act}
theorem bqSkip (hw : Region.wanted o (yielded ops a.tmps) = false) (h : Bq (wpQuiet P ops C Q rest (a.put o.dst undef))) : Bq (wpQuiet P ops C Q (o :: rest) a) := by
  refine ⟨?_⟩
  unfold wpQuiet
  rw [if_neg (by rw [hw]; decide)]
  exact h.out
theorem bqStep (h : ∀ K : Act → Prop, (∀ a, Bq (wpQuiet P ops C Q rest a) → K a) → if Region.wanted o (yielded ops a.tmps) then o.quiet P a C K else K (a.put o.dst undef)) : Bq (wpQuiet P ops C Q (o :: rest) a) :=
  ⟨wpQuiet_step fun K hK => h K fun a h => hK a h.out⟩
theorem bqNil (h : Q a) : Bq (wpQuiet P ops C Q [] a) := ⟨h⟩
theorem bqValue (v : Value) (hg : Region.wanted o (yielded ops a.tmps) = true) (h : ∀ w, C w → (execOp a.eval o).run P w = .ok (.value v) w) (k : Bq (wpQuiet P ops C Q rest (a.put o.dst v))) : Bq (wpQuiet P ops C Q (o :: rest) a) :=
  ⟨wpQuiet_value v hg h k.out⟩
theorem bqCell (hg : Region.wanted o (yielded ops a.tmps) = true) (ty : TypeId) (x : Operand) (ho : o.op = .load ty x)
    (g off : Nat) (hx : a.eval x = .pointer (some ⟨g, off, none⟩)) (v : Value) (hrow : ∀ w, C w → w.cell? ⟨g, off, none⟩ = some v)
    (d : TypeDesc) (hu : P.underlying ty = some d) (hd : d.isRow = false)
    (k : Bq (wpQuiet P ops C Q rest (a.put o.dst v))) : Bq (wpQuiet P ops C Q (o :: rest) a) :=
  ⟨wpQuiet_load_cell hg ty x ho g off hx v hrow d hu hd k.out⟩
theorem bqMid (hg : Region.wanted o (yielded ops a.tmps) = true) (ty : TypeId) (x : Operand) (ho : o.op = .load ty x)
    (b off : Nat) (hx : a.eval x = .pointer (some ⟨b, off, none⟩)) (cs : List Value) (d : TypeDesc) (hrow : ∀ w, C w → w.rangeAt b off cs)
    (hu : P.underlying ty = some d) (hd : d.isRow = true) (hi : (P.info? ty).map (·.size) = some cs.length)
    (k : Bq (wpQuiet P ops C Q rest (a.put o.dst (.agg cs.toArray)))) : Bq (wpQuiet P ops C Q (o :: rest) a) :=
  ⟨wpQuiet_load_mid hg ty x ho b off hx cs d hrow hu hd hi k.out⟩
end
theorem bqRegion {P : Program} {id : Nat} {Q : Exit → Act → World → Prop} {a : Act} {w : World} {l : List Oper} (C : World → Prop) (hm : P.follows .mixedOrders = true) (hB : Region.lexB .any l.toArray = true) (hC : C w.drew)
    (h : Bq (wpQuiet P l.toArray C (fun a' => ∀ w', C w' → Q .normal a' w') l a)) : (Code.region id l.toArray true).wp P Q a w :=
  wp_region_class C hm hB hC h.out
end Go.Proofs.YtmopjmhapeinjaaGreatDoor

/- Asks and their changes: how they read, and as parameters. No condition. -/
namespace Go.Proofs.YtmopjmhapeinjaaGreatDoor
open Go.RowKit
set_option maxRecDepth 100000
structure Ch where
  key : ByteArray
  val : ByteArray
  gone : Bool
def Ch.cells (c : Ch) : List Value := [.string c.key, .string c.val, .bool c.gone]
theorem ch_one (l : List Ch) : ∀ u ∈ l.flatMap Ch.cells, u.oneCell' = true := fun u hu => by
  obtain ⟨c, _, hc⟩ := List.mem_flatMap.1 hu
  simp only [Ch.cells, List.mem_cons, List.not_mem_nil, or_false] at hc
  rcases hc with rfl | rfl | rfl <;> rfl
theorem ch_at (l : List Ch) (k : Nat) (c : Ch) (h : l[k]? = some c) (r : Nat) (hr : r < 3) : (l.flatMap Ch.cells)[k * 3 + r]? = c.cells[r]? :=
  flatMap_at Ch.cells 3 (by decide) (fun _ => rfl) l k c h r hr _ rfl
/-- The cells of the change at k. -/
theorem ch_range {w : World} {l : List Ch} {b off : Nat} (hd : ∀ i, i < l.length * 3 → w.cell? ⟨b, off + i, none⟩ = (l.flatMap Ch.cells)[i]?) {k : Nat} {c : Ch} (h : l[k]? = some c) : w.rangeAt b (off + k * 3) c.cells := fun r v hv => by
  have hr : r < 3 := (List.getElem?_eq_some_iff.1 hv).1
  have hk : k < l.length := (List.getElem?_eq_some_iff.1 h).1
  rw [Nat.add_assoc, hd (k * 3 + r) (by omega), ch_at l k c h r hr]; exact hv
structure Ak where
  kind : Int
  key : ByteArray
  val : ByteArray
  old : ByteArray
  new : Bool
  to : ByteArray
  many : Int
  chs : List Ch
def Ak.row (x : Ak) (v : Value) : Array Value := #[.int .u8 x.kind, .string x.key, .string x.val, .string x.old, .bool x.new, .string x.to, .int .i64 x.many, v]
theorem ask_len (x : Ak) (v : Value) : (x.row v).toList.length = 8 := rfl
theorem info_ask : (Tryz.prog.info? 50).map (·.size) = some 8 := by kernel_rfl
theorem info_ch : (Tryz.prog.info? 93).map (·.size) = some 3 := by kernel_rfl
theorem el_ch : ElemIs Tryz.prog 93 3 40 := by
  refine ElemIs.mk (z := .agg #[.string ⟨#[]⟩, .string ⟨#[]⟩, .bool false]) (by kernel_rfl) (by kernel_rfl) (by decide)
theorem ask_one (x : Ak) (a : Option Addr) (n c : Nat) : (x.row (.slice a n c)).all (·.oneCell') = true := by kernel_rfl

theorem okc_str {P : Program} {w : World} {n : Nat} {t : TypeId} {cs : List Value} (ht : P.underlying t = some .string) (h : OKC P w n t cs) : ∃ s : ByteArray, cs = [.string s] ∧ s.size ≤ 140737488351232 := by
  cases n with
  | zero => exact h.elim
  | succ n => unfold OKC at h; rw [ht] at h; exact h
theorem okc_bool {P : Program} {w : World} {n : Nat} {t : TypeId} {cs : List Value} (ht : P.underlying t = some .bool) (h : OKC P w n t cs) : ∃ b : Bool, cs = [.bool b] := by
  cases n with
  | zero => exact h.elim
  | succ n => unfold OKC at h; rw [ht] at h; exact h
def Ch.small (c : Ch) : Prop := c.key.size ≤ 140737488351232 ∧ c.val.size ≤ 140737488351232
theorem okc_ch {w : World} {n : Nat} {cs : List Value} (h : OKC Tryz.prog w n 93 cs) : ∃ c : Ch, cs = c.cells ∧ c.small := by
  have c77 : Tryz.prog.cellsOf 93 = 3 := by kernel_rfl
  have c9 : Tryz.prog.cellsOf 9 = 1 := by kernel_rfl
  have c4 : Tryz.prog.cellsOf 4 = 1 := by kernel_rfl
  cases n with
  | zero => exact h.elim
  | succ n =>
    unfold OKC at h
    rw [Tryz.underlying93] at h
    simp only [c77] at h
    obtain ⟨hl, hi⟩ := h
    match cs, hl with
    | [x, y, z], _ =>
      simp [c9, c4] at hi
      obtain ⟨a, ha, ha2⟩ := okc_str Tryz.underlying9 hi.1
      obtain ⟨b, hb, hb2⟩ := okc_str Tryz.underlying9 hi.2.1
      obtain ⟨g, hg⟩ := okc_bool Tryz.underlying4 hi.2.2
      simp at ha hb hg
      subst ha; subst hb; subst hg
      exact ⟨⟨a, b, g⟩, rfl, ha2, hb2⟩
/-- Changes that lie in memory. -/
def ChsAt (w : World) (l : List Ch) (a : Option Addr) (cap : Nat) : Prop := RowIs w 3 (.slice a l.length cap) l.length (l.flatMap Ch.cells) ∧ l.length * 40 ≤ 140737488351232 ∧ ∀ c ∈ l, c.small
theorem okc_chs {w : World} {n : Nat} {cs : List Value} (h : OKC Tryz.prog w n 48 cs) : ∃ (l : List Ch) (a : Option Addr) (cap : Nat), cs = [.slice a l.length cap] ∧ ChsAt w l a cap := by
  cases n with
  | zero => exact h.elim
  | succ n =>
    obtain ⟨v, rfl⟩ : ∃ v, cs = [v] := by
      have h' := h
      unfold OKC at h'
      rw [Tryz.underlying48] at h'
      rcases h' with h' | ⟨_, _, _, h', _⟩
      · exact ⟨_, h'⟩
      · exact ⟨_, h'⟩
    obtain ⟨l, hg, hr, hby⟩ := OKC.row Ch.cells Ch.small 3 Tryz.underlying48 (by kernel_rfl) (by decide) (fun _ => rfl) (fun cs hc => okc_ch hc) h
    obtain ⟨a, cap, rfl⟩ := hr.form
    rw [show Tryz.prog.bytesOf 93 = 40 by kernel_rfl] at hby
    exact ⟨l, a, cap, rfl, hr, hby, hg⟩
theorem ChsAt.ext {w w' : World} {l : List Ch} {a : Option Addr} {cap : Nat} (h : ChsAt w l a cap) (he : Ext w w') : ChsAt w' l a cap := ⟨h.1.ext he, h.2⟩
/-- The sizes of an ask that reads. -/
def Ak.small (x : Ak) : Prop := (0 ≤ x.kind ∧ x.kind < 256) ∧ x.key.size ≤ 140737488351232 ∧ x.val.size ≤ 140737488351232 ∧ x.old.size ≤ 140737488351232 ∧ x.to.size ≤ 140737488351232 ∧ (-9223372036854775808 ≤ x.many ∧ x.many ≤ 9223372036854775807)
theorem wf_i64' {x : Int} (h : (Lit.int .i64 x).wf = true) : -9223372036854775808 ≤ x ∧ x ≤ 9223372036854775807 := by
  have hmin : IntKind.i64.min = -9223372036854775808 := rfl
  have hmax : IntKind.i64.max = 9223372036854775807 := rfl
  simp only [Lit.wf, Bool.and_eq_true, decide_eq_true_eq] at h; omega
theorem okc_ask {w : World} {n : Nat} {cs : List Value} (h : OKC Tryz.prog w n 50 cs) : ∃ (x : Ak) (a : Option Addr) (cap : Nat), cs = (x.row (.slice a x.chs.length cap)).toList ∧ ChsAt w x.chs a cap ∧ x.small := by
  have c32 : Tryz.prog.cellsOf 50 = 8 := by kernel_rfl
  cases n with
  | zero => exact h.elim
  | succ n =>
    unfold OKC at h
    rw [Tryz.underlying50] at h
    simp only [c32] at h
    obtain ⟨hl, hi⟩ := h
    match cs, hl with
    | [v3, v4, v5, v6, v7, v8, v9, v10], _ =>
      simp [show Tryz.prog.cellsOf 47 = 1 by kernel_rfl, show Tryz.prog.cellsOf 9 = 1 by kernel_rfl, show Tryz.prog.cellsOf 4 = 1 by kernel_rfl, show Tryz.prog.cellsOf 3 = 1 by kernel_rfl, show Tryz.prog.cellsOf 48 = 1 by kernel_rfl] at hi
      obtain ⟨y3, y4, y5, y6, y7, y8, y9, y10⟩ := hi
      obtain ⟨i3, e3, w3⟩ := okc_int Tryz.underlying47 y3
      obtain ⟨s4, e4, w4⟩ := okc_str Tryz.underlying9 y4
      obtain ⟨s5, e5, w5⟩ := okc_str Tryz.underlying9 y5
      obtain ⟨s6, e6, w6⟩ := okc_str Tryz.underlying9 y6
      obtain ⟨b7, e7⟩ := okc_bool Tryz.underlying4 y7
      obtain ⟨s8, e8, w8⟩ := okc_str Tryz.underlying9 y8
      obtain ⟨i9, e9, w9⟩ := okc_int Tryz.underlying3 y9
      obtain ⟨l, a, cap, e10, hr⟩ := okc_chs y10
      simp at e3 e4 e5 e6 e7 e8 e9 e10
      subst e3 e4 e5 e6 e7 e8 e9 e10
      exact ⟨⟨i3, s4, s5, s6, b7, s8, i9, l⟩, a, cap, rfl, hr, wf_u8 w3, w4, w5, w6, w8, wf_i64' w9⟩
end Go.Proofs.YtmopjmhapeinjaaGreatDoor
