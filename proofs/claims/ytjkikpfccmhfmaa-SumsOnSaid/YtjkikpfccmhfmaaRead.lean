/- What a parameter that reads as data looks like in memory: scalars, arrays and structs cell by cell, slices as rows of cells. No condition. -/
import Derived.Test.YtjkikpfccmhfmaaKit
import Derived.ProofKit
import Derived.DataReads
import Derived.ChangeOld
import Derived.Deep.MidRow
namespace Go.Proofs.Ytjkikpfccmhfmaa
open Go.RowKit

def OKC (P : Program) (w : World) : Nat → TypeId → List Value → Prop
  | 0, _, _ => False
  | n + 1, t, cs => match P.underlying t with
    | some .bool => ∃ b, cs = [.bool b]
    | some (.int k) => ∃ x, cs = [.int k x] ∧ (Lit.int k x).wf = true
    | some .string => ∃ s : ByteArray, cs = [.string s] ∧ s.size ≤ maxLen
    | some (.slice e) => cs = [.slice none 0 0] ∨ ∃ (a : Addr) (len cap : Nat), cs = [.slice (some a) len cap] ∧ len ≤ cap ∧ cap ≤ maxLen ∧
        ∀ i, i < len → ∃ c, w.cells? 0 (a.add (i * P.cellsOf e)) (P.cellsOf e) = some c ∧ OKC P w n e c
    | some (.struct fs) => cs.length = P.cellsOf t ∧ ∀ f ∈ fs.toList, OKC P w n f.type ((cs.drop f.offset).take (P.cellsOf f.type))
    | some (.array m e) => cs.length = P.cellsOf t ∧ ∀ i, i < m → OKC P w n e ((cs.drop (i * P.cellsOf e)).take (P.cellsOf e))
    | _ => True

theorem mapM_mem {α β : Type} {f : α → Option β} : ∀ {l : List α} {r : List β}, l.mapM f = some r → ∀ x ∈ l, ∃ y, f x = some y
  | [], _, _, x, hx => by cases hx
  | a :: l, r, h, x, hx => by
    rw [List.mapM_cons] at h
    simp only [bind, Option.bind_eq_some_iff, pure, Option.some.injEq] at h
    obtain ⟨y, hy, ys, hys, _⟩ := h
    rcases List.mem_cons.1 hx with rfl | hx
    · exact ⟨y, hy⟩
    · exact mapM_mem hys x hx

theorem OKC.of_trod {H : Type} {enc : TypeId × Value → H} {P : Program} {w : World} {spare : Nat → Bool} {held : Bool} : ∀ (n : Nat) (t : TypeId) (cs : List Value) (d : DataW H) (ps : List MemPlace),
    DataW.trod enc P w 0 spare held n t cs = some (d, ps) → OKC P w n t cs
  | 0, _, _, _, _, h => by simp [DataW.trod] at h
  | n + 1, t, cs, d, ps, h => by
    unfold OKC
    cases hu : P.underlying t with
    | none => trivial
    | some u =>
      unfold DataW.trod at h
      rw [hu] at h
      cases u with
      | bool =>
        split at h <;> simp_all
      | int k =>
        split at h <;> simp_all
      | string =>
        split at h <;> simp_all
      | slice e =>
        split at h <;> try (simp_all; done)
        rename_i e' a len cap hh
        obtain rfl : e = e' := by simp_all
        right
        refine ⟨a, len, cap, rfl, ?_⟩
        simp only at h
        split at h
        · rename_i hb
          refine ⟨hb.2.1, hb.2.2, fun i hi => ?_⟩
          rw [Option.bind_eq_some_iff] at h
          obtain ⟨elems, he, _⟩ := h
          obtain ⟨y, hy⟩ := mapM_mem he i (List.mem_range.2 hi)
          rw [Option.bind_eq_some_iff] at hy
          obtain ⟨c, hc, hc2⟩ := hy
          exact ⟨c, hc, OKC.of_trod n e c y.1 y.2 hc2⟩
        · cases h
      | struct fs =>
        split at h <;> try (simp_all; done)
        rename_i fs' hh
        obtain rfl : fs = fs' := by simp_all
        split at h
        · rename_i hl
          refine ⟨hl, fun f hf => ?_⟩
          rw [Option.map_eq_some_iff] at h
          obtain ⟨xs, hx, _⟩ := h
          obtain ⟨y, hy⟩ := mapM_mem hx f hf
          exact OKC.of_trod n _ _ y.1 y.2 hy
        · cases h
      | array m e =>
        split at h <;> try (simp_all; done)
        rename_i m' e' hh
        obtain ⟨rfl, rfl⟩ : m = m' ∧ e = e' := by simp_all
        split at h
        · rename_i hl
          refine ⟨hl, fun i hi => ?_⟩
          rw [Option.map_eq_some_iff] at h
          obtain ⟨xs, hx, _⟩ := h
          obtain ⟨y, hy⟩ := mapM_mem hx i (List.mem_range.2 hi)
          exact OKC.of_trod n _ _ y.1 y.2 hy
        · cases h
      | _ => trivial

/-- An array or a struct, by value. -/
theorem okWide_agg {P : Program} {w : World} {r : Reach} {base : Nat} {t : TypeId} {v : Value} (ht : (match P.underlying t with | some (.struct _) | some (.array _ _) => true | _ => false) = true) (h : Value.okWide P w r base t v) : ∃ cs, v = .agg cs := by
  unfold Value.okWide at h
  split at h
  · obtain ⟨cs, h1, _⟩ := h; exact ⟨cs, h1⟩
  · obtain ⟨cs, h1, _⟩ := h; exact ⟨cs, h1⟩
  · split at ht <;> simp_all
theorem flatMap_at {M : Type} (cells : M → List Value) (size : Nat) (hpos : 0 < size) (hlen : ∀ m, (cells m).length = size) : ∀ (l : List M) (i : Nat) (m : M), l[i]? = some m → ∀ r, r < size → ∀ j, j = i * size + r → (l.flatMap cells)[j]? = (cells m)[r]?
  | [], i, m, h, _, _, _, _ => by simp at h
  | x :: l, 0, m, h, r, hr, j, hj => by
    simp at h; subst h
    rw [List.flatMap_cons, List.getElem?_append_left (by rw [hlen]; omega), hj]; simp
  | x :: l, i + 1, m, h, r, hr, j, hj => by
    have e : (i + 1) * size = i * size + size := Nat.succ_mul i size
    rw [List.flatMap_cons, List.getElem?_append_right (by rw [hlen]; omega)]
    refine flatMap_at cells size hpos hlen l i m (by simpa using h) r hr _ ?_
    rw [hlen]; omega
/-- A slice whose elements read as 'M': a row of cells. -/
theorem OKC.row {P : Program} {w : World} {n : Nat} {t e : TypeId} {v : Value} {M : Type} (cells : M → List Value) (good : M → Prop) (size : Nat) (ht : P.underlying t = some (.slice e)) (hsz : P.cellsOf e = size) (hpos : 0 < size)
    (hlen : ∀ m, (cells m).length = size) (hM : ∀ cs, OKC P w n e cs → ∃ m, cs = cells m ∧ good m) (h : OKC P w (n + 1) t [v]) :
    ∃ l : List M, (∀ m ∈ l, good m) ∧ RowIs w size v l.length (l.flatMap cells) := by
  unfold OKC at h
  rw [ht] at h
  simp only [hsz] at h
  rcases h with h | ⟨a, len, cap, h, hc, hm, he⟩
  · simp at h; subst h
    exact ⟨[], by simp, RowIs.nil _ _ _ _⟩
  · simp at h; subst h
    unfold maxLen at hm
    rcases Nat.eq_zero_or_pos len with rfl | h0
    · exact ⟨[], by simp, RowIs.nil _ _ _ _⟩
    · have hx : ∀ k, k ≤ len → ∃ l : List M, l.length = k ∧ (∀ m ∈ l, good m) ∧ ∀ i, i < k → ∃ m, l[i]? = some m ∧ w.cells? 0 (a.add (i * size)) size = some (cells m) := by
        intro k
        induction k with
        | zero => intro _; exact ⟨[], rfl, by simp, fun i hi => by omega⟩
        | succ k ih =>
          intro hk
          obtain ⟨l, hl, hg, hi⟩ := ih (by omega)
          obtain ⟨c, hc1, hc2⟩ := he k (by omega)
          obtain ⟨m, rfl, hgm⟩ := hM c hc2
          refine ⟨l ++ [m], by simp [hl], ?_, ?_⟩
          · intro x hx
            rcases List.mem_append.1 hx with hx | hx
            · exact hg x hx
            · simp at hx; subst hx; exact hgm
          · intro i hik
            by_cases hi2 : i < k
            · obtain ⟨m', h1, h2⟩ := hi i hi2
              exact ⟨m', by rw [List.getElem?_append_left (by omega)]; exact h1, h2⟩
            · obtain rfl : i = k := by omega
              exact ⟨m, by rw [List.getElem?_append_right (by omega)]; simp [hl], hc1⟩
      obtain ⟨l, hl, hg, hi⟩ := hx len (Nat.le_refl _)
      have hfl : (l.flatMap cells).length = len * size := by
        rw [List.length_flatMap]
        have : l.map (fun m => (cells m).length) = List.replicate l.length size := by
          rw [List.eq_replicate_iff]
          exact ⟨by simp, fun b hb => by obtain ⟨m, _, rfl⟩ := List.mem_map.1 hb; exact hlen m⟩
        rw [this, List.sum_replicate_nat, hl]
      obtain ⟨b, off, sp⟩ := a
      have hsp : sp = none := by
        obtain ⟨m, h1, h2⟩ := hi 0 h0
        obtain ⟨_, h3, h4⟩ := World.cells?_some h2
        have h5 := h4 0 hpos
        rw [List.getElem?_eq_getElem (by omega)] at h5
        have := World.cell?_spot h5
        simpa [Addr.add] using this
      subst hsp
      refine ⟨l, hg, ?_, by omega, .inr ⟨b, off, cap, by rw [hl], by omega, ?_⟩⟩
      · rw [hfl, hl]
      · intro j hj
        rw [hl] at hj
        have hjs : j / size < len := Nat.div_lt_of_lt_mul (by rw [Nat.mul_comm]; exact hj)
        have hjr : j % size < size := Nat.mod_lt _ hpos
        obtain ⟨m, h1, h2⟩ := hi (j / size) hjs
        obtain ⟨_, h3, h4⟩ := World.cells?_some h2
        have h5 := h4 (j % size) hjr
        have hj2 : j = j / size * size + j % size := by rw [Nat.mul_comm]; exact (Nat.div_add_mod j size).symm
        have hadd : ((⟨b, off, none⟩ : Addr).add (j / size * size)).add (j % size) = ⟨b, off + j, none⟩ := by
          conv => rhs; rw [hj2]
          rw [Addr.add_mid, Addr.add_mid, Nat.add_assoc]
        rw [hadd] at h5
        rw [h5]
        exact (flatMap_at cells size hpos hlen l (j / size) m h1 (j % size) hjr j hj2).symm
end Go.Proofs.Ytjkikpfccmhfmaa
