/- Several texts in one: Read Read2. No condition. -/
import Derived.Test.YthageoibkeebhaaGreatDoorGrKit
import Derived.ProofKit
import Derived.DataReads
import Derived.ChangeOld
import Derived.Deep.MidRow
import Derived.SizedLaws
/- What a parameter that reads as data looks like in memory: scalars, arrays and structs cell by cell, slices as rows of cells. No condition. -/
namespace Go.Proofs.YthageoibkeebhaaGreatDoor
open Go.RowKit

def OKC (P : Program) (w : World) : Nat → TypeId → List Value → Prop
  | 0, _, _ => False
  | n + 1, t, cs => match P.underlying t with
    | some .bool => ∃ b, cs = [.bool b]
    | some (.int k) => ∃ x, cs = [.int k x] ∧ (Lit.int k x).wf = true
    | some .string => ∃ s : ByteArray, cs = [.string s] ∧ s.size ≤ 140737488351232
    | some (.slice e) => cs = [.slice none 0 0] ∨ ∃ (a : Addr) (len cap : Nat), cs = [.slice (some a) len cap] ∧ len ≤ cap ∧ cap ≤ maxLen ∧ len * P.bytesOf e ≤ 140737488351232 ∧
        ∀ i, i < len → ∃ c, w.cells? 0 (a.add (i * P.cellsOf e)) (P.cellsOf e) = some c ∧ OKC P w n e c
    | some (.struct fs) => cs.length = P.cellsOf t ∧ ∀ f ∈ fs.toList, OKC P w n f.type ((cs.drop f.offset).take (P.cellsOf f.type))
    | some (.array m e) => cs.length = P.cellsOf t ∧ ∀ i, i < m → OKC P w n e ((cs.drop (i * P.cellsOf e)).take (P.cellsOf e))
    | _ => True

theorem mapM_get {α β : Type} {f : α → Option β} : ∀ {l : List α} {r : List β}, l.mapM f = some r → ∀ (i : Nat) (x : α), l[i]? = some x → ∃ y, r[i]? = some y ∧ f x = some y
  | [], _, _, _, x, hx => by simp at hx
  | a :: l, r, h, i, x, hx => by
    rw [List.mapM_cons] at h
    simp only [bind, Option.bind_eq_some_iff, pure, Option.some.injEq] at h
    obtain ⟨y, hy, ys, hys, rfl⟩ := h
    cases i with
    | zero => simp at hx; subst hx; exact ⟨y, by simp, hy⟩
    | succ i => obtain ⟨z, h1, h2⟩ := mapM_get hys i x (by simpa using hx); exact ⟨z, by simpa using h1, h2⟩
theorem mapM_len {α β : Type} {f : α → Option β} : ∀ {l : List α} {r : List β}, l.mapM f = some r → r.length = l.length
  | [], _, h => by simp at h; subst h; rfl
  | a :: l, r, h => by
    rw [List.mapM_cons] at h
    simp only [bind, Option.bind_eq_some_iff, pure, Option.some.injEq] at h
    obtain ⟨y, hy, ys, hys, rfl⟩ := h
    simp [mapM_len hys]
theorem weights_all {H : Type} {P : Program} {e : TypeId} : ∀ {ds : List (DataW H)} {d : DataW H}, d ∈ ds → ∀ n ∈ d.weights P e, n ∈ DataW.weightsAll P e ds
  | [], _, h, _, _ => by cases h
  | x :: ds, d, h, n, hn => by
    simp only [DataW.weightsAll, List.mem_append]
    rcases List.mem_cons.1 h with rfl | h
    · exact .inl hn
    · exact .inr (weights_all h n hn)

theorem OKC.of_trod {H : Type} {enc : TypeId × Value → H} {P : Program} {w : World} {spare : Nat → Bool} {held : Bool} : ∀ (n : Nat) (t : TypeId) (cs : List Value) (d : DataW H) (ps : List MemPlace),
    DataW.trod enc P w 0 spare held n t cs = some (d, ps) → (∀ x ∈ d.weights P t, x ≤ reachBytes) → OKC P w n t cs
  | 0, _, _, _, _, h, _ => by simp [DataW.trod] at h
  | n + 1, t, cs, d, ps, h, hw => by
    unfold OKC
    cases hu : P.underlying t with
    | none => trivial
    | some u =>
      unfold DataW.trod at h
      rw [hu] at h
      cases u with
      | bool =>
        split at h <;> simp_all
      | int k =>
        split at h <;> simp_all
      | string =>
        split at h <;> try (simp_all; done)
        rename_i s _
        split at h
        · simp only [Option.some.injEq, Prod.mk.injEq] at h
          obtain ⟨rfl, _⟩ := h
          refine ⟨s, rfl, ?_⟩
          have := hw s.data.toList.length (by simp [DataW.weights])
          simpa [reachBytes] using this
        · cases h
      | slice e =>
        split at h <;> try (simp_all; done)
        rename_i e' a len cap hh
        obtain rfl : e = e' := by simp_all
        right
        simp only at h
        split at h
        · rename_i hb
          rw [Option.bind_eq_some_iff] at h
          obtain ⟨elems, he, h2⟩ := h
          rw [Option.map_eq_some_iff] at h2
          obtain ⟨rest, _, h3⟩ := h2
          simp only [Prod.mk.injEq] at h3
          obtain ⟨rfl, _⟩ := h3
          have hlen : elems.length = len := by
            have := mapM_len he
            simpa using this
          refine ⟨a, len, cap, rfl, hb.2.1, hb.2.2, ?_, fun i hi => ?_⟩
          · have := hw (((elems.map (·.1)).length + (rest.map (·.1)).length) * P.bytesOf e) (by simp [DataW.weights, hu])
            rw [List.length_map, hlen, Nat.add_mul] at this
            unfold reachBytes at this
            omega
          · obtain ⟨y, hy, hy2⟩ := mapM_get he i i (by simp [hi])
            rw [Option.bind_eq_some_iff] at hy2
            obtain ⟨c, hc, hc2⟩ := hy2
            refine ⟨c, hc, OKC.of_trod n e c y.1 y.2 hc2 fun x hx => hw x ?_⟩
            simp only [DataW.weights, hu, List.mem_cons, List.mem_append]
            refine .inr (.inl (weights_all (d := y.1) ?_ x hx))
            exact List.mem_map.2 ⟨y, List.mem_of_getElem? hy, rfl⟩
        · cases h
      | struct fs =>
        split at h <;> try (simp_all; done)
        rename_i fs' hh
        obtain rfl : fs = fs' := by simp_all
        split at h
        · rename_i hl
          rw [Option.map_eq_some_iff] at h
          obtain ⟨xs, hx, h3⟩ := h
          simp only [Prod.mk.injEq] at h3
          obtain ⟨rfl, _⟩ := h3
          refine ⟨hl, fun f hf => ?_⟩
          obtain ⟨j, hj⟩ := List.getElem?_of_mem hf
          obtain ⟨y, hy, hy2⟩ := mapM_get hx j f hj
          refine OKC.of_trod n _ _ y.1 y.2 hy2 fun x hx => hw x ?_
          simp only [DataW.weights, hu]
          exact DataW.weights_mem_each (j := j) (t := f.type) (d := y.1) (by rw [List.getElem?_map, hj]; rfl) (by rw [List.getElem?_map, hy]; rfl) x hx
        · cases h
      | array m e =>
        split at h <;> try (simp_all; done)
        rename_i m' e' hh
        obtain ⟨rfl, rfl⟩ : m = m' ∧ e = e' := by simp_all
        split at h
        · rename_i hl
          rw [Option.map_eq_some_iff] at h
          obtain ⟨xs, hx, h3⟩ := h
          simp only [Prod.mk.injEq] at h3
          obtain ⟨rfl, _⟩ := h3
          refine ⟨hl, fun i hi => ?_⟩
          obtain ⟨y, hy, hy2⟩ := mapM_get hx i i (by simp [hi])
          refine OKC.of_trod n _ _ y.1 y.2 hy2 fun x hx => hw x ?_
          simp only [DataW.weights, hu]
          exact weights_all (d := y.1) (List.mem_map.2 ⟨y, List.mem_of_getElem? hy, rfl⟩) x hx
        · cases h
      | _ => trivial
/-- An array or a struct, by value. -/
theorem okWide_agg {P : Program} {w : World} {r : Reach} {base : Nat} {t : TypeId} {v : Value} (ht : (match P.underlying t with | some (.struct _) | some (.array _ _) => true | _ => false) = true) (h : Value.okWide P w r base t v) : ∃ cs, v = .agg cs := by
  unfold Value.okWide at h
  split at h
  · obtain ⟨cs, h1, _⟩ := h; exact ⟨cs, h1⟩
  · obtain ⟨cs, h1, _⟩ := h; exact ⟨cs, h1⟩
  · split at ht <;> simp_all
theorem flatMap_at {M : Type} (cells : M → List Value) (size : Nat) (hpos : 0 < size) (hlen : ∀ m, (cells m).length = size) : ∀ (l : List M) (i : Nat) (m : M), l[i]? = some m → ∀ r, r < size → ∀ j, j = i * size + r → (l.flatMap cells)[j]? = (cells m)[r]?
  | [], i, m, h, _, _, _, _ => by simp at h
  | x :: l, 0, m, h, r, hr, j, hj => by
    simp at h; subst h
    rw [List.flatMap_cons, List.getElem?_append_left (by rw [hlen]; omega), hj]; simp
  | x :: l, i + 1, m, h, r, hr, j, hj => by
    have e : (i + 1) * size = i * size + size := Nat.succ_mul i size
    rw [List.flatMap_cons, List.getElem?_append_right (by rw [hlen]; omega)]
    refine flatMap_at cells size hpos hlen l i m (by simpa using h) r hr _ ?_
    rw [hlen]; omega
/-- A slice whose elements read as 'M': a row of cells. -/
theorem OKC.row {P : Program} {w : World} {n : Nat} {t e : TypeId} {v : Value} {M : Type} (cells : M → List Value) (good : M → Prop) (size : Nat) (ht : P.underlying t = some (.slice e)) (hsz : P.cellsOf e = size) (hpos : 0 < size)
    (hlen : ∀ m, (cells m).length = size) (hM : ∀ cs, OKC P w n e cs → ∃ m, cs = cells m ∧ good m) (h : OKC P w (n + 1) t [v]) :
    ∃ l : List M, (∀ m ∈ l, good m) ∧ RowIs w size v l.length (l.flatMap cells) ∧ l.length * P.bytesOf e ≤ 140737488351232 := by
  unfold OKC at h
  rw [ht] at h
  simp only [hsz] at h
  rcases h with h | ⟨a, len, cap, h, hc, hm, hbytes, he⟩
  · simp at h; subst h
    exact ⟨[], by simp, RowIs.nil _ _ _ _ (fun _ => rfl), by simp⟩
  · simp at h; subst h
    unfold maxLen at hm
    rcases Nat.eq_zero_or_pos len with rfl | h0
    · exact ⟨[], by simp, RowIs.nil _ _ _ _ (by simp), by simp⟩
    · have hx : ∀ k, k ≤ len → ∃ l : List M, l.length = k ∧ (∀ m ∈ l, good m) ∧ ∀ i, i < k → ∃ m, l[i]? = some m ∧ w.cells? 0 (a.add (i * size)) size = some (cells m) := by
        intro k
        induction k with
        | zero => intro _; exact ⟨[], rfl, by simp, fun i hi => by omega⟩
        | succ k ih =>
          intro hk
          obtain ⟨l, hl, hg, hi⟩ := ih (by omega)
          obtain ⟨c, hc1, hc2⟩ := he k (by omega)
          obtain ⟨m, rfl, hgm⟩ := hM c hc2
          refine ⟨l ++ [m], by simp [hl], ?_, ?_⟩
          · intro x hx
            rcases List.mem_append.1 hx with hx | hx
            · exact hg x hx
            · simp at hx; subst hx; exact hgm
          · intro i hik
            by_cases hi2 : i < k
            · obtain ⟨m', h1, h2⟩ := hi i hi2
              exact ⟨m', by rw [List.getElem?_append_left (by omega)]; exact h1, h2⟩
            · obtain rfl : i = k := by omega
              exact ⟨m, by rw [List.getElem?_append_right (by omega)]; simp [hl], hc1⟩
      obtain ⟨l, hl, hg, hi⟩ := hx len (Nat.le_refl _)
      have hfl : (l.flatMap cells).length = len * size := by
        rw [List.length_flatMap]
        have : l.map (fun m => (cells m).length) = List.replicate l.length size := by
          rw [List.eq_replicate_iff]
          exact ⟨by simp, fun b hb => by obtain ⟨m, _, rfl⟩ := List.mem_map.1 hb; exact hlen m⟩
        rw [this, List.sum_replicate_nat, hl]
      obtain ⟨b, off, sp⟩ := a
      have hsp : sp = none := by
        obtain ⟨m, h1, h2⟩ := hi 0 h0
        obtain ⟨_, h3, h4⟩ := World.cells?_some h2
        have h5 := h4 0 hpos
        rw [List.getElem?_eq_getElem (by omega)] at h5
        have := World.cell?_spot h5
        simpa [Addr.add] using this
      subst hsp
      refine ⟨l, hg, ⟨?_, by omega, .inr ⟨b, off, cap, by rw [hl], by omega, ?_⟩⟩, by rw [hl]; exact hbytes⟩
      · rw [hfl, hl]
      · intro j hj
        rw [hl] at hj
        have hjs : j / size < len := Nat.div_lt_of_lt_mul (by rw [Nat.mul_comm]; exact hj)
        have hjr : j % size < size := Nat.mod_lt _ hpos
        obtain ⟨m, h1, h2⟩ := hi (j / size) hjs
        obtain ⟨_, h3, h4⟩ := World.cells?_some h2
        have h5 := h4 (j % size) hjr
        have hj2 : j = j / size * size + j % size := by rw [Nat.mul_comm]; exact (Nat.div_add_mod j size).symm
        have hadd : ((⟨b, off, none⟩ : Addr).add (j / size * size)).add (j % size) = ⟨b, off + j, none⟩ := by
          conv => rhs; rw [hj2]
          rw [Addr.add_mid, Addr.add_mid, Nat.add_assoc]
        rw [hadd] at h5
        rw [h5]
        exact (flatMap_at cells size hpos hlen l (j / size) m h1 (j % size) hjr j hj2).symm
end Go.Proofs.YthageoibkeebhaaGreatDoor

/- Integers and rows of integers, as parameters read. No condition. -/
namespace Go.Proofs.YthageoibkeebhaaGreatDoor
open Go.RowKit
theorem RowIs.form {w : World} {size : Nat} {v : Value} {n : Nat} {xs : List Value} (h : RowIs w size v n xs) : ∃ a cap, v = .slice a n cap := by
  obtain ⟨_, _, ⟨rfl, a, cap, rfl, _⟩ | ⟨b, off, cap, rfl, _⟩⟩ := h
  · exact ⟨_, _, rfl⟩
  · exact ⟨_, _, rfl⟩
theorem wf_u8 {x : Int} (h : (Lit.int .u8 x).wf = true) : 0 ≤ x ∧ x < 256 := by
  have hmin : IntKind.u8.min = 0 := rfl
  have hmax : IntKind.u8.max = 255 := rfl
  simp only [Lit.wf, Bool.and_eq_true, decide_eq_true_eq] at h; omega
theorem wf_u16 {x : Int} (h : (Lit.int .u16 x).wf = true) : 0 ≤ x ∧ x < 65536 := by
  have hmin : IntKind.u16.min = 0 := rfl
  have hmax : IntKind.u16.max = 65535 := rfl
  simp only [Lit.wf, Bool.and_eq_true, decide_eq_true_eq] at h; omega
theorem wf_u32 {x : Int} (h : (Lit.int .u32 x).wf = true) : 0 ≤ x ∧ x < 4294967296 := by
  have hmin : IntKind.u32.min = 0 := rfl
  have hmax : IntKind.u32.max = 4294967295 := rfl
  simp only [Lit.wf, Bool.and_eq_true, decide_eq_true_eq] at h; omega
theorem wf_u64 {x : Int} (h : (Lit.int .u64 x).wf = true) : 0 ≤ x ∧ x < 18446744073709551616 := by
  have hmin : IntKind.u64.min = 0 := rfl
  have hmax : IntKind.u64.max = 18446744073709551615 := rfl
  simp only [Lit.wf, Bool.and_eq_true, decide_eq_true_eq] at h; omega
theorem okc_int {P : Program} {w : World} {n : Nat} {t : TypeId} {k : IntKind} {cs : List Value} (ht : P.underlying t = some (.int k)) (h : OKC P w n t cs) : ∃ x, cs = [.int k x] ∧ (Lit.int k x).wf = true := by
  cases n with
  | zero => exact h.elim
  | succ n => unfold OKC at h; rw [ht] at h; exact h
theorem okc_nat {P : Program} {w : World} {t : TypeId} {k : IntKind} {top : Nat} {a : Int} (ht : P.underlying t = some (.int k)) (hk : ∀ x, (Lit.int k x).wf = true → 0 ≤ x ∧ x < (top : Int)) (h : ∃ n, OKC P w n t [.int k a]) : ∃ c : Nat, a = c ∧ c < top := by
  obtain ⟨n, h⟩ := h
  obtain ⟨x, h1, h2⟩ := okc_int ht h
  simp at h1; subst h1
  obtain ⟨h0, h3⟩ := hk _ h2
  obtain ⟨c, rfl⟩ := Int.eq_ofNat_of_zero_le h0
  exact ⟨c, rfl, by omega⟩
/-- A slice of bytes. -/
theorem okc_u8row {P : Program} {w : World} {t e : TypeId} {v : Value} (ht : P.underlying t = some (.slice e)) (he : P.underlying e = some (.int .u8)) (hc : P.cellsOf e = 1) (h : ∃ n, OKC P w n t [v]) :
    ∃ (l : List Nat) (a : Option Addr) (cap : Nat), v = .slice a l.length cap ∧ (∀ c ∈ l, c < 256) ∧ RowIs w 1 v l.length (l.flatMap fun (c : Nat) => [Value.int .u8 (c : Int)]) := by
  obtain ⟨n, h⟩ := h
  cases n with
  | zero => exact h.elim
  | succ n =>
    obtain ⟨l, hg, hr, hby⟩ := OKC.row (fun (c : Nat) => [Value.int .u8 (c : Int)]) (fun c => c < 256) 1 ht hc (by decide) (fun _ => rfl) (fun cs hcs => by
      obtain ⟨x, rfl, hx⟩ := okc_int he hcs
      obtain ⟨h0, h1⟩ := wf_u8 hx
      obtain ⟨c, rfl⟩ := Int.eq_ofNat_of_zero_le h0
      exact ⟨c, rfl, by omega⟩) h
    obtain ⟨a, cap, hv⟩ := hr.form
    exact ⟨l, a, cap, hv, hg, hr⟩
theorem u8row_at (l : List Nat) (k c : Nat) (h : l[k]? = some c) : (l.flatMap fun (c : Nat) => [Value.int .u8 (c : Int)])[k]? = some (.int .u8 (c : Int)) := by
  have := flatMap_at (fun (c : Nat) => [Value.int .u8 (c : Int)]) 1 (by decide) (fun _ => rfl) l k c h 0 (by decide) k (by omega)
  simpa using this
end Go.Proofs.YthageoibkeebhaaGreatDoor
