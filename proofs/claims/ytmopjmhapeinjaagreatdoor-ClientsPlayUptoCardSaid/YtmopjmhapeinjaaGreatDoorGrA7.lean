/- Several texts in one: ReadD Cli. No condition. -/
import Derived.Test.YtmopjmhapeinjaaGreatDoorGrA1
import Derived.Test.YtmopjmhapeinjaaGreatDoorRows
import Derived.Test.YtmopjmhapeinjaaGreatDoorGrA3
import Derived.Lib.SliceRun
import Derived.Test.YtmopjmhapeinjaaGreatDoorGrA0
/- What a parameter that reads as data looks like in memory, where all that comes in is of bulk at most 1048576: no text and no list is longer. (Printed by mkreadd.py out of XRead.) No condition. -/
namespace Go.Proofs.YtmopjmhapeinjaaGreatDoor
open Go.RowKit
theorem bulk_one {H : Type} (d : DataW H) : 1 ≤ Rows.uptoBulk d := by
  cases d with
  | lit l => cases l <;> simp [Rows.uptoBulk]
  | nil => simp [Rows.uptoBulk]
  | ptr d => simp [Rows.uptoBulk]
  | slice elems spare => simp [Rows.uptoBulk]
  | agg parts => simp [Rows.uptoBulk]
  | iface t d => simp [Rows.uptoBulk]
  | map entries => simp [Rows.uptoBulk]
  | held h => simp [Rows.uptoBulk]
theorem bulk_part {H : Type} {d : DataW H} {l : List (DataW H)} (h : d ∈ l) : Rows.uptoBulk d ≤ Rows.uptoBulkAll l := by
  induction l with
  | nil => cases h
  | cons x r ih =>
    simp only [Rows.uptoBulkAll]
    cases List.mem_cons.1 h with
    | inl e => subst e; omega
    | inr e => have := ih e; omega
theorem bulk_len {H : Type} (l : List (DataW H)) : l.length ≤ Rows.uptoBulkAll l := by
  induction l with
  | nil => simp [Rows.uptoBulkAll]
  | cons x r ih => have := bulk_one x; simp only [Rows.uptoBulkAll, List.length_cons]; omega
theorem bulk_slice {H : Type} (elems spare : List (DataW H)) : elems.length + 1 ≤ Rows.uptoBulk (.slice elems spare) := by
  have h1 := bulk_len elems
  simp only [Rows.uptoBulk]
  omega
def OKD (P : Program) (w : World) : Nat → TypeId → List Value → Prop
  | 0, _, _ => False
  | n + 1, t, cs => match P.underlying t with
    | some .bool => ∃ b, cs = [.bool b]
    | some (.int k) => ∃ x, cs = [.int k x] ∧ (Lit.int k x).wf = true
    | some .string => ∃ s : ByteArray, cs = [.string s] ∧ s.size ≤ 1048576
    | some (.slice e) => cs = [.slice none 0 0] ∨ ∃ (a : Addr) (len cap : Nat), cs = [.slice (some a) len cap] ∧ len ≤ cap ∧ cap ≤ maxLen ∧ len ≤ 1048576 ∧
        ∀ i, i < len → ∃ c, w.cells? 0 (a.add (i * P.cellsOf e)) (P.cellsOf e) = some c ∧ OKD P w n e c
    | some (.struct fs) => cs.length = P.cellsOf t ∧ ∀ f ∈ fs.toList, OKD P w n f.type ((cs.drop f.offset).take (P.cellsOf f.type))
    | some (.array m e) => cs.length = P.cellsOf t ∧ ∀ i, i < m → OKD P w n e ((cs.drop (i * P.cellsOf e)).take (P.cellsOf e))
    | _ => True

theorem OKD.of_trod {H : Type} {enc : TypeId × Value → H} {P : Program} {w : World} {spare : Nat → Bool} {held : Bool} : ∀ (n : Nat) (t : TypeId) (cs : List Value) (d : DataW H) (ps : List MemPlace),
    DataW.trod enc P w 0 spare held n t cs = some (d, ps) → Rows.uptoBulk d ≤ 1048576 → OKD P w n t cs
  | 0, _, _, _, _, h, _ => by simp [DataW.trod] at h
  | n + 1, t, cs, d, ps, h, hw => by
    unfold OKD
    cases hu : P.underlying t with
    | none => trivial
    | some u =>
      unfold DataW.trod at h
      rw [hu] at h
      cases u with
      | bool =>
        split at h <;> simp_all
      | int k =>
        split at h <;> simp_all
      | string =>
        split at h <;> try (simp_all; done)
        rename_i s _
        split at h
        · simp only [Option.some.injEq, Prod.mk.injEq] at h
          obtain ⟨rfl, _⟩ := h
          refine ⟨s, rfl, ?_⟩
          have e : s.data.toList.length = s.size := by rw [Array.length_toList]; rfl
          simp only [Rows.uptoBulk] at hw
          omega
        · cases h
      | slice e =>
        split at h <;> try (simp_all; done)
        rename_i e' a len cap hh
        obtain rfl : e = e' := by simp_all
        right
        simp only at h
        split at h
        · rename_i hb
          rw [Option.bind_eq_some_iff] at h
          obtain ⟨elems, he, h2⟩ := h
          rw [Option.map_eq_some_iff] at h2
          obtain ⟨rest, _, h3⟩ := h2
          simp only [Prod.mk.injEq] at h3
          obtain ⟨rfl, _⟩ := h3
          have hlen : elems.length = len := by
            have := mapM_len he
            simpa using this
          refine ⟨a, len, cap, rfl, hb.2.1, hb.2.2, ?_, fun i hi => ?_⟩
          · have := bulk_slice (elems.map (·.1)) (rest.map (·.1))
            rw [List.length_map, hlen] at this
            omega
          · obtain ⟨y, hy, hy2⟩ := mapM_get he i i (by simp [hi])
            rw [Option.bind_eq_some_iff] at hy2
            obtain ⟨c, hc, hc2⟩ := hy2
            refine ⟨c, hc, OKD.of_trod n e c y.1 y.2 hc2 ?_⟩
            have h1 := bulk_part (d := y.1) (l := elems.map (·.1)) (List.mem_map.2 ⟨y, List.mem_of_getElem? hy, rfl⟩)
            simp only [Rows.uptoBulk] at hw
            omega
        · cases h
      | struct fs =>
        split at h <;> try (simp_all; done)
        rename_i fs' hh
        obtain rfl : fs = fs' := by simp_all
        split at h
        · rename_i hl
          rw [Option.map_eq_some_iff] at h
          obtain ⟨xs, hx, h3⟩ := h
          simp only [Prod.mk.injEq] at h3
          obtain ⟨rfl, _⟩ := h3
          refine ⟨hl, fun f hf => ?_⟩
          obtain ⟨j, hj⟩ := List.getElem?_of_mem hf
          obtain ⟨y, hy, hy2⟩ := mapM_get hx j f hj
          refine OKD.of_trod n _ _ y.1 y.2 hy2 ?_
          have h1 := bulk_part (d := y.1) (l := xs.map (·.1)) (List.mem_map.2 ⟨y, List.mem_of_getElem? hy, rfl⟩)
          simp only [Rows.uptoBulk] at hw
          omega
        · cases h
      | array m e =>
        split at h <;> try (simp_all; done)
        rename_i m' e' hh
        obtain ⟨rfl, rfl⟩ : m = m' ∧ e = e' := by simp_all
        split at h
        · rename_i hl
          rw [Option.map_eq_some_iff] at h
          obtain ⟨xs, hx, h3⟩ := h
          simp only [Prod.mk.injEq] at h3
          obtain ⟨rfl, _⟩ := h3
          refine ⟨hl, fun i hi => ?_⟩
          obtain ⟨y, hy, hy2⟩ := mapM_get hx i i (by simp [hi])
          refine OKD.of_trod n _ _ y.1 y.2 hy2 ?_
          have h1 := bulk_part (d := y.1) (l := xs.map (·.1)) (List.mem_map.2 ⟨y, List.mem_of_getElem? hy, rfl⟩)
          simp only [Rows.uptoBulk] at hw
          omega
        · cases h
      | _ => trivial
/-- A slice whose elements read as 'M': a row of cells. -/
theorem OKD.row {P : Program} {w : World} {n : Nat} {t e : TypeId} {v : Value} {M : Type} (cells : M → List Value) (good : M → Prop) (size : Nat) (ht : P.underlying t = some (.slice e)) (hsz : P.cellsOf e = size) (hpos : 0 < size)
    (hlen : ∀ m, (cells m).length = size) (hM : ∀ cs, OKD P w n e cs → ∃ m, cs = cells m ∧ good m) (h : OKD P w (n + 1) t [v]) :
    ∃ l : List M, (∀ m ∈ l, good m) ∧ RowIs w size v l.length (l.flatMap cells) ∧ l.length ≤ 1048576 := by
  unfold OKD at h
  rw [ht] at h
  simp only [hsz] at h
  rcases h with h | ⟨a, len, cap, h, hc, hm, hbytes, he⟩
  · simp at h; subst h
    exact ⟨[], by simp, RowIs.nil _ _ _ _ (fun _ => rfl), by simp⟩
  · simp at h; subst h
    unfold maxLen at hm
    rcases Nat.eq_zero_or_pos len with rfl | h0
    · exact ⟨[], by simp, RowIs.nil _ _ _ _ (by simp), by simp⟩
    · have hx : ∀ k, k ≤ len → ∃ l : List M, l.length = k ∧ (∀ m ∈ l, good m) ∧ ∀ i, i < k → ∃ m, l[i]? = some m ∧ w.cells? 0 (a.add (i * size)) size = some (cells m) := by
        intro k
        induction k with
        | zero => intro _; exact ⟨[], rfl, by simp, fun i hi => by omega⟩
        | succ k ih =>
          intro hk
          obtain ⟨l, hl, hg, hi⟩ := ih (by omega)
          obtain ⟨c, hc1, hc2⟩ := he k (by omega)
          obtain ⟨m, rfl, hgm⟩ := hM c hc2
          refine ⟨l ++ [m], by simp [hl], ?_, ?_⟩
          · intro x hx
            rcases List.mem_append.1 hx with hx | hx
            · exact hg x hx
            · simp at hx; subst hx; exact hgm
          · intro i hik
            by_cases hi2 : i < k
            · obtain ⟨m', h1, h2⟩ := hi i hi2
              exact ⟨m', by rw [List.getElem?_append_left (by omega)]; exact h1, h2⟩
            · obtain rfl : i = k := by omega
              exact ⟨m, by rw [List.getElem?_append_right (by omega)]; simp [hl], hc1⟩
      obtain ⟨l, hl, hg, hi⟩ := hx len (Nat.le_refl _)
      have hfl : (l.flatMap cells).length = len * size := by
        rw [List.length_flatMap]
        have : l.map (fun m => (cells m).length) = List.replicate l.length size := by
          rw [List.eq_replicate_iff]
          exact ⟨by simp, fun b hb => by obtain ⟨m, _, rfl⟩ := List.mem_map.1 hb; exact hlen m⟩
        rw [this, List.sum_replicate_nat, hl]
      obtain ⟨b, off, sp⟩ := a
      have hsp : sp = none := by
        obtain ⟨m, h1, h2⟩ := hi 0 h0
        obtain ⟨_, h3, h4⟩ := World.cells?_some h2
        have h5 := h4 0 hpos
        rw [List.getElem?_eq_getElem (by omega)] at h5
        have := World.cell?_spot h5
        simpa [Addr.add] using this
      subst hsp
      refine ⟨l, hg, ⟨?_, by omega, .inr ⟨b, off, cap, by rw [hl], by omega, ?_⟩⟩, by rw [hl]; exact hbytes⟩
      · rw [hfl, hl]
      · intro j hj
        rw [hl] at hj
        have hjs : j / size < len := Nat.div_lt_of_lt_mul (by rw [Nat.mul_comm]; exact hj)
        have hjr : j % size < size := Nat.mod_lt _ hpos
        obtain ⟨m, h1, h2⟩ := hi (j / size) hjs
        obtain ⟨_, h3, h4⟩ := World.cells?_some h2
        have h5 := h4 (j % size) hjr
        have hj2 : j = j / size * size + j % size := by rw [Nat.mul_comm]; exact (Nat.div_add_mod j size).symm
        have hadd : ((⟨b, off, none⟩ : Addr).add (j / size * size)).add (j % size) = ⟨b, off + j, none⟩ := by
          conv => rhs; rw [hj2]
          rw [Addr.add_mid, Addr.add_mid, Nat.add_assoc]
        rw [hadd] at h5
        rw [h5]
        exact (flatMap_at cells size hpos hlen l (j / size) m h1 (j % size) hjr j hj2).symm
theorem okd_int {P : Program} {w : World} {n : Nat} {t : TypeId} {k : IntKind} {cs : List Value} (ht : P.underlying t = some (.int k)) (h : OKD P w n t cs) : ∃ x, cs = [.int k x] ∧ (Lit.int k x).wf = true := by
  cases n with
  | zero => exact h.elim
  | succ n => unfold OKD at h; rw [ht] at h; exact h
theorem okd_str {P : Program} {w : World} {n : Nat} {t : TypeId} {cs : List Value} (ht : P.underlying t = some .string) (h : OKD P w n t cs) : ∃ s : ByteArray, cs = [.string s] ∧ s.size ≤ 1048576 := by
  cases n with
  | zero => exact h.elim
  | succ n => unfold OKD at h; rw [ht] at h; exact h
theorem okd_bool {P : Program} {w : World} {n : Nat} {t : TypeId} {cs : List Value} (ht : P.underlying t = some .bool) (h : OKD P w n t cs) : ∃ b : Bool, cs = [.bool b] := by
  cases n with
  | zero => exact h.elim
  | succ n => unfold OKD at h; rw [ht] at h; exact h
/-- A slice in a cell of its own. -/
theorem okd_one {P : Program} {w : World} {n : Nat} {t e : TypeId} {cs : List Value} (ht : P.underlying t = some (.slice e)) (h : OKD P w (n + 1) t cs) : ∃ v, cs = [v] := by
  unfold OKD at h
  rw [ht] at h
  rcases h with h' | ⟨_, _, _, h', _⟩
  · exact ⟨_, h'⟩
  · exact ⟨_, h'⟩
theorem okd_row {P : Program} {w : World} {n : Nat} {t e : TypeId} {cs : List Value} {M : Type} (cells : M → List Value) (good : M → Prop) (size : Nat) (ht : P.underlying t = some (.slice e)) (hsz : P.cellsOf e = size) (hpos : 0 < size) (hlen : ∀ m, (cells m).length = size) (hM : ∀ n cs, OKD P w n e cs → ∃ m, cs = cells m ∧ good m) (h : OKD P w n t cs) :
    ∃ (l : List M) (a : Option Addr) (cap : Nat), cs = [.slice a l.length cap] ∧ (∀ m ∈ l, good m) ∧ RowIs w size (.slice a l.length cap) l.length (l.flatMap cells) ∧ l.length ≤ 1048576 := by
  cases n with
  | zero => exact h.elim
  | succ n =>
    obtain ⟨v, rfl⟩ := okd_one ht h
    obtain ⟨l, hg, hr, hby⟩ := OKD.row cells good size ht hsz hpos hlen (fun cs hc => hM n cs hc) h
    obtain ⟨a, cap, rfl⟩ := hr.form
    exact ⟨l, a, cap, rfl, hg, hr, hby⟩
end Go.Proofs.YtmopjmhapeinjaaGreatDoor

/- A client: its block, and what its methods do: New, Drops, Waits, Ask. No condition. -/
namespace Go.Proofs.YtmopjmhapeinjaaGreatDoor
open Go.RowKit
theorem ch_eql_nil (w : World) (a : Option Addr) (n c n' c' : Nat) : (binOp .eql 48 (.slice a n c) (.slice none n' c')).run Tryz.prog w = .ok (.bool a.isNone) w := Lib.run_eql_slice_nil w _ _ a n c n' c' Tryz.underlying48
theorem made_row (w : World) (e : TypeId) (size : Nat) : (w.alloc (.cells #[] e)).ownsRow w.heap.size e size (.slice (some ⟨w.heap.size, 0, none⟩) 0 0) 0 [] := World.ownsRow_made w #[] 0 (Nat.le_refl _) (Nat.zero_le _) (by simp)
theorem own_slice {w : World} {base : Nat} {e : TypeId} {size : Nat} {v : Value} {n : Nat} {xs : List Value} (h : w.ownsRow base e size v n xs) : ∃ a cap, v = .slice a n cap ∧ n ≤ cap := by
  obtain ⟨_, ⟨h1, h0⟩ | ⟨g, cap, cur, rfl, hb, _, hc, hm, _⟩⟩ := h
  · exact ⟨none, 0, by rw [h1, h0], by omega⟩
  · exact ⟨_, cap, rfl, hc⟩
/-- What Clone of n changes tells: a slice of the call's own. -/
def Cloned (w : World) (n : Nat) (xs : List Value) (e : Ending) (w' : World) : Prop := ∃ a cap, e = .returned (.slice a n cap) ∧ n ≤ cap ∧ w'.ownsRow w.heap.size 93 3 (.slice a n cap) n xs ∧ Ext w w'
/-- slices.Clone of changes, its block the call's own. -/
theorem clone_ch (w : World) (l : List Ch) (a : Option Addr) (cap : Nat) (h : ChsAt w l a cap) :
    Calls Tryz.prog 31 #[.slice a l.length cap] w (Cloned w l.length (l.flatMap Ch.cells)) := by
  obtain ⟨hr, hn, _⟩ := h
  have h1 := ch_one l
  generalize l.flatMap Ch.cells = xs at *
  generalize l.length = n at *
  have q30 := ch_eql_nil
  cases a with
  | none =>
    obtain ⟨hl, _, ⟨rfl, a', cap', he, hc⟩ | ⟨b, off, cap', he, _⟩⟩ := hr
    · injection he with e1 _ e3
      subst e1 e3
      obtain rfl := hc rfl
      obtain rfl : xs = [] := List.eq_nil_of_length_eq_zero (by simpa using hl)
      go_enter Tryz.func31, Tryz.ntmps31
      go_wp2
      go_ret
      exact ⟨none, 0, rfl, Nat.le_refl _, World.ownsRow_nil _ _ _ _, Ext.refl _⟩
    · injection he with e1; cases e1
  | some ad =>
    have hl := hr.2.1
    go_enter Tryz.func31, Tryz.ntmps31
    go_wp2_with (at_builtin; refine wpList_append_row rfl (.tmp 5) (.tmp 6) 48 93 rfl Tryz.underlying48 el_ch (w.alloc (.cells #[] 93)) w.heap.size 0 [] _ (by rfl) (made_row w 93 3) (.slice (some ad) n cap) n xs rfl (hr.ext ((Ext.refl w).alloc _)) h1 (by omega) (by omega) (by simp) ?_; intro v' w' hown hb)
    go_ret
    rw [Nat.zero_add, List.nil_append] at hown
    obtain ⟨a', cap', rfl, hc⟩ := own_slice hown
    exact ⟨a', cap', rfl, hc, hown, Below.trans ((Ext.refl w).alloc _) hb⟩
theorem clip_ch (w : World) (a : Option Addr) (n cap : Nat) (hc : n ≤ cap) : Calls Tryz.prog 35 #[.slice a n cap] w fun e w' => e = .returned (.slice a n n) ∧ w = w' := by
  go_enter Tryz.func35, Tryz.ntmps35
  go_wp2
  go_ret
  exact ⟨rfl, rfl⟩
/-- A client's block. -/
def ClAt (w : World) (c : Nat) (id num : Int) (p : Option Addr) : Prop := w.heap[c]? = some (.cells #[.int .u8 id, .int .u32 num, .pointer p] 87 (0, 0))
theorem ClAt.cells {w : World} {c : Nat} {id num : Int} {p : Option Addr} (h : ClAt w c id num p) : w.cell? ⟨c, 0, none⟩ = some (.int .u8 id) ∧ w.cell? ⟨c, 1, none⟩ = some (.int .u32 num) ∧ w.cell? ⟨c, 2, none⟩ = some (.pointer p) ∧ ∀ o, w.frozen? ⟨c, o, none⟩ = false := by
  refine ⟨?_, ?_, ?_, fun o => ?_⟩
  · rw [cell_of_row _ _ 0 _ 87 (0, 0) h]; rfl
  · rw [cell_of_row _ _ 1 _ 87 (0, 0) h]; rfl
  · rw [cell_of_row _ _ 2 _ 87 (0, 0) h]; rfl
  · unfold World.frozen?; rw [h]; simp
theorem ClAt.put1 {w : World} {c : Nat} {id num : Int} {p : Option Addr} (h : ClAt w c id num p) (n : Int) : ClAt (w.setCell ⟨c, 1, none⟩ (.int .u32 n)) c id n p := by
  unfold ClAt at h ⊢
  rw [setCell_eq_setRow _ _ _ _ _ _ _ h, setRow_heap _ _ _ _ _ _ h]; rfl
theorem ClAt.put2 {w : World} {c : Nat} {id num : Int} {p : Option Addr} (h : ClAt w c id num p) (q : Option Addr) : ClAt (w.setCell ⟨c, 2, none⟩ (.pointer q)) c id num q := by
  unfold ClAt at h ⊢
  rw [setCell_eq_setRow _ _ _ _ _ _ _ h, setRow_heap _ _ _ _ _ _ h]; rfl
theorem ClAt.off {B : Nat → Prop} {w w' : World} {c : Nat} {id num : Int} {p : Option Addr} (h : ClAt w c id num p) (he : OffB B w w') (hb : ¬ B c) : ClAt w' c id num p := by
  unfold ClAt at h ⊢
  rw [he.block c (Array.getElem?_eq_some_iff.1 h).1 hb]; exact h
theorem ClAt.ext {w w' : World} {c : Nat} {id num : Int} {p : Option Addr} (h : ClAt w c id num p) (he : Ext w w') : ClAt w' c id num p := he.row h
/-- What a client waits for: its block, and where the changes lie. -/
def WaAt (w : World) (g : Nat) (x : Ak) (lv : Int) (a : Option Addr) (cap : Nat) : Prop := w.heap[g]? = some (.cells ((x.row (.slice a x.chs.length cap)).push (.int .u8 lv)) 95 (0, 0)) ∧ ChsAt w x.chs a cap
theorem WaAt.ext {w w' : World} {g : Nat} {x : Ak} {lv : Int} {a : Option Addr} {cap : Nat} (h : WaAt w g x lv a cap) (he : Ext w w') : WaAt w' g x lv a cap := ⟨he.row h.1, h.2.ext he⟩
theorem WaAt.cells {w : World} {g : Nat} {x : Ak} {lv : Int} {a : Option Addr} {cap : Nat} (h : WaAt w g x lv a cap) :
    w.rangeAt g 0 (x.row (.slice a x.chs.length cap)).toList ∧ w.cell? ⟨g, 8, none⟩ = some (.int .u8 lv) := by
  refine ⟨fun r v hv => ?_, ?_⟩
  · have hr : r < 8 := (List.getElem?_eq_some_iff.1 hv).1
    rw [Nat.zero_add, cell_of_row _ _ r _ 95 (0, 0) h.1, Array.getElem?_push_lt (by exact hr), ← hv, Array.getElem?_toList]
    exact (Array.getElem?_eq_getElem (by exact hr)).symm
  · rw [cell_of_row _ _ 8 _ 95 (0, 0) h.1]; rfl
theorem cnew_ok (w : World) (id : Int) (h1 : 1 ≤ id) (h2 : id ≤ 8) : Calls Tryz.prog 6 #[.int .u8 id] w fun e w' => e = .returned (.tuple #[.pointer (some ⟨w.heap.size, 0, none⟩), .int .i64 0]) ∧ w' = w.alloc (.cells #[.int .u8 id, .int .u32 0, .pointer none] 87) := by
  have h3 : ¬ id < 1 := by omega
  have h4 : ¬ 8 < id := by omega
  go_enter Tryz.func6, Tryz.ntmps6
  go_wp2
  go_ret2
  exact ⟨rfl, rfl⟩
theorem cnew_arg (w : World) (id : Int) (h : id < 1 ∨ 8 < id) : Calls Tryz.prog 6 #[.int .u8 id] w fun e w' => e = .returned (.tuple #[.pointer none, .int .i64 1]) ∧ w = w' := by
  rcases h with h | h
  · go_enter Tryz.func6, Tryz.ntmps6
    go_wp2
    go_ret2
    exact ⟨rfl, rfl⟩
  · have h3 : ¬ id < 1 := by omega
    go_enter Tryz.func6, Tryz.ntmps6
    go_wp2
    go_ret2
    exact ⟨rfl, rfl⟩
theorem there_nil (w : World) : Calls Tryz.prog 29 #[.pointer none] w fun e w' => e = .returned (.bool false) ∧ w = w' := by
  go_enter Tryz.func29, Tryz.ntmps29
  go_wp2
  go_ret
  exact ⟨rfl, rfl⟩
theorem there_any (w : World) (c : Nat) (id num : Int) (p : Option Addr) (h : ClAt w c id num p) (h1 : 1 ≤ id) : Calls Tryz.prog 29 #[.pointer (some ⟨c, 0, none⟩)] w fun e w' => e = .returned (.bool true) ∧ w = w' := by
  obtain ⟨c0, c1, c2, cf⟩ := h.cells
  have h3 : 0 < id := by omega
  clear h cf
  go_enter Tryz.func29, Tryz.ntmps29
  go_wp2
  go_ret
  exact ⟨rfl, rfl⟩
theorem drops_nil (w : World) : Calls Tryz.prog 17 #[.pointer none] w fun e w' => e = .returned (.int .i64 2) ∧ w = w' := by
  go_enter Tryz.func17, Tryz.ntmps17
  go_wp2_with fail
  refine (there_nil _).mono ?_
  rintro e w' ⟨rfl, rfl⟩
  go_wp2
  go_ret
  exact ⟨rfl, rfl⟩
theorem drops_idle (w : World) (c : Nat) (id num : Int) (h : ClAt w c id num none) (h1 : 1 ≤ id) : Calls Tryz.prog 17 #[.pointer (some ⟨c, 0, none⟩)] w fun e w' => e = .returned (.int .i64 9) ∧ w = w' := by
  obtain ⟨c0, c1, c2, cf⟩ := h.cells
  clear cf
  go_enter Tryz.func17, Tryz.ntmps17
  go_wp2_with fail
  refine (there_any _ c id num _ h h1).mono ?_
  rintro e w' ⟨rfl, rfl⟩
  go_wp2
  go_ret
  exact ⟨rfl, rfl⟩
theorem drops_waits (w : World) (c : Nat) (id num : Int) (g : Addr) (h : ClAt w c id num (some g)) (h1 : 1 ≤ id) : Calls Tryz.prog 17 #[.pointer (some ⟨c, 0, none⟩)] w fun e w' => e = .returned (.int .i64 0) ∧ ClAt w' c id num none ∧ OffB (fun k => k = c) w w' := by
  obtain ⟨c0, c1, c2, cf⟩ := h.cells
  have cf2 := cf 2
  have hp := h.put2 none
  have ho : OffB (fun k => k = c) w (w.setCell ⟨c, 2, none⟩ (.pointer none)) := OffB.setCell (B := fun k => k = c) (OffB.refl w) rfl _
  clear cf
  go_enter Tryz.func17, Tryz.ntmps17
  go_wp2_with fail
  refine (there_any _ c id num _ h h1).mono ?_
  rintro e w' ⟨rfl, rfl⟩
  go_wp2
  go_ret
  exact ⟨rfl, hp, ho⟩
end Go.Proofs.YtmopjmhapeinjaaGreatDoor
