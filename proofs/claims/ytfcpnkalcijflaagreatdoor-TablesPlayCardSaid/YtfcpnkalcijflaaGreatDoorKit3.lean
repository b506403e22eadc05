/- Slices of slices: what a cut from the front and a cut from the back read as, and their runs as equations for the walk. No condition. -/
import Derived.Test.YtfcpnkalcijflaaGreatDoorKit2
import Derived.Laws.AppendOwnNone
namespace Go.Proofs.YtfcpnkalcijflaaGreatDoor
open Go.RowKit

/-- The address behind 'a[k:]'. -/
def tailAddr (a : Option Addr) (cap k size : Nat) : Option Addr := if cap = k then a else a.map (·.add (k * size))

theorem RowIs.take {w : World} {size : Nat} {a : Option Addr} {cap n : Nat} {xs : List Value} (h : RowIs w size (.slice a n cap) n xs) {k : Nat} (hk : k ≤ n) : RowIs w size (.slice a k cap) k (xs.take (k * size)) := by
  obtain ⟨h1, h2, h3⟩ := h
  have hks : k * size ≤ n * size := Nat.mul_le_mul_right _ hk
  refine ⟨by rw [List.length_take, h1]; omega, by omega, ?_⟩
  rcases h3 with ⟨h0, a', cap', he, hz⟩ | ⟨b, off, cap', he, hc, hd⟩
  · injection he with e1 _ e3
    subst e1; subst e3
    have hk0 : k = 0 := by omega
    exact .inl ⟨hk0, a, cap, by rw [hk0], hz⟩
  · injection he with e1 _ e3
    subst e1; subst e3
    refine .inr ⟨b, off, cap, rfl, by omega, fun i hi => ?_⟩
    rw [hd i (by omega), List.getElem?_take_of_lt hi]

theorem RowIs.drop {w : World} {size : Nat} {a : Option Addr} {cap n : Nat} {xs : List Value} (h : RowIs w size (.slice a n cap) n xs) (k : Nat) : RowIs w size (.slice (tailAddr a cap k size) (n - k) (cap - k)) (n - k) (xs.drop (k * size)) := by
  obtain ⟨h1, h2, h3⟩ := h
  refine ⟨by rw [List.length_drop, h1, Nat.sub_mul], by omega, ?_⟩
  rcases h3 with ⟨h0, a', cap', he, hz⟩ | ⟨b, off, cap', he, hc, hd⟩
  · injection he with e1 _ e3
    subst e1; subst e3
    refine .inl ⟨by omega, _, _, by rw [show n - k = 0 by omega], fun hn => ?_⟩
    unfold tailAddr at hn
    split at hn
    · rw [hz hn]; omega
    · simp at hn; rw [hz hn]; omega
  · injection he with e1 _ e3
    subst e1; subst e3
    by_cases hkn : n ≤ k
    · refine .inl ⟨by omega, _, _, by rw [show n - k = 0 by omega], fun hn => ?_⟩
      unfold tailAddr at hn
      split at hn
      · simp at hn
      · simp at hn
    · refine .inr ⟨b, off + k * size, cap - k, ?_, by omega, fun i hi => ?_⟩
      · unfold tailAddr
        rw [if_neg (by omega), Option.map_some, Addr.add_mid]
      · have e : (n - k) * size = n * size - k * size := Nat.sub_mul _ _ _
        rw [Nat.add_assoc, hd (k * size + i) (by omega), List.getElem?_drop]

theorem run_cut_front {P : Program} {t e : TypeId} {size : Nat} (ht : P.underlying t = some (.slice e)) (he : (P.info? e).map (·.size) = some size) (a : Option Addr) (n cap k : Nat) (hk : k ≤ cap) (w : World) :
    (Instr.slice t (.slice a n cap) none (some (.int .i64 (k : Int))) none).run P w = .ok (.slice a k cap) w := by
  have hel : P.elem t = e := by simp [Program.elem, ht]
  have ht' : P.underlying t = some (.slice (P.elem t)) := by rw [hel]; exact ht
  have hs : (sizeOf e).run P w = .ok size w := by
    cases hq : P.info? e with
    | none => simp [hq] at he
    | some i => simp [hq] at he; simp [sizeOf, typeInfo, hq, he]
  rw [run_slice_h w t a n cap ht' .i64 (k : Int) (by omega) (by omega), hel, hs]
  simp only [Result.andThen_ok, sliced, Int.toNat_natCast, Nat.zero_mul, Nat.sub_zero]
  congr 2
  split
  · rfl
  · cases a <;> simp [Addr.add]

theorem run_cut_back {P : Program} {t e : TypeId} {size : Nat} (ht : P.underlying t = some (.slice e)) (he : (P.info? e).map (·.size) = some size) (a : Option Addr) (n cap k : Nat) (hk : k ≤ n) (w : World) :
    (Instr.slice t (.slice a n cap) (some (.int .i64 (k : Int))) none none).run P w = .ok (.slice (tailAddr a cap k size) (n - k) (cap - k)) w := by
  have hel : P.elem t = e := by simp [Program.elem, ht]
  have ht' : P.underlying t = some (.slice (P.elem t)) := by rw [hel]; exact ht
  have hs : (sizeOf e).run P w = .ok size w := by
    cases hq : P.info? e with
    | none => simp [hq] at he
    | some i => simp [hq] at he; simp [sizeOf, typeInfo, hq, he]
  rw [run_slice_l w t a n cap ht' .i64 (k : Int) (by omega) (by omega), hel, hs]
  simp only [Result.andThen_ok, sliced, Int.toNat_natCast, tailAddr]
/-- A callee's contract, in a region's class of worlds. -/
theorem calls_same {P : Program} {f : FuncId} {args : Array Value} {W w : World} {v : Value} (h : Ext W w) (c : Calls P f args w fun e w' => e = .returned v ∧ w = w') : Calls P f args w fun e w' => e = .returned v ∧ Ext W w' :=
  c.mono fun _ _ ⟨he, hw⟩ => ⟨he, hw ▸ h⟩
theorem calls_ext {P : Program} {f : FuncId} {args : Array Value} {W w : World} {v : Value} (h : Ext W w) (c : Calls P f args w fun e w' => e = .returned v ∧ Ext w w') : Calls P f args w fun e w' => e = .returned v ∧ Ext W w' :=
  c.mono fun _ _ ⟨he, hw⟩ => ⟨he, h.trans hw⟩

/-- 'append(out, xs...)', out nil or the call's own, xs whatever row there is. -/
theorem wpList_append_row {P : Program} {ops : Array Oper} {rest : List Oper} {o : Oper} {a : Act} {Q : Exit → Act → World → Prop} (hgd : o.guard = none) (s x : Operand) (t e : TypeId)
    (ho : o.op = .call { callee := .builtin .append, args := #[s, x], argTypes := #[t, t] }) (ht : P.underlying t = some (.slice e)) {size bytes : Nat} (hel : ElemIs P e size bytes)
    (w : World) (base n : Nat) (xs : List Value) (v : Value) (hs : a.eval s = v) (hown : w.ownsRow base e size v n xs) (xv : Value) (m : Nat) (news : List Value)
    (hx : a.eval x = xv) (hr : RowIs w size xv m news) (h1 : ∀ u ∈ news, u.oneCell' = true) (hn : n + m ≤ 9223372036854775807) (hb : (n + m) * bytes ≤ 140737488355328) (hbase : base ≤ w.heap.size)
    (h : ∀ v' w', w'.ownsRow base e size v' (n + m) (xs ++ news) → Below base w w' → wpList P ops Q rest (a.put o.dst v') w') : wpList P ops Q (o :: rest) a w := by
  obtain ⟨i, z, hi, hz, hsize, hby, hzs, hpos⟩ := hel
  have hk : ∀ ad c, xv = .slice (some ad) m c → (∀ j u, news[j]? = some u → w.cell? (ad.add j) = some u) → wpList P ops Q (o :: rest) a w := by
    intro ad c hxv hcell
    refine wpList_append_own _ hgd s x t ho base e i z size bytes ht hi hz hsize hby hzs hpos v n xs hs hown ad m c news (by rw [hx, hxv]) hr.1 hcell h1 (by unfold maxLen; omega) hb hbase ?_
    intro v' w' hown' hg _
    exact h v' w' hown' ((Below.refl base w).grown hg hbase (fun k hk => (hown.lt k hk).1))
  obtain ⟨hl, _, ⟨rfl, ad, c, rfl, hnil⟩ | ⟨b, off, c, rfl, hc, hd⟩⟩ := hr
  · have hnews : news = [] := List.eq_nil_of_length_eq_zero (by omega)
    subst hnews
    cases ad with
    | none =>
      obtain rfl := hnil rfl
      refine wpList_append_own_none hgd s x t ho base e i size ht hi v n xs hs hown hx ?_
      have := h v w (by simpa using hown) (Below.refl _ _)
      exact this
    | some ad => exact hk ad c rfl (fun j u hj => by simp at hj)
  · refine hk ⟨b, off, none⟩ c rfl (fun j u hj => ?_)
    have hj' : j < news.length := (List.getElem?_eq_some_iff.1 hj).1
    rw [Addr.add_mid, hd j (by omega), hj]
/-- A literal's block, just laid. -/
theorem RowIs.lit (w : World) (size n : Nat) (cs : Array Value) (e : TypeId) (fr : Nat × Nat) (hcs : cs.size = n * size) (hn : n ≤ 9223372036854775807) :
    RowIs (w.alloc (.cells cs e fr)) size (.slice (some ⟨w.heap.size, 0, none⟩) n n) n cs.toList := by
  refine ⟨by simpa using hcs, hn, .inr ⟨w.heap.size, 0, n, rfl, Nat.le_refl _, fun i hi => ?_⟩⟩
  rw [Nat.zero_add, cell_of_row _ _ i cs e fr (heap_alloc_new w _)]
  simp
end Go.Proofs.YtfcpnkalcijflaaGreatDoor
