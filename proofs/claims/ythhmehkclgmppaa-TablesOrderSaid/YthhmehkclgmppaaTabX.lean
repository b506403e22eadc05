/- A table that a call made itself, by what is in it: each method's contract over that. No condition. -/
import Derived.Test.YthhmehkclgmppaaLaw7e
namespace Go.Proofs.Ythhmehkclgmppaa
open Go.RowKit
theorem insL_map (ns : List Nd) : (ns.map Nd.e).length = ns.length := List.length_map ..
def szL : List En → Nat
  | [] => 0
  | e :: r => e.mark.key.size + e.val.size + szL r
theorem sz_map : ∀ ns : List Nd, sizeL ns = szL (ns.map Nd.e)
  | [] => rfl
  | n :: r => by simp only [sizeL, List.map_cons, szL, sz_map r]
/-- A table of the entries L, in memory that came behind w0. -/
def TabX (w0 w : World) (tb : Nat) (L : List En) : Prop := Ext w0 w ∧ ∃ hd ns, SkAt w tb hd ns ∧ ns.map Nd.e = L ∧ ∀ k, skB tb hd ns k → w0.heap.size ≤ k
theorem TabX.ext {w0 w w' : World} {tb : Nat} {L : List En} (h : TabX w0 w tb L) (he : Ext w w') : TabX w0 w' tb L := by
  obtain ⟨h0, hd, ns, h1, h2, h3⟩ := h
  exact ⟨h0.trans he, hd, ns, h1.ext he, h2, h3⟩
theorem TabX.rises {w0 w : World} {tb : Nat} {L : List En} (h : TabX w0 w tb L) : Rises L := by
  obtain ⟨_, hd, ns, h1, rfl, _⟩ := h
  exact h1.rises
theorem tx_new (w : World) : Calls Try.prog 21 #[] w fun e w' => e = .returned (.pointer (some ⟨w.heap.size + 1, 0, none⟩)) ∧ TabX w w' (w.heap.size + 1) [] := by
  refine (tnew_any w).mono ?_
  rintro e w' ⟨he, hS, hE⟩
  refine ⟨he, hE, w.heap.size, [], hS, rfl, ?_⟩
  rintro k (rfl | rfl | ⟨n, hn, _⟩)
  · omega
  · omega
  · cases hn
theorem tx_put {w0 w : World} {tb : Nat} {L : List En} (h : TabX w0 w tb L) (x : En) (t : Int) (hl : L.length ≤ 4096) (hs : x.small) : Calls Try.prog 11 #[.pointer (some ⟨tb, 0, none⟩), .agg (enRow x), .int .i64 t] w fun e w' => e = .returned (.int .i64 (putC L x t)) ∧ TabX w0 w' tb (putL L x t) := by
  obtain ⟨h0, hd, ns, h1, rfl, h3⟩ := h
  refine (put_any w tb hd ns x t h1 (by simpa using hl) hs).mono ?_
  rintro e w' ⟨ns', he, hS, hm, hb, hO⟩
  refine ⟨he, ?_, hd, ns', hS, hm, fun k hk => ?_⟩
  · exact Below.trans h0 (hO.below h3 h0.size)
  · rcases hb k hk with hk | hk
    · exact h3 k hk
    · have := h0.size; omega
/-- A Put leaves what lay behind w0 as it was, but the table. -/
theorem tx_put_off {w0 w : World} {tb : Nat} {L : List En} (h : TabX w0 w tb L) (x : En) (t : Int) (hl : L.length ≤ 4096) (hs : x.small) : Calls Try.prog 11 #[.pointer (some ⟨tb, 0, none⟩), .agg (enRow x), .int .i64 t] w fun e w' => e = .returned (.int .i64 (putC L x t)) ∧ TabX w0 w' tb (putL L x t) ∧ ∃ B : Nat → Prop, (∀ k, B k → k < w.heap.size) ∧ OffB B w w' := by
  obtain ⟨h0, hd, ns, h1, rfl, h3⟩ := h
  refine (put_any w tb hd ns x t h1 (by simpa using hl) hs).mono ?_
  rintro e w' ⟨ns', he, hS, hm, hb, hO⟩
  refine ⟨he, ⟨?_, hd, ns', hS, hm, fun k hk => ?_⟩, skB tb hd ns, fun k hk => h1.lt hk, hO⟩
  · exact Below.trans h0 (hO.below h3 h0.size)
  · rcases hb k hk with hk | hk
    · exact h3 k hk
    · have := h0.size; omega
theorem tx_arg {w0 w : World} {tb : Nat} {L : List En} (h : TabX w0 w tb L) (x : En) (t : Int) (hs : x.small) (hok : okB x t = false) : Calls Try.prog 11 #[.pointer (some ⟨tb, 0, none⟩), .agg (enRow x), .int .i64 t] w fun e w' => e = .returned (.int .i64 1) ∧ Ext w w' := by
  obtain ⟨h0, hd, ns, h1, rfl, h3⟩ := h
  exact put_arg w tb hd ns x t h1 hs hok
theorem tx_get {w0 w : World} {tb : Nat} {L : List En} (h : TabX w0 w tb L) (key : ByteArray) (seq : Nat) : Calls Try.prog 10 #[.pointer (some ⟨tb, 0, none⟩), .string key, .int .u64 (seq : Int)] w fun e w' => e = .returned (.tuple #[.agg (enRow ((getS L key seq).getD zEn)), .bool (getS L key seq).isSome]) ∧ Ext w w' := by
  obtain ⟨h0, hd, ns, h1, rfl, h3⟩ := h
  exact get_any w tb hd ns key seq h1
theorem tx_from {w0 w : World} {tb : Nat} {L : List En} (h : TabX w0 w tb L) (hl : L.length ≤ 4096) (m : Mk) (most : Int) : Calls Try.prog 12 #[.pointer (some ⟨tb, 0, none⟩), .agg #[.string m.key, .int .u64 (m.seq : Int), .bool m.gone], .int .i64 most] w (FromE ((restL L m).take most.toNat) w) := by
  obtain ⟨h0, hd, ns, h1, rfl, h3⟩ := h
  exact from_any w tb hd ns m most h1 (by simpa using hl)
theorem tx_len {w0 w : World} {tb : Nat} {L : List En} (h : TabX w0 w tb L) : Calls Try.prog 14 #[.pointer (some ⟨tb, 0, none⟩)] w fun e w' => e = .returned (.int .i64 (L.length : Int)) ∧ w = w' := by
  obtain ⟨h0, hd, ns, h1, rfl, h3⟩ := h
  rw [List.length_map]
  exact tlen_ok h1
theorem tx_bytes {w0 w : World} {tb : Nat} {L : List En} (h : TabX w0 w tb L) : Calls Try.prog 13 #[.pointer (some ⟨tb, 0, none⟩)] w fun e w' => e = .returned (.int .i64 (szL L : Int)) ∧ w = w' := by
  obtain ⟨h0, hd, ns, h1, rfl, h3⟩ := h
  rw [← sz_map]
  exact tbytes_ok h1
/-- What From tells, as a row. -/
theorem from_row {l : List En} {w w' : World} {e : Ending} (h : FromE l w e w') : ∃ a cap, e = .returned (.slice a l.length cap) ∧ RowIs w' 4 (.slice a l.length cap) l.length (l.flatMap enL) ∧ Ext w w' := by
  obtain ⟨a, cap, he, _, ho, hE⟩ := h
  exact ⟨a, cap, he, .of_own ho, hE⟩
theorem wp_bs_en {o : Oper} {a : Act} {K : Act → World → Prop} {Q : Exit → Act → World → Prop} {w : World} (p : Operand) (ho : o.op = .buildSlice 36 1 #[(0, p)]) (e : En) (hp : a.eval p = .agg (enRow e))
    (h : K (a.put o.dst (.slice (some ⟨w.heap.size, 0, none⟩) 1 1)) (w.alloc (.cells (enRow e) 26))) : o.wp Try.prog a w K Q := by
  unfold Oper.wp execOp
  simp only [ho, hp, List.map_toArray, List.map_cons, List.map_nil, Sem.run_bind, Result.andThen_ok, run_bs_en, Sem.run_pure]
  exact h
end Go.Proofs.Ythhmehkclgmppaa
