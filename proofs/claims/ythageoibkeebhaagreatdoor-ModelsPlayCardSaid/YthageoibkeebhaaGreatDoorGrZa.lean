/- Several texts in one: Gp0 Sz1 MmP TbW. No condition. -/
import Derived.Test.YthageoibkeebhaaGreatDoorGrS
import Derived.Test.YthageoibkeebhaaGreatDoorPn0
import Derived.Test.YthageoibkeebhaaGreatDoorRn5
import Derived.Test.YthageoibkeebhaaGreatDoorRn4
import Derived.Test.YthageoibkeebhaaGreatDoorGrP
import Derived.Test.YthageoibkeebhaaGreatDoorGrA
import Derived.Test.YthageoibkeebhaaGreatDoorGrT
import Derived.LaidSub
import Derived.MakeChecks
/- A state with any replies, the document's state and a book side by side; the book's Rows, Reply, Said, Saids. No condition. -/
namespace Go.Proofs.YthageoibkeebhaaGreatDoor
open Go.RowKit
set_option maxRecDepth 100000
set_option maxHeartbeats 4000000
/-- The book's own blocks, at w. -/
def mutG (base : Nat) (w : World) (q : Nat) : Prop := base ≤ q ∧ ∃ c t, w.heap[q]? = some (.cells c t (0, 0)) ∧ bkOwn t
theorem mutG_trans {base : Nat} {w w1 w2 : World} (h1 : OffB (mutG base w) w w1) (h2 : OffB (mutG base w1) w1 w2) : OffB (mutG base w) w w2 :=
  ⟨h2.os.trans h1.os, h2.tape.trans h1.tape, h2.output.trans h1.output, Nat.le_trans h1.size h2.size, fun i hi hb => by
    have e1 := h1.block i hi hb
    rw [← e1]
    refine h2.block i (Nat.lt_of_lt_of_le hi h1.size) (fun hB => hb ?_)
    obtain ⟨hq, c, t, h3, h4⟩ := hB
    rw [e1] at h3
    exact ⟨hq, c, t, h3, h4⟩⟩
theorem mutG_ext {base : Nat} {w w1 w2 : World} (h1 : Ext w w1) (h2 : OffB (mutG base w1) w1 w2) : OffB (mutG base w) w w2 := mutG_trans (.of_ext h1) h2
theorem mg_own {b0 : Nat} {w w' : World} (hO : OffB (mutG b0 w) w w') {base : Nat} {e : TypeId} {z n : Nat} {v : Value} {xs : List Value} (h : OwnC w base e z v n xs) (h3 : ¬ bkOwn e) : OwnC w' base e z v n xs := by
  refine h.offB hO (fun q hq ⟨_, c, t, hc, ht⟩ => ?_)
  obtain ⟨d, hd⟩ := own_ty h hq
  rw [hd] at hc
  injection hc with hc
  injection hc with _ hc
  exact h3 (by rw [hc]; exact ht)
theorem row_own : ¬ bkOwn 84 := fun h => (own_not h).2.2.1 rfl
theorem said_own : ¬ bkOwn 87 := fun h => (own_not h).2.2.2.2 rfl
theorem StG.mut {w0 w w' : World} {st mb : Nat} {l : List Rw} {S : List Sa} (h : StG w0 w st mb l S) (hO : OffB (mutG w0.heap.size w) w w') : StG w0 w' st mb l S := by
  obtain ⟨h1, h2, rs, h3, h4, h5, h6, h7, h8, h9⟩ := h
  have hkeep : ∀ {k : Nat} {c : Array Value} {t : TypeId}, ¬ bkOwn t → w.heap[k]? = some (.cells c t (0, 0)) → w'.heap[k]? = some (.cells c t (0, 0)) := fun ht hk => by
    refine (hO.block _ (Array.getElem?_eq_some_iff.1 hk).1 (fun ⟨_, d, u, hd, hu⟩ => ?_)).trans hk
    rw [hk] at hd
    injection hd with hd
    injection hd with _ hd
    exact ht (by rw [hd]; exact hu)
  refine ⟨Below.trans h1 (hO.below (fun q hq => hq.1) h1.size), h2, rs, h3, ⟨?_, h4.2.1, fun p hp => ?_⟩, h5, h6, h7, hkeep (fun hb => (own_not hb).1 rfl) h8, fun p hp => mg_own hO (h9 p hp) row_own⟩
  · obtain ⟨es2, cl2, d1, d2⟩ := h4.1
    refine ⟨es2, cl2, (hO.block mb (Array.getElem?_eq_some_iff.1 d1).1 (fun ⟨_, d, u, hd, hu⟩ => ?_)).trans d1, d2⟩
    rw [d1] at hd; cases hd
  · obtain ⟨d1, d2, d3⟩ := h4.2.2 p hp
    exact ⟨d1, d2, hkeep row_own d3⟩
theorem RefX.mut {b0 base st : Nat} {w w' : World} {rows : List Rw} {sq : List Sa} (h : RefX base w st rows sq) (hO : OffB (mutG b0 w) w w') : RefX base w' st rows sq := by
  obtain ⟨sd, h1, h2⟩ := h
  refine ⟨sd, h1.offT hO (fun q hq c t hc hr => ?_), h2⟩
  obtain ⟨_, d, u, hd, hu⟩ := hq
  rw [hc] at hd
  injection hd with hd
  injection hd with _ hd
  exact (ref_not hr).2 (by rw [hd]; exact hu)
theorem StG.past {w0 w1 w : World} {st mb : Nat} {l : List Rw} {S : List Sa} (h : StG w1 w st mb l S) (he : Ext w0 w1) : StG w0 w st mb l S := by
  obtain ⟨h1, h2, rs, h3, h4, h5, h6, h7, h8, h9⟩ := h
  have hs := he.size
  exact ⟨he.trans h1, h2, rs, h3, ⟨h4.1, Nat.le_trans hs h4.2.1, fun p hp => ⟨Nat.le_trans hs (h4.2.2 p hp).1, (h4.2.2 p hp).2⟩⟩, Nat.le_trans hs h5, h6, h7, h8, h9.weak hs⟩
theorem RefX.weak {b base st : Nat} {w : World} {rows : List Rw} {sq : List Sa} (h : RefX b w st rows sq) (hb : base ≤ b) : RefX base w st rows sq := by
  obtain ⟨sd, ⟨ra, rc, sa, sc, h1, h2, h3, h4, h5⟩, h6⟩ := h
  exact ⟨sd, ⟨ra, rc, sa, sc, h1, Nat.le_trans hb h2, h3.weak hb, h4.weak hb, fun p hp => (h5 p hp).weak hb⟩, h6⟩
/-- The three; the blocks K are not the book's. -/
def PlayG (K : Nat → Prop) (w0 : World) (st mb rst g n : Nat) (l : List Rw) (S sq : List Sa) (w : World) : Prop := ∃ Z, Ext w0 w ∧ StG w0 w st mb l S ∧ RefX w0.heap.size w rst l sq ∧ BkZ w0.heap.size g n w Z ∧ ∀ k, K k → k < w.heap.size ∧ ¬ Z k
section
variable {K : Nat → Prop} {w0 w w' : World} {st mb rst g n : Nat} {l : List Rw} {S sq : List Sa}
theorem PlayG.grown (h : PlayG K w0 st mb rst g n l S sq w) : Ext w0 w := by obtain ⟨Z, h0, _⟩ := h; exact h0
theorem PlayG.less {K' : Nat → Prop} (h : PlayG K w0 st mb rst g n l S sq w) (hK : ∀ k, K' k → K k) : PlayG K' w0 st mb rst g n l S sq w := by
  obtain ⟨Z, h0, h1, h2, h3, h4⟩ := h
  exact ⟨Z, h0, h1, h2, h3, fun k hk => h4 k (hK k hk)⟩
theorem PlayG.ext (h : PlayG K w0 st mb rst g n l S sq w) (hE : Ext w w') : PlayG K w0 st mb rst g n l S sq w' := by
  obtain ⟨Z, h0, h1, h2, h3, h4⟩ := h
  exact ⟨Z, h0.trans hE, h1.ext hE, h2.ext hE, h3.ext hE, fun k hk => ⟨Nat.lt_of_lt_of_le (h4 k hk).1 hE.size, (h4 k hk).2⟩⟩
/-- Blocks that came later are not the book's either. -/
theorem PlayG.more {K' : Nat → Prop} (h : PlayG K w0 st mb rst g n l S sq w) (hE : Ext w w') (hK : ∀ k, K' k → K k ∨ w.heap.size ≤ k ∧ k < w'.heap.size) : PlayG K' w0 st mb rst g n l S sq w' := by
  obtain ⟨Z, h0, h1, h2, h3, h4⟩ := h
  refine ⟨Z, h0.trans hE, h1.ext hE, h2.ext hE, h3.ext hE, fun k hk => ?_⟩
  rcases hK k hk with hk | ⟨hk, hk2⟩
  · exact ⟨Nat.lt_of_lt_of_le (h4 k hk).1 hE.size, (h4 k hk).2⟩
  · exact ⟨hk2, fun hz => by have := h3.lt hz; omega⟩
theorem PlayG.kept {K' : Nat → Prop} {x : Value} {Z : Nat → Prop} (h0 : Ext w0 w) (h1 : StG w0 w st mb l S) (h2 : RefX w0.heap.size w rst l sq) (hZ : BkZ w0.heap.size g n w Z) (hK : ∀ k, K' k → k < w.heap.size ∧ ¬ Z k) {e : Ending} (hE : BkZE w0.heap.size g (n + 1) x Z w e w') (hx : ∀ k, K' k → x.ownBlock ≠ some k) : e = .returned (.tuple #[]) ∧ PlayG K' w0 st mb rst g (n + 1) l S sq w' ∧ OffB (mutG w0.heap.size w) w w' := by
  obtain ⟨he, hb, hO, Z', hB, hZ'⟩ := hE
  have hO' : OffB (mutG w0.heap.size w) w w' := hO.mono fun q hq => by
    obtain ⟨hz, c, t, hc, ht⟩ := hq
    exact ⟨hZ.ge hz, c, t, hc, ht⟩
  refine ⟨he, ⟨Z', Below.trans h0 hb, h1.mut hO', h2.mut hO', hB, fun k hk => ⟨Nat.lt_of_lt_of_le (hK k hk).1 hO.size, fun hz => ?_⟩⟩, hO'⟩
  rcases hZ' k hz with hz | hz | hz
  · exact (hK k hk).2 hz
  · exact hx k hk hz
  · have := (hK k hk).1; omega
def KeptE (K' : Nat → Prop) (w0 : World) (st mb rst g n : Nat) (l : List Rw) (S sq : List Sa) (w : World) (e : Ending) (w' : World) : Prop := e = .returned (.tuple #[]) ∧ PlayG K' w0 st mb rst g n l S sq w' ∧ OffB (mutG w0.heap.size w) w w'
theorem pg_row {K' : Nat → Prop} (h : PlayG K w0 st mb rst g n l S sq w) (hKK : ∀ k, K' k → K k) (hn : n < 900000) (a : Option Addr) (len cap : Nat) (xs : List Value) (hx : OwnC w w0.heap.size 84 2 (.slice a len cap) len xs) (hl : len ≤ 1000000) (hK : ∀ q, (Value.slice a len cap).ownBlock = some q → K q) (hKn : ∀ q, K' q → (Value.slice a len cap).ownBlock ≠ some q) : Calls Tryz.prog 13 #[.pointer (some ⟨g, 0, none⟩), .slice a len cap] w (KeptE K' w0 st mb rst g (n + 1) l S sq w) := by
  obtain ⟨Z, h0, h1, h2, h3, h4⟩ := h
  exact (bookzRow_any h3 hn a len cap xs hx hl (fun q hq => (h4 q (hK q hq)).2)).mono fun e w' hE => PlayG.kept h0 h1 h2 h3 (fun k hk => h4 k (hKK k hk)) hE hKn
theorem pg_ksaid {K' : Nat → Prop} (h : PlayG K w0 st mb rst g n l S sq w) (hKK : ∀ k, K' k → K k) (hn : n < 900000) (a : Option Addr) (len cap : Nat) (xs : List Value) (hx : OwnC w w0.heap.size 87 5 (.slice a len cap) len xs) (hl : len ≤ 1000000) (hK : ∀ q, (Value.slice a len cap).ownBlock = some q → K q) (hKn : ∀ q, K' q → (Value.slice a len cap).ownBlock ≠ some q) : Calls Tryz.prog 53 #[.pointer (some ⟨g, 0, none⟩), .slice a len cap] w (KeptE K' w0 st mb rst g (n + 1) l S sq w) := by
  obtain ⟨Z, h0, h1, h2, h3, h4⟩ := h
  exact (keepzSaid_any h3 hn a len cap xs hx hl (fun q hq => (h4 q (hK q hq)).2)).mono fun e w' hE => PlayG.kept h0 h1 h2 h3 (fun k hk => h4 k (hKK k hk)) hE hKn
theorem pg_reply {K' : Nat → Prop} (h : PlayG K w0 st mb rst g n l S sq w) (hKK : ∀ k, K' k → K k) (hn : n < 900000) (i : Int) (b : Bool) (a : Option Addr) (len cap : Nat) (xs : List Value) (hx : OwnC w w0.heap.size 84 2 (.slice a len cap) len xs) (hl : len ≤ 1000000) (hK : ∀ q, (Value.slice a len cap).ownBlock = some q → K q) (hKn : ∀ q, K' q → (Value.slice a len cap).ownBlock ≠ some q) : Calls Tryz.prog 33 #[.pointer (some ⟨g, 0, none⟩), .agg #[.int .i64 i, .bool b, .slice a len cap]] w (KeptE K' w0 st mb rst g (n + 1) l S sq w) := by
  obtain ⟨V, hV⟩ : ∃ W, W = w.alloc (.cells (reH i b (.slice a len cap)) 74) := ⟨_, rfl⟩
  have hE0 : Ext w V := by rw [hV]; exact (Ext.refl _).alloc _
  have h1 : V.heap[w.heap.size]? = some (.cells (reH i b (.slice a len cap)) 74 (0, 0)) := by rw [hV]; exact heap_alloc_new w _
  obtain ⟨x0, x1, x2⟩ := re_cells h1
  have hcall := Lib.hid (pg_row (h.ext hE0) hKK hn a len cap xs (hx.ext hE0) hl hK hKn)
  have hV' := Lib.hid hV
  clear h hV h1 hx hK hKn hKK
  unfold reH at hV'
  go_enter Tryz.func33, Tryz.ntmps33
  go_upto_region 1 with fail
  rw [← hV'.out]
  go_wp2_with fail
  refine hcall.out.mono ?_
  rintro e w2 ⟨rfl, hP2, hO2⟩
  have hP2' := Lib.hid hP2
  have hO2' := Lib.hid hO2
  clear hP2 hO2 hcall
  go_wp2_with fail
  go_end0
  exact ⟨rfl, hP2'.out, mutG_ext hE0 hO2'.out⟩
theorem pg_said {K' : Nat → Prop} (h : PlayG K w0 st mb rst g n l S sq w) (hKK : ∀ k, K' k → K k) (hn : n < 900000) (x : Sa) (a : Option Addr) (len cap : Nat) (xs : List Value) (hx : OwnC w w0.heap.size 84 2 (.slice a len cap) len xs) (hl : len ≤ 1000000) (hK : ∀ q, (Value.slice a len cap).ownBlock = some q → K q) (hKn : ∀ q, K' q → (Value.slice a len cap).ownBlock ≠ some q) : Calls Tryz.prog 52 #[.pointer (some ⟨g, 0, none⟩), .agg (saRow x a len cap)] w (KeptE K' w0 st mb rst g (n + 1) l S sq w) := by
  obtain ⟨V, hV⟩ : ∃ W, W = w.alloc (.cells (saRow x a len cap) 87) := ⟨_, rfl⟩
  have hE0 : Ext w V := by rw [hV]; exact (Ext.refl _).alloc _
  have h1 : V.heap[w.heap.size]? = some (.cells (saRow x a len cap) 87 (0, 0)) := by rw [hV]; exact heap_alloc_new w _
  obtain ⟨x0, x1, x2, x3, x4⟩ := sa_cs h1
  have hcall := Lib.hid (pg_reply (h.ext hE0) hKK hn x.e x.yes a len cap xs (hx.ext hE0) hl hK hKn)
  have hV' := Lib.hid hV
  clear h hV h1 hx hK hKn hKK
  unfold saRow at hV' ⊢
  go_enter Tryz.func52, Tryz.ntmps52
  go_upto_region 1 with fail
  rw [← hV'.out]
  go_wp2_with fail
  refine hcall.out.mono ?_
  rintro e w2 ⟨rfl, hP2, hO2⟩
  have hP2' := Lib.hid hP2
  have hO2' := Lib.hid hO2
  clear hP2 hO2 hcall
  go_wp2_with fail
  go_end0
  exact ⟨rfl, hP2'.out, mutG_ext hE0 hO2'.out⟩
def blkS (sd : List Sa) (q : Nat) : Prop := ∃ p ∈ sd, p.v.ownBlock = some q
/-- All lists within a list of what was said are kept, and it itself. -/
theorem pg_saids {K' : Nat → Prop} (h : PlayG K w0 st mb rst g n l S sq w) (hKK : ∀ k, K' k → K k) (sd : List Sa) (a : Option Addr) (len cap : Nat) (hlen : len = sd.length) (hl : len ≤ 1000) (hn : n < 800000) (hx : OwnC w w0.heap.size 87 5 (.slice a len cap) len (sd.flatMap Sa.cells)) (hso : SaOwn w w0.heap.size sd) (hsep : SaSep sd) (hrl : ∀ p ∈ sd, p.rows.length ≤ 1000000)
    (hK1 : ∀ q, (Value.slice a len cap).ownBlock = some q → K q) (hK2 : ∀ q, blkS sd q → K q) (hKn : ∀ q, K' q → (Value.slice a len cap).ownBlock ≠ some q ∧ ¬ blkS sd q) : Calls Tryz.prog 14 #[.pointer (some ⟨g, 0, none⟩), .slice a len cap] w (KeptE K' w0 st mb rst g (n + len + 1) l S sq w) := by
  have hm := Lib.hid hlen
  have hx' := Lib.hid hx
  have hso' := Lib.hid hso
  have hsep' := Lib.hid hsep
  have hrl' := Lib.hid hrl
  have hKn' := Lib.hid hKn
  have hab : Hid (∀ q, (Value.slice a len cap).ownBlock = some q → ¬ blkS sd q) := Lib.hid (fun q hq ⟨p, hp, hb⟩ => by
    obtain ⟨c, hc⟩ := own_ty hx hq
    obtain ⟨d, hd⟩ := own_ty (hso p hp) hb
    rw [hc] at hd
    injection hd with hd
    injection hd with _ hd
    revert hd; decide)
  have hP0 : PlayG (fun q => K' q ∨ blkS (sd.drop 0) q ∨ (Value.slice a len cap).ownBlock = some q) w0 st mb rst g (n + 0) l S sq w := h.less (fun q hq => by
    rcases hq with hq | hq | hq
    · exact hKK q hq
    · exact hK2 q hq
    · exact hK1 q hq)
  have hP0' := Lib.hid hP0
  clear hlen hx hso hsep hrl hKn h hK1 hK2 hKK hP0
  go_enter Tryz.func14, Tryz.ntmps14
  go_wp2_with fail
  go_loopw [4] (fun i wr => ∃ k : Nat, k ≤ len ∧ i = .int .i64 k ∧ Hid (PlayG (fun q => K' q ∨ blkS (sd.drop k) q ∨ (Value.slice a len cap).ownBlock = some q) w0 st mb rst g (n + k) l S sq wr) ∧ OffB (mutG w0.heap.size w) w wr) (fun i _ => len - (intOf i).toNat)
  case atStart => exact ⟨0, by omega, rfl, hP0', OffB.refl _⟩
  case round =>
    obtain ⟨k, hk, rfl, hP, hO⟩ := hrel
    have hxk := mg_own hO hx'.out said_own
    by_cases hlt : k < len
    · have hli : (k : Int) < (len : Int) := by omega
      obtain ⟨y, hy⟩ : ∃ y, sd[k]? = some y := ⟨_, List.getElem?_eq_getElem (by rw [← hm.out]; exact hlt)⟩
      obtain ⟨ob, oo, hat⟩ := hxk.row.at
      obtain ⟨e1, _, hdy⟩ := hat (by omega)
      have hrg := sas_range (by rw [← hm.out]; exact hdy) hy
      have hyo := mg_own hO (hso'.out y (List.mem_of_getElem? hy)) row_own
      obtain ⟨va, vc, hv, _⟩ := hyo.form
      rw [hv] at hyo
      rw [sa_cells hv] at hrg
      have hdr : sd.drop k = y :: sd.drop (k + 1) := by
        obtain ⟨hlt2, he⟩ := List.getElem?_eq_some_iff.1 hy
        rw [List.drop_eq_getElem_cons hlt2, he]
      have hyl := hrl'.out y (List.mem_of_getElem? hy)
      have hsp : ∀ q, (Value.slice va y.rows.length vc).ownBlock = some q → ¬ blkS (sd.drop (k + 1)) q := fun q hq ⟨p, hp, hb⟩ => by
        have h1 : SaSep (sd.drop k) := List.Pairwise.sublist (List.drop_sublist _ _) hsep'.out
        rw [hdr] at h1
        exact (List.pairwise_cons.1 h1).1 p hp q (by rw [hv]; exact hq) hb
      have hcall := Lib.hid (pg_said (K' := fun q => K' q ∨ blkS (sd.drop (k + 1)) q ∨ (Value.slice a len cap).ownBlock = some q) hP.out (fun q hq => by
        rcases hq with hq | ⟨p, hp, hb⟩ | hq
        · exact .inl hq
        · exact .inr (.inl ⟨p, by rw [hdr]; exact List.mem_cons_of_mem _ hp, hb⟩)
        · exact .inr (.inr hq)) (by omega) y va y.rows.length vc _ hyo hyl (fun q hq => .inr (.inl ⟨y, by rw [hdr]; exact List.mem_cons_self .., by rw [hv]; exact hq⟩)) (fun q hq hb => by
        have hyb : blkS sd q := ⟨y, List.mem_of_getElem? hy, by rw [hv]; exact hb⟩
        rcases hq with hq | hq | hq
        · exact (hKn'.out q hq).2 hyb
        · exact hsp q hb hq
        · exact hab.out q hq hyb))
      subst e1
      clear hat hdy hy hyo hv hdr hsp hxk hP
      go_wp2_with (first | (refine wpList_load_mid (by rfl) 87 (.tmp 14) (by rfl) ob (oo + k * 5) (by rfl) (saRow y va y.rows.length vc).toList _ hrg Tryz.underlying87 rfl (by exact info_said) ?_) | fail)
      refine hcall.out.mono ?_
      rintro e w2 ⟨rfl, hP2, hO2⟩
      have hP2' := Lib.hid hP2
      have hO2' := mutG_trans hO hO2
      clear hP2 hO2 hcall hrg
      go_wp2_with fail
      go_roundw
      case rel => exact ⟨k + 1, by omega, by go_num, hP2', hO2'⟩
      case measure => simp [intOf]; omega
    · have hli : ¬ (k : Int) < (len : Int) := by omega
      obtain rfl : k = len := by omega
      have hcall := Lib.hid (pg_ksaid (K' := K') hP.out (fun q hq => .inl hq) (by omega) a k cap _ hxk (by omega) (fun q hq => .inr (.inr hq)) (fun q hq => (hKn'.out q hq).1))
      clear hP hxk hx'
      go_wp2_with fail
      refine hcall.out.mono ?_
      rintro e w2 ⟨rfl, hP2, hO2⟩
      have hP2' := Lib.hid hP2
      have hO2' := Lib.hid (mutG_trans hO hO2)
      clear hP2 hO2 hcall hO
      go_wp2_with fail
      go_end0
      exact ⟨rfl, hP2'.out, hO2'.out⟩
theorem pg_apart (h : PlayG K w0 st mb rst g n l S sq w) (hn : n < numTop) : Calls Tryz.prog 21 #[.pointer (some ⟨g, 0, none⟩)] w fun e w' => e = .returned (.bool true) ∧ Ext w0 w' := by
  obtain ⟨Z, h0, h1, h2, h3, h4⟩ := h
  refine (bookzA_any h3 hn).mono ?_
  rintro e w' ⟨he, hb⟩
  exact ⟨he, Below.trans h0 hb⟩
end
end Go.Proofs.YthageoibkeebhaaGreatDoor

/- RowsSize, ReplySize, SaidSize, SaidsSize. (RowsSize printed by gsz.py.) No condition. -/
namespace Go.Proofs.YthageoibkeebhaaGreatDoor
open Go.RowKit
def rszAux : Nat → List Rw → Nat
  | n, [] => n
  | n, x :: r => if n ≤ 1048576 then rszAux (n + x.key.size + x.val.size) r else n
set_option maxRecDepth 100000 in
set_option maxHeartbeats 1000000 in
theorem rsize_any (w : World) (l : List Rw) (a : Option Addr) (cap : Nat) (hg : ∀ x ∈ l, x.key.size ≤ 140737488351232 ∧ x.val.size ≤ 140737488351232) (hl : l.length ≤ 140737488351232) (h1 : RowIs w 2 (.slice a l.length cap) l.length (l.flatMap rwL)) :
    Calls Tryz.prog 5 #[.slice a l.length cap] w fun e w' => e = .returned (.int .i64 (rszAux l.length l : Nat)) ∧ Ext w w' := by
  obtain ⟨S, hS⟩ : ∃ S, S = rszAux l.length l := ⟨_, rfl⟩
  rw [← hS]
  have hS' := Lib.hid hS
  clear hS
  go_enter Tryz.func5, Tryz.ntmps5
  go_wp2_with fail
  go_loopw [3, 4] (fun n i wr => ∃ k N : Nat, k ≤ l.length ∧ n = .int .i64 (N : Int) ∧ i = .int .i64 k ∧ S = rszAux N (l.drop k) ∧ N ≤ 500000000000000 ∧ Ext w wr) (fun _ i _ => l.length - (intOf i).toNat)
  case atStart => exact ⟨0, l.length, by omega, rfl, rfl, hS'.out, by omega, Ext.refl _⟩
  case round =>
    obtain ⟨k, N, hk, rfl, rfl, hs, hN, hE⟩ := hrel
    have hs' := Lib.hid hs
    clear hs
    by_cases hlt : k < l.length
    · have hli : (k : Int) < (l.length : Int) := by omega
      obtain ⟨c, hc⟩ : ∃ c, l[k]? = some c := ⟨_, List.getElem?_eq_getElem hlt⟩
      obtain ⟨g1, g2⟩ := hg c (List.mem_of_getElem? hc)
      have hdr : l.drop k = c :: l.drop (k + 1) := by
        rw [List.drop_eq_getElem_cons hlt]
        have := List.getElem?_eq_getElem hlt
        rw [hc] at this
        injection this with this
        rw [← this]
      have hdr' := Lib.hid hdr
      clear hdr
      by_cases hsm : N ≤ 1048576
      · have hsi : (N : Int) ≤ 1048576 := by omega
        obtain ⟨b, off, hat⟩ := (h1.ext hE).at
        obtain ⟨rfl, _, hd⟩ := hat (by omega)
        have p := rws_range hd hc
        have p0 := p 0 _ rfl
        have p3 := p 1 _ rfl
        rw [Nat.add_zero] at p0
        clear hd hat p hc
        have e1 : IntKind.i64.wrap ((N : Int) + (c.key.size : Int)) = (N : Int) + (c.key.size : Int) := by rw [IntKind.wrap_i64]; omega
        have e2 : IntKind.i64.wrap ((N : Int) + (c.key.size : Int) + (c.val.size : Int)) = (N : Int) + (c.key.size : Int) + (c.val.size : Int) := by rw [IntKind.wrap_i64]; omega
        go_wp2_with fail
        go_still (by kernel_rfl)
        change Exit.inBlock _ _ _ _ wr.drew
        go_wp2_with fail
        go_roundw
        case rel => exact ⟨k + 1, N + c.key.size + c.val.size, by omega, by go_num, by go_num, by rw [hs'.out, hdr'.out]; simp [rszAux, hsm], by omega, hE.drew⟩
        case measure => simp [intOf]; omega
      · have hsi : ¬ (N : Int) ≤ 1048576 := by omega
        go_wp2_with fail
        go_ret
        exact ⟨by rw [hs'.out, hdr'.out]; simp [rszAux, hsm], hE⟩
    · have hli : ¬ (k : Int) < (l.length : Int) := by omega
      go_wp2_with fail
      go_ret
      exact ⟨by rw [hs'.out, List.drop_eq_nil_of_le (by omega)]; rfl, hE⟩
theorem rsz_stop (l : List Rw) (n : Nat) (h : ¬ n ≤ 1048576) : rszAux n l = n := by
  cases l with
  | nil => rfl
  | cons c r => unfold rszAux; rw [if_neg h]
theorem rsz_le : ∀ (l : List Rw) (n : Nat), (∀ x ∈ l, x.key.size ≤ 140737488351232 ∧ x.val.size ≤ 140737488351232) → rszAux n l ≤ max n 1048576 + 281474976702464
  | [], n, _ => by unfold rszAux; omega
  | c :: r, n, h => by
    have ih := rsz_le r (n + c.key.size + c.val.size) (fun d hd => h d (List.mem_cons_of_mem _ hd))
    obtain ⟨h1, h2⟩ := h c (List.mem_cons_self ..)
    unfold rszAux
    split
    · by_cases h3 : n + c.key.size + c.val.size ≤ 1048576
      · omega
      · rw [rsz_stop r _ h3]; omega
    · omega
theorem rsz_ge : ∀ (l : List Rw) (n : Nat), n ≤ rszAux n l
  | [], n => Nat.le_refl _
  | c :: r, n => by
    unfold rszAux
    split
    · exact Nat.le_trans (by omega) (rsz_ge r _)
    · exact Nat.le_refl _
set_option maxRecDepth 100000
set_option maxHeartbeats 1000000
def smRs (l : List Rw) : Prop := l.length ≤ 140737488351232 ∧ ∀ x ∈ l, x.key.size ≤ 140737488351232 ∧ x.val.size ≤ 140737488351232
def Sa.sz (p : Sa) : Nat := 2 + rszAux p.rows.length p.rows
theorem Sa.sz_le {p : Sa} (h : smRs p.rows) : p.sz ≤ 500000000000000 := by
  have := rsz_le p.rows p.rows.length h.2
  have := h.1
  unfold Sa.sz
  omega
theorem rpsize_any (w : World) (i : Int) (b : Bool) (l : List Rw) (a : Option Addr) (cap : Nat) (hs : smRs l) (hr : RowIs w 2 (.slice a l.length cap) l.length (l.flatMap rwL)) : Calls Tryz.prog 110 #[.agg #[.int .i64 i, .bool b, .slice a l.length cap]] w fun e w' => e = .returned (.int .i64 ((1 + rszAux l.length l : Nat) : Int)) ∧ Ext w w' := by
  obtain ⟨W, hW⟩ : ∃ W, W = w.alloc (.cells (reH i b (.slice a l.length cap)) 74) := ⟨_, rfl⟩
  have hE : Ext w W := by rw [hW]; exact (Ext.refl _).alloc _
  have hX : W.heap[w.heap.size]? = some (.cells (reH i b (.slice a l.length cap)) 74 (0, 0)) := by rw [hW]; exact heap_alloc_new w _
  obtain ⟨c0, c1, c2⟩ := re_cells hX
  have hcall := Lib.hid (rsize_any W l a cap hs.2 hs.1 (hr.ext hE))
  have hbd := rsz_le l l.length hs.2
  have hl := hs.1
  generalize rszAux l.length l = C at *
  have hW' := Lib.hid hW
  clear hW hX hr hs
  unfold reH at hW'
  go_enter Tryz.func110, Tryz.ntmps110
  go_upto_region 1 with fail
  rw [← hW'.out]
  clear hW'
  have hC : C ≤ 500000000000000 := by omega
  clear hbd hl
  go_wp2_with fail
  refine hcall.out.mono ?_
  rintro e w2 ⟨rfl, hE2⟩
  go_wp2_with fail
  go_ret
  exact ⟨congrArg Ending.returned (congrArg (Value.int IntKind.i64) (by omega)), hE.trans hE2⟩
theorem sdsize_any (w : World) (x : Sa) (a : Option Addr) (cap : Nat) (hs : smRs x.rows) (hr : RowIs w 2 (.slice a x.rows.length cap) x.rows.length (x.rows.flatMap rwL)) : Calls Tryz.prog 39 #[.agg (saRow x a x.rows.length cap)] w fun e w' => e = .returned (.int .i64 (x.sz : Nat)) ∧ Ext w w' := by
  obtain ⟨W, hW⟩ : ∃ W, W = w.alloc (.cells (saRow x a x.rows.length cap) 87) := ⟨_, rfl⟩
  have hE : Ext w W := by rw [hW]; exact (Ext.refl _).alloc _
  have hX : W.heap[w.heap.size]? = some (.cells (saRow x a x.rows.length cap) 87 (0, 0)) := by rw [hW]; exact heap_alloc_new w _
  obtain ⟨c0, c1, c2, c3, c4⟩ := sa_cs hX
  have hcall := Lib.hid (rpsize_any W x.e x.yes x.rows a cap hs (hr.ext hE))
  have hbd := rsz_le x.rows x.rows.length hs.2
  have hl := hs.1
  unfold Sa.sz
  generalize rszAux x.rows.length x.rows = C at *
  have hW' := Lib.hid hW
  clear hW hX hr hs
  unfold saRow at hW' ⊢
  go_enter Tryz.func39, Tryz.ntmps39
  go_upto_region 1 with fail
  rw [← hW'.out]
  clear hW'
  have hC : C ≤ 500000000000000 := by omega
  clear hbd hl
  go_wp2_with fail
  refine hcall.out.mono ?_
  rintro e w2 ⟨rfl, hE2⟩
  go_wp2_with fail
  go_ret
  exact ⟨congrArg Ending.returned (congrArg (Value.int IntKind.i64) (by omega)), hE.trans hE2⟩
def sdsAux : Nat → List Sa → Nat
  | n, [] => n
  | n, x :: r => if n ≤ 1048576 then sdsAux (n + x.sz) r else n
theorem sds_stop (l : List Sa) (n : Nat) (h : ¬ n ≤ 1048576) : sdsAux n l = n := by
  cases l with
  | nil => rfl
  | cons c r => unfold sdsAux; rw [if_neg h]
theorem sds_ge : ∀ (l : List Sa) (n : Nat), n ≤ sdsAux n l
  | [], n => Nat.le_refl _
  | c :: r, n => by
    unfold sdsAux
    split
    · exact Nat.le_trans (by omega) (sds_ge r _)
    · exact Nat.le_refl _
theorem sds_le : ∀ (l : List Sa) (n : Nat), (∀ p ∈ l, smRs p.rows) → sdsAux n l ≤ max n 1048576 + 500000000000000
  | [], n, _ => by unfold sdsAux; omega
  | c :: r, n, h => by
    have ih := sds_le r (n + c.sz) (fun d hd => h d (List.mem_cons_of_mem _ hd))
    have h1 := Sa.sz_le (h c (List.mem_cons_self ..))
    unfold sdsAux
    split
    · by_cases h3 : n + c.sz ≤ 1048576
      · omega
      · rw [sds_stop r _ h3]; omega
    · omega
/-- If all together are few, each one's rows are. -/
theorem sds_rows : ∀ (l : List Sa) (n N : Nat), sdsAux n l ≤ N → N ≤ 1048576 → ∀ p ∈ l, p.rows.length ≤ N
  | [], _, _, _, _, _, h => nomatch h
  | c :: r, n, N, h, hN, p, hp => by
    have hn : n ≤ 1048576 := by
      have := sds_ge (c :: r) n
      omega
    unfold sdsAux at h
    rw [if_pos hn] at h
    rcases List.mem_cons.1 hp with rfl | hp
    · have h1 := sds_ge r (n + p.sz)
      have h2 := rsz_ge p.rows p.rows.length
      have h3 : p.sz = 2 + rszAux p.rows.length p.rows := rfl
      omega
    · exact sds_rows r _ N h hN p hp
theorem sdssize_any (w : World) (q : List Sa) (a : Option Addr) (cap : Nat) (hg : ∀ p ∈ q, smRs p.rows) (hv : SaAt w q) (hl : q.length ≤ 140737488351232) (h1 : RowIs w 5 (.slice a q.length cap) q.length (q.flatMap Sa.cells)) :
    Calls Tryz.prog 6 #[.slice a q.length cap] w fun e w' => e = .returned (.int .i64 (sdsAux q.length q : Nat)) ∧ Ext w w' := by
  obtain ⟨S, hS⟩ : ∃ S, S = sdsAux q.length q := ⟨_, rfl⟩
  rw [← hS]
  have hS' := Lib.hid hS
  have hg' := Lib.hid hg
  have hv' := Lib.hid hv
  obtain ⟨m, hm0⟩ : ∃ m, m = q.length := ⟨_, rfl⟩
  rw [← hm0] at h1 hl ⊢
  have hm := Lib.hid hm0
  have h1' := Lib.hid h1
  clear hS hg hv hm0 h1
  go_enter Tryz.func6, Tryz.ntmps6
  go_wp2_with fail
  go_loopw [3, 4] (fun n i wr => ∃ k N : Nat, k ≤ m ∧ n = .int .i64 (N : Int) ∧ i = .int .i64 k ∧ Hid (S = sdsAux N (q.drop k)) ∧ N ≤ 1000000000000000 ∧ Ext w wr) (fun _ i _ => m - (intOf i).toNat)
  case atStart => exact ⟨0, m, by omega, rfl, rfl, Lib.hid (by rw [hm.out]; exact hS'.out), by omega, Ext.refl _⟩
  case round =>
    obtain ⟨k, N, hk, rfl, rfl, hs, hN, hE⟩ := hrel
    by_cases hlt : k < m
    · have hli : (k : Int) < (m : Int) := by omega
      obtain ⟨y, hy⟩ : ∃ y, q[k]? = some y := ⟨_, List.getElem?_eq_getElem (by rw [← hm.out]; exact hlt)⟩
      have hdr : Hid (S = if N ≤ 1048576 then sdsAux (N + y.sz) (q.drop (k + 1)) else N) := Lib.hid (by
        obtain ⟨hlt2, he⟩ := List.getElem?_eq_some_iff.1 hy
        rw [hs.out, List.drop_eq_getElem_cons hlt2, he]
        rfl)
      obtain ⟨ob, oo, hat⟩ := (h1'.out.ext hE).at
      obtain ⟨rfl, _, hdy⟩ := hat (by omega)
      have hrg := sas_range (by rw [← hm.out]; exact hdy) hy
      obtain ⟨va, vc, hv, hyr⟩ := hv'.out y (List.mem_of_getElem? hy)
      rw [sa_cells hv] at hrg
      have hsy := hg'.out y (List.mem_of_getElem? hy)
      have hcall := Lib.hid (fun W (hW : Ext wr W) => sdsize_any W y va vc hsy (hyr.ext (hE.trans hW)))
      have hyz := Sa.sz_le hsy
      clear hat hdy hy hv hyr hsy
      by_cases hsm : N ≤ 1048576
      · have hsi : (N : Int) ≤ 1048576 := by omega
        generalize Sa.sz y = C at *
        go_wp2_with (first | (refine wpList_load_mid (by rfl) 87 (.tmp 20) (by rfl) ob (oo + k * 5) (by rfl) (saRow y va y.rows.length vc).toList _ hrg Tryz.underlying87 rfl (by exact info_said) ?_) | fail)
        refine (hcall.out wr (Ext.refl _)).mono ?_
        rintro e w2 ⟨rfl, hE2⟩
        go_wp2_with fail
        go_roundw
        case rel => exact ⟨k + 1, N + C, by omega, by go_num, by go_num, Lib.hid (by rw [hdr.out, if_pos hsm]), by omega, hE.trans hE2⟩
        case measure => simp [intOf]; omega
      · have hsi : ¬ (N : Int) ≤ 1048576 := by omega
        clear hrg hcall
        go_wp2_with fail
        go_ret
        exact ⟨by rw [hdr.out, if_neg hsm]; rfl, hE⟩
    · have hli : ¬ (k : Int) < (m : Int) := by omega
      go_wp2_with fail
      go_ret
      exact ⟨by rw [hs.out, List.drop_eq_nil_of_le (by rw [← hm.out]; omega)]; rfl, hE⟩
end Go.Proofs.YthageoibkeebhaaGreatDoor

/- Rows, and lists of what was said, as parameters. No condition. -/
namespace Go.Proofs.YthageoibkeebhaaGreatDoor
open Go.RowKit
set_option maxRecDepth 100000
theorem okc_rw {w : World} {n : Nat} {cs : List Value} (h : OKC Tryz.prog w n 84 cs) : ∃ r : Rw, cs = rwL r ∧ (r.key.size ≤ 140737488351232 ∧ r.val.size ≤ 140737488351232) := by
  have c2 : Tryz.prog.cellsOf 84 = 2 := by kernel_rfl
  cases n with
  | zero => exact h.elim
  | succ n =>
    unfold OKC at h
    rw [Tryz.underlying84] at h
    simp only [c2] at h
    obtain ⟨hl, hi⟩ := h
    match cs, hl with
    | [v0, v1], _ =>
      simp [show Tryz.prog.cellsOf 9 = 1 by kernel_rfl] at hi
      obtain ⟨y0, y1⟩ := hi
      obtain ⟨s0, e0, h0⟩ := okc_str Tryz.underlying9 y0
      obtain ⟨s1, e1, h1⟩ := okc_str Tryz.underlying9 y1
      simp at e0 e1
      exact ⟨⟨s0, s1⟩, by rw [e0, e1]; rfl, h0, h1⟩
theorem okc_rws {w : World} {n : Nat} {cs : List Value} (h : OKC Tryz.prog w n 22 cs) : ∃ (l : List Rw) (a : Option Addr) (cap : Nat), cs = [.slice a l.length cap] ∧ RowIs w 2 (.slice a l.length cap) l.length (l.flatMap rwL) ∧ smRs l := by
  cases n with
  | zero => exact h.elim
  | succ n =>
    obtain ⟨v, rfl⟩ : ∃ v, cs = [v] := by
      have h' := h
      unfold OKC at h'
      rw [Tryz.underlying22] at h'
      rcases h' with h' | ⟨_, _, _, h', _⟩
      · exact ⟨_, h'⟩
      · exact ⟨_, h'⟩
    obtain ⟨l, hg, hr, hby⟩ := OKC.row rwL (fun r => r.key.size ≤ 140737488351232 ∧ r.val.size ≤ 140737488351232) 2 Tryz.underlying22 (by kernel_rfl) (by decide) (fun _ => rfl) (fun cs hc => okc_rw hc) h
    obtain ⟨a, cap, rfl⟩ := hr.form
    rw [show Tryz.prog.bytesOf 84 = 32 by kernel_rfl] at hby
    exact ⟨l, a, cap, rfl, hr, by omega, hg⟩
def Sa.goodP (w : World) (p : Sa) : Prop := (∃ a c, p.v = .slice a p.rows.length c ∧ RowIs w 2 (.slice a p.rows.length c) p.rows.length (p.rows.flatMap rwL)) ∧ smRs p.rows ∧ p.cl < 256 ∧ p.num < 4294967296
theorem okc_sa {w : World} {n : Nat} {cs : List Value} (h : OKC Tryz.prog w n 87 cs) : ∃ p : Sa, cs = p.cells ∧ p.goodP w := by
  have c5 : Tryz.prog.cellsOf 87 = 5 := by kernel_rfl
  have c3 : Tryz.prog.cellsOf 74 = 3 := by kernel_rfl
  cases n with
  | zero => exact h.elim
  | succ n =>
    unfold OKC at h
    rw [Tryz.underlying87] at h
    simp only [c5] at h
    obtain ⟨hl, hi⟩ := h
    match cs, hl with
    | [v0, v1, v2, v3, v4], _ =>
      simp [show Tryz.prog.cellsOf 5 = 1 by kernel_rfl, show Tryz.prog.cellsOf 62 = 1 by kernel_rfl, show Tryz.prog.cellsOf 74 = 3 by kernel_rfl] at hi
      obtain ⟨y0, y1, y2⟩ := hi
      obtain ⟨i0, e0, w0⟩ := okc_int Tryz.underlying5 y0
      obtain ⟨i1, e1, w1⟩ := okc_int Tryz.underlying62 y1
      have b0 := wf_u8 w0
      have b1 := wf_u32 w1
      obtain ⟨n0, rfl⟩ := Int.eq_ofNat_of_zero_le b0.1
      obtain ⟨n1, rfl⟩ := Int.eq_ofNat_of_zero_le b1.1
      cases n with
      | zero => exact y2.elim
      | succ n =>
        unfold OKC at y2
        rw [Tryz.underlying74] at y2
        simp only [c3] at y2
        obtain ⟨_, y2⟩ := y2
        simp [show Tryz.prog.cellsOf 29 = 1 by kernel_rfl, show Tryz.prog.cellsOf 4 = 1 by kernel_rfl, show Tryz.prog.cellsOf 22 = 1 by kernel_rfl] at y2
        obtain ⟨z0, z1, z2⟩ := y2
        obtain ⟨i2, e2, w2⟩ := okc_int Tryz.underlying29 z0
        obtain ⟨b3, e3⟩ := okc_bool Tryz.underlying4 z1
        obtain ⟨l, a, cap, e4, hr, hs⟩ := okc_rws z2
        simp at e0 e1 e2 e3 e4
        refine ⟨⟨n0, n1, i2, b3, l, .slice a l.length cap⟩, ?_, ⟨a, cap, rfl, hr⟩, hs, by simp only; omega, by simp only; omega⟩
        unfold Sa.cells
        rw [e0, e1, e2, e3, e4]
theorem okc_sas {w : World} {v : Value} (h : ∃ n, OKC Tryz.prog w n 23 [v]) : ∃ (q : List Sa) (a : Option Addr) (cap : Nat), v = .slice a q.length cap ∧ (∀ p ∈ q, p.goodP w) ∧ RowIs w 5 (.slice a q.length cap) q.length (q.flatMap Sa.cells) ∧ q.length ≤ 140737488351232 := by
  obtain ⟨n, h⟩ := h
  cases n with
  | zero => exact h.elim
  | succ n =>
    obtain ⟨l, hg, hr, hby⟩ := OKC.row Sa.cells (Sa.goodP w) 5 Tryz.underlying23 (by kernel_rfl) (by decide) (fun m => rfl) (fun cs hcs => okc_sa hcs) h
    obtain ⟨a, cap, hv⟩ := hr.form
    subst hv
    rw [show Tryz.prog.bytesOf 87 = 48 by kernel_rfl] at hby
    exact ⟨l, a, cap, rfl, hg, hr, by omega⟩
end Go.Proofs.YthageoibkeebhaaGreatDoor

/- The library's table of powers: from what is laid, and across what a call adds. No condition. -/
namespace Go.Proofs.YthageoibkeebhaaGreatDoor
open Go.RowKit
theorem tabW_ext {w w' : World} (h : TabW w) (hE : Ext w w') : TabW w' := by
  unfold TabW Lib.TabIs World.var? at h ⊢
  cases hg : Program.globalNamed Tryz.prog "internal/strconv.uint64pow10" with
  | none => rw [hg] at h; cases h
  | some g =>
    rw [hg] at h
    simp only [Option.bind_some] at h ⊢
    have hlt : g < w.heap.size := by
      rcases Nat.lt_or_ge g w.heap.size with h' | h'
      · exact h'
      · rw [Array.getElem?_eq_none h'] at h; cases h
    rw [Below.block hE g hlt]
    exact h
theorem tabW_of_laid {w : World} {l : List (String × DataW Unit)} (h : laidMetH Tryz.prog l w) (hl : l.filter (fun x => x.1 == "internal/strconv.uint64pow10") = [("internal/strconv.uint64pow10", Lib.tabData .u64 Lib.pow10Tab)]) : TabW w := by
  have h1 := laidMetH.filter (fun x => x.1 == "internal/strconv.uint64pow10") h
  rw [hl, MakeChecks.laidMetH_plain _ _ _ (by kernel_rfl)] at h1
  have hx : (match Program.globalNamed Tryz.prog "internal/strconv.uint64pow10" with | some g => (Tryz.prog.globals[g]?).map (·.type) == some 232 | none => false) = true := by kernel_rfl
  cases hg : Program.globalNamed Tryz.prog "internal/strconv.uint64pow10" with
  | none => rw [hg] at hx; cases hx
  | some g =>
    rw [hg] at hx
    have hty : (Tryz.prog.globals[g]?).map (·.type) = some 232 := eq_of_beq hx
    exact Lib.tabIs_of_head hg hty Tryz.underlying232 Tryz.underlying140 (by kernel_rfl) (by kernel_rfl) h1
end Go.Proofs.YthageoibkeebhaaGreatDoor
