/- Several texts in one: Gd0 Gd1. No condition. -/
import Derived.Test.YtefllplgbalbkaaGreatDoorMgM
import Derived.Test.YtefllplgbalbkaaGreatDoorTwE
import Derived.Test.YtefllplgbalbkaaGreatDoorBkS
import Derived.Test.YtefllplgbalbkaaGreatDoorMg4
/- Lists of lists of entries: as parameters, their size, twins of them. No condition. -/
namespace Go.Proofs.YtefllplgbalbkaaGreatDoor
open Go.RowKit
set_option maxRecDepth 100000
set_option maxHeartbeats 4000000
def Ls.fits (p : Ls) : Prop := (∀ x ∈ p.2, x.good) ∧ p.2.length * 48 ≤ 140737488351232
theorem flat_one {α β : Type} (f : α → β) : ∀ l : List α, l.flatMap (fun p => [f p]) = l.map f
  | [] => rfl
  | x :: l => by rw [List.flatMap_cons, flat_one f l]; rfl
theorem okc_sl_one {w : World} {n : Nat} {cs : List Value} (h : OKC Tryz.prog w n 22 cs) : ∃ v, cs = [v] := by
  cases n with
  | zero => exact h.elim
  | succ n =>
    unfold OKC at h
    rw [Tryz.underlying22] at h
    rcases h with h | ⟨a, len, cap, h, _⟩
    · exact ⟨_, h⟩
    · exact ⟨_, h⟩
theorem okc_grids {w : World} {v : Value} (h : ∃ n, OKC Tryz.prog w n 58 [v]) : ∃ (l : List Ls) (a : Option Addr) (cap : Nat), v = .slice a l.length cap ∧ (∀ p ∈ l, LsOk w p ∧ p.fits) ∧ RowIs w 1 v l.length (l.map (·.1)) ∧ l.length * 24 ≤ 140737488351232 := by
  obtain ⟨n, h⟩ := h
  cases n with
  | zero => exact h.elim
  | succ n =>
    obtain ⟨l, hg, hr, hby⟩ := OKC.row (fun p : Ls => [p.1]) (fun p => LsOk w p ∧ p.fits) 1 Tryz.underlying58 (by kernel_rfl) (by decide) (fun _ => rfl) (fun cs hc => by
      obtain ⟨v, rfl⟩ := okc_sl_one hc
      obtain ⟨l, a, cap, rfl, hg, hr, hb⟩ := okc_entries ⟨n, hc⟩
      exact ⟨(_, l), rfl, ⟨a, cap, rfl, hr⟩, hg, hb⟩) h
    obtain ⟨a, cap, hv⟩ := hr.form
    rw [show Tryz.prog.bytesOf 22 = 24 by kernel_rfl] at hby
    exact ⟨l, a, cap, hv, hg, by rw [← flat_one]; exact hr, hby⟩
theorem LsOk.ext {w w' : World} {p : Ls} (h : LsOk w p) (he : Ext w w') : LsOk w' p := by
  obtain ⟨a, c, h1, h2⟩ := h
  exact ⟨a, c, h1, h2.ext he⟩
theorem esz_ge : ∀ (l : List En) (n : Nat), n ≤ eszAux n l
  | [], _ => Nat.le_refl _
  | x :: l, n => by
    unfold eszAux
    split
    · exact Nat.le_trans (by omega) (esz_ge l _)
    · exact Nat.le_refl _
theorem esz_le : ∀ (l : List En) (n : Nat), (∀ x ∈ l, x.small) → eszAux n l ≤ max n 1048576 + 281474976702464
  | [], n, _ => by unfold eszAux; omega
  | x :: l, n, h => by
    obtain ⟨h1, h2⟩ := h x (List.mem_cons_self ..)
    unfold eszAux
    split
    · rename_i hn
      by_cases hs : n + x.mark.key.size + x.val.size ≤ 1048576
      · have := esz_le l (n + x.mark.key.size + x.val.size) (fun y hy => h y (List.mem_cons_of_mem _ hy))
        omega
      · cases l with
        | nil => unfold eszAux; omega
        | cons y l => unfold eszAux; rw [if_neg hs]; omega
    · omega
/-- How many entries at least, of lists of this size. -/
def totL (ls : List Ls) : Nat := (ls.map (·.2)).flatten.length
theorem tot_snoc (ls : List Ls) (p : Ls) : totL (ls ++ [p]) = totL ls + p.2.length := by
  unfold totL
  simp
theorem gsize_any (w : World) (ls : List Ls) (a : Option Addr) (cap n : Nat) (hnl : n = ls.length) (hR : RowIs w 1 (.slice a n cap) n (ls.map (·.1))) (hls : ∀ p ∈ ls, LsOk w p ∧ p.fits) (hn : n ≤ 20) :
    Calls Tryz.prog 21 #[.slice a n cap] w fun e w' => (∃ r : Nat, e = .returned (.int .i64 (r : Int)) ∧ (r ≤ 10000 → totL ls ≤ 10000)) ∧ Ext w w' := by
  have hn' := Lib.hid hnl
  have hR' := Lib.hid hR
  have hls' := Lib.hid hls
  clear hnl hR hls
  go_enter Tryz.func21, Tryz.ntmps21
  go_wp2_with fail
  go_loopw [3, 4] (fun s i wr => ∃ k N : Nat, k ≤ n ∧ s = .int .i64 (N : Int) ∧ i = .int .i64 k ∧ N ≤ 6000000000000000 ∧ Hid (totL (ls.take k) ≤ N) ∧ Ext w wr) (fun _ i _ => n - (intOf i).toNat)
  case atStart => exact ⟨0, n, by omega, rfl, rfl, by omega, Lib.hid (by simp [totL]), Ext.refl _⟩
  case round =>
    obtain ⟨k, N, hk, rfl, rfl, hN, hT, hE⟩ := hrel
    by_cases hlt : k < n
    · have hli : (k : Int) < (n : Int) := by omega
      by_cases hsm : N ≤ 1048576
      · have hsi : (N : Int) ≤ 1048576 := by omega
        obtain ⟨p, hp⟩ : ∃ p, ls[k]? = some p := ⟨_, List.getElem?_eq_getElem (by rw [← hn'.out]; exact hlt)⟩
        obtain ⟨hlo, hfit⟩ := hls'.out p (List.mem_of_getElem? hp)
        obtain ⟨pa, pc, hp1, hpr⟩ := hlo.ext hE
        obtain ⟨b, off, hat⟩ := (hR'.out.ext hE).at
        obtain ⟨rfl, _, hd⟩ := hat (by omega)
        have c0 : wr.cell? ⟨b, off + k, none⟩ = some (.slice pa p.2.length pc) := by rw [hd k (by omega), List.getElem?_map, hp, ← hp1]; rfl
        have htk : Hid (totL (ls.take (k + 1)) = totL (ls.take k) + p.2.length) := Lib.hid (by rw [List.take_add_one, hp]; exact tot_snoc _ _)
        have hes := Lib.hid (esize_any wr p.2 pa pc (fun x hx => (hfit.1 x hx).1) (by have := hfit.2; omega) (by rw [← hp1]; exact hpr))
        obtain ⟨L, hL⟩ : ∃ L, L = p.2.length := ⟨_, rfl⟩
        have g1 := esz_ge p.2 p.2.length
        have g2 := esz_le p.2 p.2.length (fun x hx => (hfit.1 x hx).1)
        have g3 := hfit.2
        obtain ⟨Z, hZ⟩ : ∃ Z, Z = eszAux p.2.length p.2 := ⟨_, rfl⟩
        rw [← hZ] at hes g1 g2
        rw [← hL] at hes g1 g2 g3 c0 htk
        clear hat hd hp hlo hfit hp1 hpr hL hZ
        have e1 : IntKind.i64.wrap ((N : Int) + (Z : Int)) = (N : Int) + (Z : Int) := by rw [IntKind.wrap_i64]; omega
        go_wp2_with fail
        refine hes.out.mono ?_
        rintro e w2 ⟨rfl, hE2⟩
        go_wp2_with fail
        go_roundw
        case rel => exact ⟨k + 1, N + Z, by omega, by go_num, by go_num, by omega, Lib.hid (by rw [htk.out]; have := hT.out; omega), hE.trans hE2⟩
        case measure => simp [intOf]; omega
      · have hsi : ¬ (N : Int) ≤ 1048576 := by omega
        go_wp2_with fail
        go_ret
        exact ⟨⟨N, rfl, fun h => by omega⟩, hE⟩
    · have hli : ¬ (k : Int) < (n : Int) := by omega
      have hkn : k = n := by omega
      have hT2 : Hid (totL ls ≤ N) := Lib.hid (by have := hT.out; rw [hkn, hn'.out, List.take_length] at this; exact this)
      clear hkn
      go_wp2_with fail
      go_ret
      exact ⟨⟨N, rfl, fun h => by have := hT2.out; omega⟩, hE⟩
end Go.Proofs.YtefllplgbalbkaaGreatDoor

/- Twins of lists of lists of entries; are they still what they were made of; a book keeps them. No condition. -/
namespace Go.Proofs.YtefllplgbalbkaaGreatDoor
open Go.RowKit
set_option maxRecDepth 100000
set_option maxHeartbeats 4000000
/-- A twin of a list. -/
structure Tw where
  b : Nat
  n : Nat
  cap : Nat
  l : List En
def Tw.v (t : Tw) : Value := .slice (some ⟨t.b, 0, none⟩) t.n t.cap
def TwOk (w : World) (base : Nat) (t : Tw) : Prop := t.n = t.l.length ∧ TwE w base t.b t.n t.cap t.l
theorem twE_lt {w : World} {base b n cap : Nat} {l : List En} (h : TwE w base b n cap l) : base ≤ b ∧ b < w.heap.size := OwnC.lt h b rfl
theorem twE_mono {w : World} {base c b n cap : Nat} {l : List En} (h : TwE w c b n cap l) (hb : base ≤ c) : TwE w base b n cap l := by
  obtain ⟨hl, h | ⟨g, cap, cur, h1, h2, h3⟩⟩ := h
  · exact ⟨hl, .inl h⟩
  · exact ⟨hl, .inr ⟨g, cap, cur, h1, Nat.le_trans hb h2, h3⟩⟩
/-- Twins, each in a block of its own, and the row of them in another. -/
structure TwsOk (w : World) (base : Nat) (row : Value) (ts : List Tw) : Prop where
  each : ∀ t ∈ ts, TwOk w base t
  apart : ts.Pairwise fun t u => t.b ≠ u.b
  own : OwnC w base 22 1 row ts.length (ts.map Tw.v)
  off : ∀ q, row.ownBlock = some q → ∀ t ∈ ts, t.b ≠ q
theorem TwsOk.ext {w w' : World} {base : Nat} {row : Value} {ts : List Tw} (h : TwsOk w base row ts) (he : Ext w w') : TwsOk w' base row ts :=
  ⟨fun t ht => ⟨(h.each t ht).1, (h.each t ht).2.ext he⟩, h.apart, h.own.ext he, h.off⟩
theorem own_mono2 {w : World} {base b : Nat} {e : TypeId} {z n : Nat} {v : Value} {xs : List Value} (h : OwnC w b e z v n xs) (hb : base ≤ b) : OwnC w base e z v n xs := by
  obtain ⟨hl, h | ⟨g, cap, cur, h1, h2, h3⟩⟩ := h
  · exact ⟨hl, .inl h⟩
  · exact ⟨hl, .inr ⟨g, cap, cur, h1, Nat.le_trans hb h2, h3⟩⟩
theorem TwsOk.mono {w : World} {base c : Nat} {row : Value} {ts : List Tw} (h : TwsOk w c row ts) (hb : base ≤ c) : TwsOk w base row ts :=
  ⟨fun t ht => ⟨(h.each t ht).1, twE_mono (h.each t ht).2 hb⟩, h.apart, own_mono2 h.own hb, h.off⟩
/-- One more. -/
theorem TwsOk.snoc {w w1 w2 : World} {base : Nat} {row row' : Value} {ts : List Tw} {t : Tw} (h : TwsOk w base row ts) (hE : Ext w w1) (ht : TwOk w1 w.heap.size t) (hb : base ≤ w.heap.size) (hA : AppK w1 w2 base 22 1 row row' ts.length (ts.map Tw.v) [t.v]) : TwsOk w2 base row' (ts ++ [t]) := by
  have h1 := h.ext hE
  have tb := twE_lt ht.2
  have hlt : ∀ q, row.ownBlock = some q → q < w.heap.size := fun q hq => (h.own.lt q hq).2
  have keep : ∀ u : Tw, (∀ q, row.ownBlock = some q → u.b ≠ q) → TwOk w1 base u → TwOk w2 base u := fun u hu hk => by
    refine ⟨hk.1, OwnC.offB hk.2 hA.off fun q hq hB => hu q hB ?_⟩
    simpa [Value.ownBlock] using hq
  refine ⟨fun u hu => ?_, ?_, ?_, fun q hq u hu => ?_⟩
  · rcases List.mem_append.1 hu with hu | hu
    · exact keep u (fun q hq => h.off q hq u hu) (h1.each u hu)
    · rw [List.mem_singleton.1 hu]
      exact keep t (fun q hq => by have := hlt q hq; omega) ⟨ht.1, twE_mono ht.2 hb⟩
  · refine List.pairwise_append.2 ⟨h.apart, List.pairwise_singleton _ _, fun u hu t' ht' => ?_⟩
    rw [List.mem_singleton.1 ht']
    have := twE_lt (h.each u hu).2
    omega
  · rw [List.length_append, List.map_append]
    exact hA.own
  · rcases hA.at_ q hq with h2 | h2
    · rcases List.mem_append.1 hu with hu | hu
      · exact h.off q h2 u hu
      · rw [List.mem_singleton.1 hu]; have := hlt q h2; omega
    · rcases List.mem_append.1 hu with hu | hu
      · have := twE_lt (h1.each u hu).2; omega
      · rw [List.mem_singleton.1 hu]; omega
theorem twinG_any (w : World) (ls : List Ls) (a : Option Addr) (cap n : Nat) (hnl : n = ls.length) (hR : RowIs w 1 (.slice a n cap) n (ls.map (·.1))) (hls : ∀ p ∈ ls, LsOk w p ∧ p.2.length ≤ 50000) (hn : n ≤ 20) :
    Calls Tryz.prog 22 #[.slice a n cap] w fun e w' => ∃ oa oc ts, e = .returned (.slice oa n oc) ∧ Hid (ts.map Tw.l = ls.map (·.2)) ∧ Hid (TwsOk w' w.heap.size (.slice oa n oc) ts) ∧ Ext w w' := by
  have hn' := Lib.hid hnl
  have hR' := Lib.hid hR
  have hls' := Lib.hid hls
  clear hnl hR hls
  go_enter Tryz.func22, Tryz.ntmps22
  go_wp2_with fail
  go_loopw [3, 4] (fun out i wr => ∃ (k : Nat) (oa : Option Addr) (oc : Nat) (ts : List Tw), k ≤ n ∧ i = .int .i64 k ∧ out = .slice oa k oc ∧ Hid (ts.map Tw.l = (ls.take k).map (·.2)) ∧ Hid (k = ts.length) ∧ Hid (TwsOk wr w.heap.size (.slice oa k oc) ts) ∧ Ext w wr) (fun _ i _ => n - (intOf i).toNat)
  case atStart => exact ⟨0, none, 0, [], by omega, rfl, rfl, Lib.hid rfl, Lib.hid rfl, Lib.hid ⟨fun _ h => (nomatch h), .nil, OwnC.nil _ _ _ _, fun _ h => (nomatch h)⟩, Ext.refl _⟩
  case round =>
    obtain ⟨k, oa, oc, ts, hk, rfl, rfl, hl, hkl, hT, hE⟩ := hrel
    by_cases hlt : k < n
    · have hli : (k : Int) < (n : Int) := by omega
      obtain ⟨p, hp⟩ : ∃ p, ls[k]? = some p := ⟨_, List.getElem?_eq_getElem (by rw [← hn'.out]; exact hlt)⟩
      obtain ⟨hlo, hfit⟩ := hls'.out p (List.mem_of_getElem? hp)
      obtain ⟨pa, pc, hp1, hpr⟩ := hlo.ext hE
      obtain ⟨b, off, hat⟩ := (hR'.out.ext hE).at
      obtain ⟨rfl, _, hd⟩ := hat (by omega)
      obtain ⟨L, hL⟩ : ∃ L, L = p.2.length := ⟨_, rfl⟩
      have c0 : wr.cell? ⟨b, off + k, none⟩ = some (.slice pa L pc) := by rw [hd k (by omega), List.getElem?_map, hp, hL, ← hp1]; rfl
      have htk : Hid ((ls.take (k + 1)).map (·.2) = (ls.take k).map (·.2) ++ [p.2]) := Lib.hid (by rw [List.take_add_one, hp, List.map_append]; rfl)
      have htw := Lib.hid (twinE_any wr p.2 pa pc L hL (by rw [hL, ← hp1]; exact hpr) (by rw [hL]; exact hfit))
      have hL' := Lib.hid hL
      clear hat hd hp hlo hfit hp1 hpr hL
      go_wp2_with fail
      refine htw.out.mono ?_
      rintro e w2 ⟨tb, tc, rfl, ht, hE2⟩
      have hown2 := Lib.hid (hT.out.own.ext hE2)
      rw [← hkl.out] at hown2
      have hb2 : w.heap.size ≤ w2.heap.size := (hE.trans hE2).size
      have htok : Hid (TwOk w2 wr.heap.size ⟨tb, L, tc, p.2⟩) := Lib.hid ⟨hL'.out, ht⟩
      have hfin : Hid (∀ v' w3, AppK w2 w3 w.heap.size 22 1 (.slice oa k oc) v' k (ts.map Tw.v) [.slice (some ⟨tb, 0, none⟩) L tc] → TwsOk w3 w.heap.size v' (ts ++ [⟨tb, L, tc, p.2⟩])) := Lib.hid (fun v' w3 hA => hT.out.snoc hE2 htok.out hE.size (by rw [← hkl.out]; exact hA))
      have hEx := hE.trans hE2
      clear hT ht hE hE2 htw htok
      go_wp2_with (first | (at_builtin; go_loud (refine wpList_append_k (by rfl) (.tmp 11) (.tmp 17) 58 22 (by rfl) Tryz.underlying58 el_sl w2 w.heap.size k _ (.slice oa k oc) (by rfl) hown2.out #[.slice (some ⟨tb, 0, none⟩) L tc] (by rfl) (by rfl) (by simp [Value.oneCell']) (by omega) (by omega) hb2 ?_); go_loud (intro v' w3 hA3; obtain ⟨oa', oc', rfl, _⟩ := hA3.own.form; have hT3 := Lib.hid (hfin.out _ w3 hA3); have hX3 : Ext w w3 := Below.trans hEx (hA3.off.below (fun q hq => (hown2.out.lt q hq).1) hb2); clear hA3)) | fail)
      go_roundw
      case rel => exact ⟨k + 1, oa', oc', ts ++ [⟨tb, L, tc, p.2⟩], by omega, by go_num, rfl, Lib.hid (by rw [List.map_append, hl.out, htk.out]; rfl), Lib.hid (by rw [List.length_append, ← hkl.out]; rfl), hT3, hX3⟩
      case measure => simp [intOf]; omega
    · have hli : ¬ (k : Int) < (n : Int) := by omega
      obtain rfl : k = n := by omega
      have hl2 : Hid (ts.map Tw.l = ls.map (·.2)) := Lib.hid (by have := hl.out; rw [hn'.out, List.take_length] at this; exact this)
      go_wp2_with fail
      go_ret
      exact ⟨oa, oc, rfl, ts, hl2, hT, hE⟩
theorem leftG_any (w : World) (ls : List Ls) (ts : List Tw) (base : Nat) (ta : Option Addr) (tc : Nat) (a : Option Addr) (cap n : Nat) (hnl : n = ls.length) (hR : RowIs w 1 (.slice a n cap) n (ls.map (·.1))) (hls : ∀ p ∈ ls, LsOk w p ∧ p.2.length ≤ 50000) (hn : n ≤ 20) (hl : ts.map Tw.l = ls.map (·.2)) (hT : TwsOk w base (.slice ta n tc) ts) :
    Calls Tryz.prog 25 #[.slice ta n tc, .slice a n cap] w fun e w' => e = .returned (.bool true) ∧ Ext w w' := by
  have hn' := Lib.hid hnl
  have hR' := Lib.hid hR
  have hls' := Lib.hid hls
  have hT' := Lib.hid hT
  have hl' := Lib.hid hl
  have htl : Hid (n = ts.length) := Lib.hid (by have := congrArg List.length hl; rw [List.length_map, List.length_map] at this; omega)
  clear hnl hR hls hT hl
  go_enter Tryz.func25, Tryz.ntmps25
  go_wp2_with fail
  go_loopw [5] (fun i wr => ∃ k : Nat, k ≤ n ∧ i = .int .i64 k ∧ Ext w wr) (fun i _ => n - (intOf i).toNat)
  case atStart => exact ⟨0, by omega, rfl, Ext.refl _⟩
  case round =>
    obtain ⟨k, hk, rfl, hE⟩ := hrel
    by_cases hlt : k < n
    · have hli : (k : Int) < (n : Int) := by omega
      obtain ⟨p, hp⟩ : ∃ p, ls[k]? = some p := ⟨_, List.getElem?_eq_getElem (by rw [← hn'.out]; exact hlt)⟩
      obtain ⟨t, ht⟩ : ∃ t, ts[k]? = some t := ⟨_, List.getElem?_eq_getElem (by rw [← htl.out]; exact hlt)⟩
      have htp : t.l = p.2 := by
        have h1 : (ts.map Tw.l)[k]? = some t.l := by rw [List.getElem?_map, ht]; rfl
        rw [hl'.out, List.getElem?_map, hp] at h1
        injection h1 with h1
        exact h1.symm
      obtain ⟨hlo, hfit⟩ := hls'.out p (List.mem_of_getElem? hp)
      obtain ⟨pa, pc, hp1, hpr⟩ := hlo.ext hE
      have htk := (hT'.out.ext hE).each t (List.mem_of_getElem? ht)
      obtain ⟨b, off, hat⟩ := (hR'.out.ext hE).at
      obtain ⟨rfl, _, hd⟩ := hat (by omega)
      have hrow : RowIs wr 1 (.slice ta n tc) n (ts.map Tw.v) := by have := (hT'.out.ext hE).own.row; rwa [← htl.out] at this
      obtain ⟨b2, off2, hat2⟩ := hrow.at
      obtain ⟨rfl, _, hd2⟩ := hat2 (by omega)
      obtain ⟨L, hL⟩ : ∃ L, L = p.2.length := ⟨_, rfl⟩
      obtain ⟨tb, tn, tcp, tl⟩ := t
      have htn : tn = L := by rw [hL, ← htp]; exact htk.1
      subst htn
      have c0 : wr.cell? ⟨b, off + k, none⟩ = some (.slice pa tn pc) := by rw [hd k (by omega), List.getElem?_map, hp, hL, ← hp1]; rfl
      have c1 : wr.cell? ⟨b2, off2 + k, none⟩ = some (.slice (some ⟨tb, 0, none⟩) tn tcp) := by rw [hd2 k (by omega), List.getElem?_map, ht]; rfl
      have hle : Hid (∀ W, Ext wr W → Calls Tryz.prog 11 #[.slice (some ⟨tb, 0, none⟩) tn tcp, .slice pa tn pc] W fun e w' => e = .returned (.bool true) ∧ Ext W w') := Lib.hid (fun W hW => leftE_any W p.2 base tb tcp pa pc tn hL (by rw [hL, ← hp1]; exact hpr.ext hW) (by rw [hL]; exact hfit) (by have := htk.2.ext hW; rw [← htp]; exact this))
      clear hat hd hat2 hd2 hp ht htp hlo hfit hp1 hpr htk hL hrow
      go_upto_region 6 with fail
      refine bqRegion (Ext wr) (by kernel_rfl) (by kernel_rfl) (Ext.refl _).drew ?_
      iterate 3 (refine bqStep (fun K hK => ?_); go_simp; first | (refine hK _ ?_; clear hK K) | (refine ⟨_, fun _ _ => rfl, hK _ ?_⟩; clear hK K))
      refine bqCell (by rfl) 22 (.tmp 19) (by rfl) b2 (off2 + k) (by rfl) _ (fun w' h => h.cell c1) _ Tryz.underlying22 rfl ?_
      iterate 3 (refine bqStep (fun K hK => ?_); go_simp; first | (refine hK _ ?_; clear hK K) | (refine ⟨_, fun _ _ => rfl, hK _ ?_⟩; clear hK K))
      refine bqCell (by rfl) 22 (.tmp 23) (by rfl) b (off + k) (by rfl) _ (fun w' h => h.cell c0) _ Tryz.underlying22 rfl ?_
      refine bqStep (fun K hK => ?_)
      go_simp
      refine ⟨_, fun w' hw => calls_ext hw (hle.out w' hw), hK _ ?_⟩
      clear hK K
      iterate 1 (refine bqStep (fun K hK => ?_); go_simp; first | (refine hK _ ?_; clear hK K) | (refine ⟨_, fun _ _ => rfl, hK _ ?_⟩; clear hK K))
      refine bqNil (fun w5 hE5 => ?_)
      have hE6 := hE.trans hE5
      clear c0 c1 hle
      go_wp2_with fail
      go_roundw
      case rel => exact ⟨k + 1, by omega, by go_num, hE6⟩
      case measure => simp [intOf]; omega
    · have hli : ¬ (k : Int) < (n : Int) := by omega
      go_wp2_with fail
      go_ret
      exact ⟨rfl, hE⟩
theorem bookG_any {base g nb : Nat} {L : List Value} {w : World} (h : BkS base g nb L w) (ts : List Tw) (ta : Option Addr) (tc n : Nat) (htl : n = ts.length) (hn : n ≤ 20) (hnb : nb ≤ 40) (hT : TwsOk w base (.slice ta n tc) ts) (hlen : ∀ t ∈ ts, t.l.length ≤ 50000) (hg : (∀ q, (Value.slice ta n tc).ownBlock = some q → q < g) ∧ ∀ t ∈ ts, t.b < g) (hL : ∀ t ∈ ts, ∀ v ∈ L, v.ownBlock ≠ some t.b) :
    Calls Tryz.prog 26 #[.pointer (some ⟨g, 0, none⟩), .slice ta n tc] w fun e w' => e = .returned (.tuple #[]) ∧ Below base w w' ∧ OffB (fun q => g ≤ q) w w' ∧ BkS base g (nb + n) ((ts.map Tw.v).reverse ++ L) w' := by
  have hB' := Lib.hid h
  have hT' := Lib.hid hT
  have htl' := Lib.hid htl
  have hlen' := Lib.hid hlen
  have hg' := Lib.hid hg
  have hL' := Lib.hid hL
  clear h hT htl hlen hg hL
  go_enter Tryz.func26, Tryz.ntmps26
  go_wp2_with fail
  go_loopw [4] (fun i wr => ∃ k : Nat, k ≤ n ∧ i = .int .i64 k ∧ Below base w wr ∧ OffB (fun q => g ≤ q) w wr ∧ Hid (BkS base g (nb + k) (((ts.take k).map Tw.v).reverse ++ L) wr)) (fun i _ => n - (intOf i).toNat)
  case atStart => exact ⟨0, by omega, rfl, Below.refl _ _, OffB.refl _, Lib.hid (by simpa using hB'.out)⟩
  case round =>
    obtain ⟨k, hk, rfl, hE, hO, hB⟩ := hrel
    by_cases hlt : k < n
    · have hli : (k : Int) < (n : Int) := by omega
      obtain ⟨t, ht⟩ : ∃ t, ts[k]? = some t := ⟨_, List.getElem?_eq_getElem (by rw [← htl'.out]; exact hlt)⟩
      have htm := List.mem_of_getElem? ht
      have htk := hT'.out.each t htm
      have hown : OwnC wr base 22 1 (.slice ta n tc) ts.length (ts.map Tw.v) := hT'.out.own.offB hO (fun q hq hB => by have := hg'.out.1 q hq; omega)
      have hrow : RowIs wr 1 (.slice ta n tc) n (ts.map Tw.v) := by have := hown.row; rwa [← htl'.out] at this
      obtain ⟨b2, off2, hat2⟩ := hrow.at
      obtain ⟨rfl, _, hd2⟩ := hat2 (by omega)
      have hgt := hg'.out.2 t htm
      have hto : Hid (OwnC wr base 69 4 (.slice (some ⟨t.b, 0, none⟩) t.n t.cap) t.n (t.l.flatMap enL)) := Lib.hid (OwnC.offB (htk.2.own htk.1) hO (fun q hq hB => by
        have : t.b = q := by simpa [Value.ownBlock] using hq
        omega))
      have hsep : Hid (∀ v ∈ ((ts.take k).map Tw.v).reverse ++ L, Sep (.slice (some ⟨t.b, 0, none⟩) t.n t.cap) v) := Lib.hid (fun v hv q hq hq' => by
        have hqb : t.b = q := by simpa [Value.ownBlock] using hq
        subst hqb
        rcases List.mem_append.1 hv with hv | hv
        · obtain ⟨u, hu, rfl⟩ := List.mem_map.1 (List.mem_reverse.1 hv)
          obtain ⟨j, hj⟩ := List.mem_iff_getElem?.1 hu
          rw [List.getElem?_take] at hj
          by_cases hjk : j < k
          · rw [if_pos hjk] at hj
            obtain ⟨j1, j2⟩ := List.getElem?_eq_some_iff.1 hj
            obtain ⟨k1, k2⟩ := List.getElem?_eq_some_iff.1 ht
            have h1 := List.pairwise_iff_getElem.1 hT'.out.apart j k j1 k1 hjk
            rw [j2, k2] at h1
            refine h1 ?_
            simpa [Value.ownBlock, Tw.v] using hq'
          · rw [if_neg hjk] at hj; cases hj
        · exact hL'.out t htm v hv hq')
      have hln : Hid (t.n ≤ 1000000) := Lib.hid (by have := hlen'.out t htm; rw [htk.1]; omega)
      have hrev : Hid (((ts.take (k + 1)).map Tw.v).reverse ++ L = t.v :: (((ts.take k).map Tw.v).reverse ++ L)) := Lib.hid (by rw [List.take_add_one, ht]; simp)
      obtain ⟨tb, tn, tcp, tl⟩ := t
      have c1 : wr.cell? ⟨b2, off2 + k, none⟩ = some (.slice (some ⟨tb, 0, none⟩) tn tcp) := by rw [hd2 k (by omega), List.getElem?_map, ht]; rfl
      have hgq : Hid (∀ q, (Value.slice (some ⟨tb, 0, none⟩) tn tcp).ownBlock = some q → q < g) := Lib.hid (fun q hq => by
        have : tb = q := by simpa [Value.ownBlock] using hq
        subst this; exact hgt)
      clear hat2 hd2 ht htm htk hown hgt hrow
      go_wp2_with fail
      refine (bookE_any hB.out (by omega) _ tn tcp _ hto.out hln.out hgq.out hsep.out).mono ?_
      rintro e w2 ⟨rfl, hb2, hO2, hS2⟩
      have hE3 := Below.trans hE hb2
      have hO3 := OffB.trans hO hO2
      have hS3 : Hid (BkS base g (nb + (k + 1)) (((ts.take (k + 1)).map Tw.v).reverse ++ L) w2) := Lib.hid (by rw [hrev.out, ← Nat.add_assoc]; exact hS2)
      clear hS2 hE hO hb2 hO2 hB hto hsep hln hrev
      go_wp2_with fail
      go_roundw
      case rel => exact ⟨k + 1, by omega, by go_num, hE3, hO3, hS3⟩
      case measure => simp [intOf]; omega
    · have hli : ¬ (k : Int) < (n : Int) := by omega
      obtain rfl : k = n := by omega
      have hfin : Hid (BkS base g (nb + k) ((ts.map Tw.v).reverse ++ L) wr) := Lib.hid (by have := hB.out; rw [htl'.out, List.take_length] at this; rw [htl'.out]; exact this)
      go_wp2_with fail
      go_end0
      exact ⟨rfl, hE, hO, hfin.out⟩
end Go.Proofs.YtefllplgbalbkaaGreatDoor
