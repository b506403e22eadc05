import Derived.Test.YtdkhcamckjidcaaSuf9
import Derived.Test.YtdkhcamckjidcaaTell
namespace Go.Proofs.Ytdkhcamckjidcaa
open Go.RowKit
theorem Told.ext {w w' : World} {base : Nat} {a : Option Addr} {L : List (It × Option Addr × Nat)} (h : Told w base a L) (he : Ext w w') : Told w' base a L :=
  ⟨h.1.ext he, h.2.1, fun p hp => ⟨(h.2.2 p hp).1.ext he, (h.2.2 p hp).2⟩⟩
theorem gOf_chs {w : World} (ix : Nat) (l : List (It × Option Addr × Nat)) (hl : ∀ p ∈ l, ItAt w p.1 p.2.1 p.2.2) (j : Nat) : (gOf ix l j).chs.length ≤ 140737488351232 := by
  unfold gOf
  cases h : l[j - ix - 1]? with
  | none => exact Nat.zero_le _
  | some p => have := (hl p (List.mem_of_getElem? h)).2; simp only; omega
theorem told_chs {w : World} {ix q n : Nat} {l L : List (It × Option Addr × Nat)} (hl : ∀ p ∈ l, ItAt w p.1 p.2.1 p.2.2) (hm : L.map (·.1) = (List.range n).map (fun d => gOf ix l (q + d + 1))) : ∀ p ∈ L, p.1.chs.length ≤ 140737488351232 := by
  intro p hp
  have h1 : p.1 ∈ L.map (·.1) := List.mem_map.2 ⟨p, hp, rfl⟩
  rw [hm] at h1
  obtain ⟨d, _, hd⟩ := List.mem_map.1 h1
  rw [← hd]
  exact gOf_chs ix l hl _
set_option maxRecDepth 100000 in
set_option maxHeartbeats 4000000 in
theorem suffixesTwo_walk (w : World) (s : Int) (o0 : ∃ n, OKC Try.prog w n 22 [.int .u64 s]) (v : Value) (o1 : ∃ n, OKC Try.prog w n 23 [v]) (v2 : Value) (o2 : ∃ n, OKC Try.prog w n 43 [v2]) :
    Calls Try.prog 5 #[.int .u64 s, v, v2] w fun e w' => e = .returned (.bool true) ∧ Ext w w' := by
  obtain ⟨ix, rfl, hix⟩ := okc_nat (top := 18446744073709551616) Try.underlying22 (fun _ h => wf_u64 h) o0
  obtain ⟨l, a, cap, rfl, hl, hR⟩ := okc_items o1
  obtain ⟨hl8, a8, cap8, rfl, hh8, hR8⟩ := okc_u8row Try.underlying43 Try.underlying5 (by kernel_rfl) o2
  clear o0 o1 o2
  by_cases hbig : ix ≤ 1152921504606846976 ∧ l.length ≤ 200
  · obtain ⟨hb1, hb2⟩ := hbig
    have c1 : ¬ (1152921504606846976 : Int) < (ix : Int) := by omega
    have c2 : ¬ (200 : Int) < (l.length : Int) := by omega
    go_enter Try.func5, Try.ntmps5
    go_wp2_with fail
    refine (new_any ix w).mono ?_
    rintro e w0 ⟨rfl, hw0⟩
    have hw0' := Lib.hid hw0
    obtain ⟨b, hb⟩ : ∃ b, b = w.heap.size := ⟨_, rfl⟩
    rw [← hb]
    have hb' := Lib.hid hb
    clear hw0 hb
    go_wp2_with fail
    refine (new_any ix w0).mono ?_
    rintro e w1 ⟨rfl, hw1⟩
    have hw0 := hw0'.out
    have hb := hb'.out
    have hb1s : w0.heap.size = b + 1 := by rw [hw0, hb]; simp
    have hD : ∀ k, (k = b ∨ k = b + 1) → k < w0.heap.size + 1 := fun k hk => by omega
    obtain ⟨D, hDd⟩ : ∃ D : Nat → Prop, D = fun k => k = b ∨ k = b + 1 := ⟨_, rfl⟩
    have hDb : D b := by rw [hDd]; exact .inl rfl
    have hDc : D (b + 1) := by rw [hDd]; exact .inr rfl
    have hDlt : ∀ k, D k → b ≤ k := fun k hk => by rw [hDd] at hk; omega
    have hDall : ∀ k, D k → k < w0.heap.size + 1 := fun k hk => by rw [hDd] at hk; exact hD k hk
    have hS0 : SufD w1 D b ix 0 (gOf ix l) := by
      refine ⟨hDb, fun k hk => by have := hDall k hk; rw [hw1]; simpa using this, fun _ => zItem, ?_, by omega, by omega, fun k h1 h2 => by omega⟩
      rw [hw1]
      have h0 : SufAt w0 b ix 0 (fun _ => zItem) := by rw [hw0, hb]; exact SufAt.new w ix
      exact h0.off (B := fun _ => False) (.of_ext ((Ext.refl _).alloc _)) id
    have hT0 : SufD w1 D (b + 1) ix 0 (gOf ix l) := by
      rw [hw1, ← hb1s]
      exact sufD_new w0 D ix (by omega) _ (by rw [hb1s]; exact hDc) hDall
    have hE0 : OffB D w w1 := by
      rw [hw1, hw0]
      exact .of_ext (((Ext.refl w).alloc _).alloc _)
    rw [hb1s]
    clear hw0 hw0' hw1 hb hb1s hD hDd hDall c1 c2
    go_wp2
    go_loopw [9] (fun i wr => ∃ k f m : Nat, k ≤ l.length ∧ i = .int .i64 k ∧ ix ≤ f ∧ f + m = ix + k ∧ SufD wr D b ix k (gOf ix l) ∧ SufD wr D (b + 1) f m (gOf ix l) ∧ OffB D w wr) (fun i _ => l.length - (intOf i).toNat)
    case atStart => exact ⟨0, ix, 0, by omega, rfl, by omega, by omega, hS0, hT0, hE0⟩
    case round =>
      obtain ⟨k, f, m, hk, rfl, hf, hfm, hS, hT, hE⟩ := hrel
      have hin : ∀ j, j < w.heap.size → ¬ D j := fun j hj hD => by have := hDlt j hD; have := hb'.out; omega
      have hR2 := hR.ext (hE.ext hin)
      by_cases hlt : k < l.length
      · have hli : (k : Int) < (l.length : Int) := by omega
        obtain ⟨p, hp⟩ : ∃ p, l[k]? = some p := ⟨_, List.getElem?_eq_getElem hlt⟩
        obtain ⟨lb, off, hat⟩ := hR2.at
        obtain ⟨rfl, _, hcell⟩ := hat (by omega)
        have hrg : wr.rangeAt lb (off + k * 11) (p.1.row (.slice p.2.1 p.1.chs.length p.2.2)).toList := fun r v hv => by
          have hr : r < 11 := (List.getElem?_eq_some_iff.1 hv).1
          rw [Nat.add_assoc, hcell (k * 11 + r) (by omega), inRow_at l k p hp r hr]; exact hv
        obtain ⟨hpR, hpn⟩ := hl p (List.mem_of_getElem? hp)
        have hpR2 := hpR.ext (hE.ext hin)
        obtain ⟨x, pa, pc⟩ := p
        simp only at hrg hpR hpn hpR2
        clear hcell hat
        obtain ⟨t, ht⟩ : ∃ t, t = ix + k + 1 := ⟨_, rfl⟩
        have e1 : IntKind.u64.wrap ((ix : Int) + (k : Int) + 1) = (t : Int) := by rw [IntWalk.u64_in _ (by omega)]; omega
        have e0 : IntKind.u64.wrap (k : Int) = (k : Int) := by rw [IntWalk.u64_in _ (by omega)]
        have e2 : IntKind.u64.wrap ((ix : Int) + (k : Int)) = (ix : Int) + (k : Int) := by rw [IntWalk.u64_in _ (by omega)]
        have hg : gOf ix l (ix + k + 1) = { x with idx := t } := by rw [ht]; exact gOf_at hp
        have ht' := Lib.hid ht
        have hfm' := Lib.hid hfm
        clear ht hfm
        go_wp2_with (first | (refine wpList_load_mid (by rfl) 34 (.tmp 35) (by rfl) lb (off + k * 11) (by rfl) (x.row (.slice pa x.chs.length pc)).toList _ hrg Try.underlying34 rfl (by rw [row34]; exact info34) ?_) | (refine wpList_store_it (by rfl) (.tmp 10) (.tmp 36) (by rfl) wr x pa x.chs.length pc (by rfl) (by rfl) ?_; go_loud (obtain ⟨W2, hW2⟩ : ∃ W2, W2 = wr.alloc (.cells (x.row (.slice pa x.chs.length pc)) 34) := ⟨_, rfl⟩; have hb2 : W2.heap[wr.heap.size]? = some (.cells (x.row (.slice pa x.chs.length pc)) 34 (0, 0)) := (congrArg (fun z => z.heap[wr.heap.size]?) hW2).trans (heap_alloc_new _ _); have k0 := (row_cells hb2).1; have fz : W2.frozen? ⟨wr.heap.size, 0, none⟩ = false := (by unfold World.frozen?; rw [hb2]; simp); have hE2 : Ext wr W2 := hW2 ▸ (Ext.refl _).alloc _; rw [← hW2]; clear hW2; have hrg3 := idx_range hb2 t)) | (refine wpList_load_mid (by rfl) 34 (.tmp 10) (by rfl) wr.heap.size 0 (by rfl) ({ x with idx := t }.row (.slice pa x.chs.length pc)).toList _ hrg3 Try.underlying34 rfl (by rw [row34]; exact info34) ?_) | fail)
        have hE3 : Ext wr (W2.setCell ⟨wr.heap.size, 0, none⟩ (.int .u64 (t : Int))) := hE2.setCell (Nat.le_refl _) _
        generalize W2.setCell ⟨wr.heap.size, 0, none⟩ (.int .u64 (t : Int)) = W3 at *
        have hS3 := hS.ext hE3
        have hT3 := hT.ext hE3
        have hX3 := hE.trans (.of_ext hE3)
        have ht2 := ht'.out
        have hfm2 := hfm'.out
        have hgt : gOf ix l (f + m + 1) = { x with idx := t } := by rw [hfm2]; exact hg
        have hk256 : k < 256 := by omega
        have hm256 : m < 256 := by omega
        have hft : ix + k + 1 < 18446744073709551615 := by omega
        have hft2 : f + m + 1 < 18446744073709551615 := by omega
        have htm : t = f + m + 1 := by omega
        have htm' := Lib.hid htm
        clear hrg k0 fz hb2 ht2 hfm2 htm
        refine (sufD_add hS3 hk256 hft { x with idx := t } ht'.out hg pa pc (hpR2.ext hE3) hpn).mono ?_
        rintro e w4 ⟨rfl, hS4, hE4⟩
        have hbw : b < wr.heap.size := hS.suf.lt
        have hrg4 : w4.rangeAt wr.heap.size 0 ({ x with idx := t }.row (.slice pa x.chs.length pc)).toList := hE4.range hrg3 (by omega)
        have hT4 := hT3.off hE4 (by omega) (fun k _ hk => by subst hk; exact hDb)
        have hX4 : OffB D w w4 := hX3.trans (hE4.past (fun k _ hk => by subst hk; exact hDb))
        have hpR4 := hpR.ext (hX4.ext hin)
        clear hrg3 hS3 hT3 hS hT hE2 hE4 hbw
        go_wp2_with (first | (refine wpList_load_mid_on (by rfl) 34 (.tmp 10) (by rfl) wr.heap.size 0 (by rfl) ({ x with idx := t }.row (.slice pa x.chs.length pc)).toList _ hrg4 Try.underlying34 rfl (by rw [row34]; exact info34) ?_) | fail)
        refine (sufD_add hT4 hm256 hft2 { x with idx := t } htm'.out hgt pa pc hpR4 hpn).mono ?_
        rintro e w5 ⟨rfl, hT5, hE5⟩
        have hS5 := hS4.off hE5 (by omega) (fun k _ hk => by subst hk; exact hDc)
        have hX5 : OffB D w w5 := hX4.trans (hE5.past (fun k _ hk => by subst hk; exact hDc))
        have hR5 := hR8.ext (hX5.ext hin)
        have hn8 := hR5.2.1
        clear hrg4 hS4 hT4
        by_cases h8 : k < hl8.length
        · have h8i : (k : Int) < (hl8.length : Int) := by omega
          obtain ⟨b8, off8, hat8⟩ := hR5.at
          obtain ⟨rfl, _, hcell8⟩ := hat8 (by omega)
          obtain ⟨c, hc⟩ : ∃ c, hl8[k]? = some c := ⟨_, List.getElem?_eq_getElem h8⟩
          have hc256 := hh8 c (List.mem_of_getElem? hc)
          have q8 := hcell8 k (by omega)
          rw [u8row_at hl8 k c hc] at q8
          obtain ⟨z, hz⟩ : ∃ z, z = ix + c := ⟨_, rfl⟩
          have f1 : IntKind.u64.wrap (c : Int) = (c : Int) := by rw [IntWalk.u64_in _ (by omega)]
          have f2 : IntKind.u64.wrap ((ix : Int) + (c : Int)) = (z : Int) := by rw [IntWalk.u64_in _ (by omega)]; omega
          clear hz hcell8 hat8 hc
          go_wp2_with fail
          refine (sufD_heard_any hT5 z).mono ?_
          rintro e w6 ⟨xx, f', m', rfl, hff, hfm6, hT6, hE6⟩
          have hS6 := hS5.off hE6 (by omega) (fun k _ hk => by subst hk; exact hDc)
          have hX6 : OffB D w w6 := hX5.trans (hE6.past (fun k _ hk => by subst hk; exact hDc))
          have hH := Lib.hid (And.intro hff hfm6)
          clear hff hfm6
          have hH2 := hH.out
          have hfm2 := hfm'.out
          have g1 : f' ≤ ix + (k + 1) := by omega
          have g2 : ix ≤ f' := by omega
          have g3 : f' ≤ f' + m' := by omega
          have d2 : ¬ (f' : Int) < (ix : Int) := by omega
          have hnn : ix + (k + 1) - f' = f' + m' - f' := by omega
          have hnn' := Lib.hid hnn
          clear hH2 hfm2 hnn
          go_wp2_with fail
          refine (suf_first hT6.suf).mono ?_
          rintro e w7 ⟨rfl, rfl⟩
          go_wp2_with fail
          refine (suf_from hS6.suf f' g2 g1).mono ?_
          rintro e w8 ⟨aL, L, rfl, hmL, hTL, _, hE8⟩
          have hT8 := hT6.ext hE8
          have hS8 := hS6.ext hE8
          have hX8 := hX6.trans (.of_ext hE8)
          have hmL' := Lib.hid hmL
          have hTL' := Lib.hid hTL
          clear hmL hTL
          go_wp2_with fail
          refine (suf_first hT8.suf).mono ?_
          rintro e w9 ⟨rfl, rfl⟩
          go_wp2_with fail
          refine (suf_from hT8.suf f' (Nat.le_refl _) g3).mono ?_
          rintro e w10 ⟨aM, M, rfl, hmM, hTM, _, hE10⟩
          have hT10 := hT8.ext hE10
          have hS10 := hS8.ext hE10
          have hX10 := hX8.trans (.of_ext hE10)
          have hmM' := Lib.hid hmM
          have hTM' := Lib.hid hTM
          clear hmM hTM
          go_wp2_with fail
          refine (sameItems_any w10 L M aL aM _ _ (by rw [hmL'.out, hmM'.out, hnn'.out]) (Told.ext hTL'.out hE10) hTM'.out (told_chs hl hmL'.out)).mono ?_
          rintro e w11 ⟨rfl, hE11⟩
          have hT11 := hT10.ext hE11
          have hS11 := hS10.ext hE11
          have hX11 := hX10.trans (.of_ext hE11)
          clear hT10 hS10 hX10 hT8 hS8 hX8 hT6 hS6 hX6
          go_wp2_with fail
          refine (suf_last hT11.suf).mono ?_
          rintro e w12 ⟨rfl, rfl⟩
          go_wp2_with fail
          refine (suf_last (hS11.ext (Ext.refl _).drew).suf).mono ?_
          rintro e w13 ⟨rfl, rfl⟩
          go_wp2_with fail
          refine (suf_first (hT11.ext ((Ext.refl _).drew.drew)).suf).mono ?_
          rintro e w14 ⟨rfl, rfl⟩
          go_wp2_with fail
          refine (suf_first (hS11.ext ((Ext.refl _).drew.drew)).suf).mono ?_
          rintro e w15 ⟨rfl, rfl⟩
          go_wp2_with fail
          all_goals first | (exfalso; have hh := hH.out; have h5 := hfm'.out; omega) | go_roundw
          all_goals first | (refine ⟨k + 1, f', m', by omega, by go_num, by (have hh := hH.out; omega), by (have hh := hH.out; have h5 := hfm'.out; omega), hS11.ext ((Ext.refl _).drew.drew), hT11.ext ((Ext.refl _).drew.drew), hX11.drew.drew⟩) | (simp [intOf]; omega)
        · have h8i : ¬ (k : Int) < (hl8.length : Int) := by omega
          obtain ⟨f', m', hff, hfm6, hT6⟩ : ∃ f' m', f ≤ f' ∧ f' + m' = f + (m + 1) ∧ SufD w5 D (b + 1) f' m' (gOf ix l) := ⟨f, m + 1, Nat.le_refl _, rfl, hT5⟩
          have hS6 := hS5
          have hX6 := hX5
          have hH := Lib.hid (And.intro hff hfm6)
          clear hff hfm6 hT5 hS5 hX5
          have hH2 := hH.out
          have hfm2 := hfm'.out
          have g1 : f' ≤ ix + (k + 1) := by omega
          have g2 : ix ≤ f' := by omega
          have g3 : f' ≤ f' + m' := by omega
          have d2 : ¬ (f' : Int) < (ix : Int) := by omega
          have hnn : ix + (k + 1) - f' = f' + m' - f' := by omega
          have hnn' := Lib.hid hnn
          clear hH2 hfm2 hnn
          go_wp2_with fail
          refine (suf_first hT6.suf).mono ?_
          rintro e w7 ⟨rfl, rfl⟩
          go_wp2_with fail
          refine (suf_from hS6.suf f' g2 g1).mono ?_
          rintro e w8 ⟨aL, L, rfl, hmL, hTL, _, hE8⟩
          have hT8 := hT6.ext hE8
          have hS8 := hS6.ext hE8
          have hX8 := hX6.trans (.of_ext hE8)
          have hmL' := Lib.hid hmL
          have hTL' := Lib.hid hTL
          clear hmL hTL
          go_wp2_with fail
          refine (suf_first hT8.suf).mono ?_
          rintro e w9 ⟨rfl, rfl⟩
          go_wp2_with fail
          refine (suf_from hT8.suf f' (Nat.le_refl _) g3).mono ?_
          rintro e w10 ⟨aM, M, rfl, hmM, hTM, _, hE10⟩
          have hT10 := hT8.ext hE10
          have hS10 := hS8.ext hE10
          have hX10 := hX8.trans (.of_ext hE10)
          have hmM' := Lib.hid hmM
          have hTM' := Lib.hid hTM
          clear hmM hTM
          go_wp2_with fail
          refine (sameItems_any w10 L M aL aM _ _ (by rw [hmL'.out, hmM'.out, hnn'.out]) (Told.ext hTL'.out hE10) hTM'.out (told_chs hl hmL'.out)).mono ?_
          rintro e w11 ⟨rfl, hE11⟩
          have hT11 := hT10.ext hE11
          have hS11 := hS10.ext hE11
          have hX11 := hX10.trans (.of_ext hE11)
          clear hT10 hS10 hX10 hT8 hS8 hX8 hT6 hS6 hX6
          go_wp2_with fail
          refine (suf_last hT11.suf).mono ?_
          rintro e w12 ⟨rfl, rfl⟩
          go_wp2_with fail
          refine (suf_last (hS11.ext (Ext.refl _).drew).suf).mono ?_
          rintro e w13 ⟨rfl, rfl⟩
          go_wp2_with fail
          refine (suf_first (hT11.ext ((Ext.refl _).drew.drew)).suf).mono ?_
          rintro e w14 ⟨rfl, rfl⟩
          go_wp2_with fail
          refine (suf_first (hS11.ext ((Ext.refl _).drew.drew)).suf).mono ?_
          rintro e w15 ⟨rfl, rfl⟩
          go_wp2_with fail
          all_goals first | (exfalso; have hh := hH.out; have h5 := hfm'.out; omega) | go_roundw
          all_goals first | (refine ⟨k + 1, f', m', by omega, by go_num, by (have hh := hH.out; omega), by (have hh := hH.out; have h5 := hfm'.out; omega), hS11.ext ((Ext.refl _).drew.drew), hT11.ext ((Ext.refl _).drew.drew), hX11.drew.drew⟩) | (simp [intOf]; omega)
      · obtain rfl : k = l.length := by omega
        go_wp2_with fail
        refine (lives_any wr).mono ?_
        rintro e w' ⟨rfl, hx⟩
        go_wp2
        go_ret
        exact ⟨rfl, (hE.trans (.of_ext hx)).ext hin⟩
  · go_enter Try.func5, Try.ntmps5
    by_cases hc1 : ix ≤ 1152921504606846976
    · have c1 : ¬ (1152921504606846976 : Int) < (ix : Int) := by omega
      have c2 : (200 : Int) < (l.length : Int) := by omega
      go_wp2_with fail
      refine (lives_any w).mono ?_
      rintro e w' ⟨rfl, hx⟩
      go_wp2
      go_ret
      exact ⟨rfl, hx⟩
    · have c1 : (1152921504606846976 : Int) < (ix : Int) := by omega
      go_wp2_with fail
      refine (lives_any w).mono ?_
      rintro e w' ⟨rfl, hx⟩
      go_wp2
      go_ret
      exact ⟨rfl, hx⟩
end Go.Proofs.Ytdkhcamckjidcaa
