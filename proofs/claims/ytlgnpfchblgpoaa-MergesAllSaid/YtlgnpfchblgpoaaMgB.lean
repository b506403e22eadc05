/- Helpers of the laws of bucketlinelaw12. No condition. -/
import Derived.Test.YtlgnpfchblgpoaaMgA
namespace Go.Proofs.Ytlgnpfchblgpoaa
open Go.RowKit
set_option maxRecDepth 100000
set_option maxHeartbeats 2000000
theorem lrises_any (w : World) (l : List En) (a : Option Addr) (cap : Nat) (hR : RowIs w 4 (.slice a l.length cap) l.length (l.flatMap enL)) : Calls Try.prog 12 #[.slice a l.length cap] w fun e w' => e = .returned (.bool (risesB l)) ∧ Ext w w' := by
  have hnn := hR.2.1
  obtain ⟨n, hn⟩ : ∃ n, n = l.length := ⟨_, rfl⟩
  rw [← hn] at hR hnn ⊢
  have hn' := Lib.hid hn
  obtain ⟨r, hr⟩ : ∃ r, r = risesB l := ⟨_, rfl⟩
  rw [← hr]
  have hr' := Lib.hid hr
  clear hn hr
  go_enter Try.func12, Try.ntmps12
  go_wp2_with fail
  go_loopw [3] (fun i wr => ∃ k : Nat, 1 ≤ k ∧ k ≤ n + 1 ∧ i = .int .i64 k ∧ Hid (∀ (j : Nat) (x y : En), j + 1 < k → l[j]? = some x → l[j + 1]? = some y → x.mark.ltB y.mark = true) ∧ Ext w wr) (fun i _ => n + 1 - (intOf i).toNat)
  case atStart => exact ⟨1, by omega, by omega, rfl, Lib.hid (fun j x y h => by omega), Ext.refl _⟩
  case round =>
    obtain ⟨k, hk1, hk, rfl, hadj, hE⟩ := hrel
    by_cases hlt : k < n
    · have hli : (k : Int) < (n : Int) := by omega
      obtain ⟨m, hm⟩ : ∃ m, k = m + 1 := ⟨k - 1, by omega⟩
      obtain ⟨x, hx⟩ : ∃ c, l[m]? = some c := ⟨_, List.getElem?_eq_getElem (by rw [← hn'.out]; omega)⟩
      obtain ⟨y, hy⟩ : ∃ c, l[k]? = some c := ⟨_, List.getElem?_eq_getElem (by rw [← hn'.out]; exact hlt)⟩
      obtain ⟨b, off, hat⟩ := (hR.ext hE).at
      obtain ⟨rfl, _, hd⟩ := hat (by omega)
      have p := mark_range (ens_range (by rw [← hn'.out]; exact hd) hx)
      have q := mark_range (ens_range (by rw [← hn'.out]; exact hd) hy)
      have hw1 : IntKind.i64.wrap ((k : Int) - 1) = (m : Int) := by rw [IntKind.wrap_i64]; omega
      have hm1 : (m : Int) < (n : Int) := by omega
      have hm0 : 0 ≤ (m : Int) := by omega
      have hadj' := Lib.hid hadj
      have hxy := Lib.hid (And.intro hx (And.intro hy hm))
      clear hat hd hx hy hadj hm
      go_upto_region 4 with fail
      refine bqRegion (Ext wr) (by kernel_rfl) (by kernel_rfl) (Ext.refl _).drew ?_
      iterate 5 (refine bqStep (fun K hK => ?_); go_simp; first | (refine hK _ ?_; clear hK K) | (refine ⟨_, fun _ _ => rfl, hK _ ?_⟩; clear hK K))
      refine bqMid (by rfl) 29 _ (by rfl) b (off + m * 4) (by rfl) _ _ (fun w' h r u hu => h.cell (p r u hu)) Try.underlying29 rfl (by exact info_mark) ?_
      simp only [Act.put, List.setIfInBounds_toArray, List.set_cons_zero, List.set_cons_succ]
      iterate 4 (refine bqStep (fun K hK => ?_); go_simp; first | (refine hK _ ?_; clear hK K) | (refine ⟨_, fun _ _ => rfl, hK _ ?_⟩; clear hK K))
      refine bqMid (by rfl) 29 _ (by rfl) b (off + k * 4) (by rfl) _ _ (fun w' h r u hu => h.cell (q r u hu)) Try.underlying29 rfl (by exact info_mark) ?_
      simp only [Act.put, List.setIfInBounds_toArray, List.set_cons_zero, List.set_cons_succ, mkRow]
      refine bqStep (fun K hK => ?_)
      go_simp
      refine ⟨_, fun w' hw => calls_ext hw (cmp_any w' x.mark y.mark), hK _ ?_⟩
      clear hK K
      iterate 1 (refine bqStep (fun K hK => ?_); go_simp; first | (refine hK _ ?_; clear hK K) | (refine ⟨_, fun _ _ => rfl, hK _ ?_⟩; clear hK K))
      refine bqNil (fun w5 hE5 => ?_)
      have hE6 := hE.trans hE5
      clear p q
      cases hlt2 : x.mark.ltB y.mark with
      | true =>
        have hc : ¬ 0 ≤ cmpM x.mark y.mark := by rw [cmpM_ge, hlt2]; decide
        have hd0 : decide (0 ≤ cmpM x.mark y.mark) = false := decide_eq_false hc
        have hl2 := Lib.hid hlt2
        clear hlt2
        go_wp2_with fail
        go_roundw
        case rel => exact ⟨k + 1, by omega, by omega, by go_num, Lib.hid (fun j a c hj ha hc2 => by
          by_cases hjm : j + 1 < k
          · exact hadj'.out j a c hjm ha hc2
          · obtain ⟨e1, e2, e3⟩ := hxy.out
            have : j = m := by omega
            subst this
            rw [e1] at ha
            rw [← e3, e2] at hc2
            injection ha with ha
            injection hc2 with hc2
            rw [← ha, ← hc2]
            exact hl2.out), hE6⟩
        case measure => simp [intOf]; omega
      | false =>
        have hc : 0 ≤ cmpM x.mark y.mark := by rw [cmpM_ge, hlt2]
        have hd0 : decide (0 ≤ cmpM x.mark y.mark) = true := decide_eq_true hc
        have hrf : Hid (r = false) := Lib.hid (by
          rw [hr'.out]
          obtain ⟨e1, e2, e3⟩ := hxy.out
          rw [e3] at e2
          exact risesB_not e1 e2 hlt2)
        clear hlt2
        go_wp2_with fail
        go_ret
        exact ⟨by rw [hrf.out]; rfl, hE6⟩
    · have hli : ¬ (k : Int) < (n : Int) := by omega
      have hrt : Hid (r = true) := Lib.hid (by
        rw [hr'.out]
        refine risesB_adj l fun j x y hx hy => hadj.out j x y ?_ hx hy
        have := (List.getElem?_eq_some_iff.1 hy).1
        rw [← hn'.out] at this
        omega)
      go_wp2_with fail
      go_ret
      exact ⟨by rw [hrt.out]; rfl, hE⟩
def eszAux : Nat → List En → Nat
  | n, [] => n
  | n, x :: r => if n ≤ 1048576 then eszAux (n + x.mark.key.size + x.val.size) r else n
def manyB (l : List En) : Bool := decide (150 < l.length) || decide (20000 < eszAux l.length l)
set_option maxRecDepth 100000 in
set_option maxHeartbeats 1000000 in
theorem esize_any (w : World) (l : List En) (a : Option Addr) (cap : Nat) (hg : ∀ x ∈ l, x.small) (hl : l.length ≤ 140737488351232) (h1 : RowIs w 4 (.slice a l.length cap) l.length (l.flatMap enL)) :
    Calls Try.prog 21 #[.slice a l.length cap] w fun e w' => e = .returned (.int .i64 (eszAux l.length l : Nat)) ∧ Ext w w' := by
  obtain ⟨S, hS⟩ : ∃ S, S = eszAux l.length l := ⟨_, rfl⟩
  rw [← hS]
  have hS' := Lib.hid hS
  clear hS
  go_enter Try.func21, Try.ntmps21
  go_wp2_with fail
  go_loopw [3, 4] (fun n i wr => ∃ k N : Nat, k ≤ l.length ∧ n = .int .i64 (N : Int) ∧ i = .int .i64 k ∧ S = eszAux N (l.drop k) ∧ N ≤ 500000000000000 ∧ Ext w wr) (fun _ i _ => l.length - (intOf i).toNat)
  case atStart => exact ⟨0, l.length, by omega, rfl, rfl, hS'.out, by omega, Ext.refl _⟩
  case round =>
    obtain ⟨k, N, hk, rfl, rfl, hs, hN, hE⟩ := hrel
    have hs' := Lib.hid hs
    clear hs
    by_cases hlt : k < l.length
    · have hli : (k : Int) < (l.length : Int) := by omega
      obtain ⟨c, hc⟩ : ∃ c, l[k]? = some c := ⟨_, List.getElem?_eq_getElem hlt⟩
      obtain ⟨g1, g2⟩ := hg c (List.mem_of_getElem? hc)
      have hdr : l.drop k = c :: l.drop (k + 1) := by
        rw [List.drop_eq_getElem_cons hlt]
        have := List.getElem?_eq_getElem hlt
        rw [hc] at this
        injection this with this
        rw [← this]
      have hdr' := Lib.hid hdr
      clear hdr
      by_cases hsm : N ≤ 1048576
      · have hsi : (N : Int) ≤ 1048576 := by omega
        obtain ⟨b, off, hat⟩ := (h1.ext hE).at
        obtain ⟨rfl, _, hd⟩ := hat (by omega)
        have p := ens_range hd hc
        have p0 := p 0 _ rfl
        have p3 := p 3 _ rfl
        rw [Nat.add_zero] at p0
        clear hd hat p hc
        have e1 : IntKind.i64.wrap ((N : Int) + (c.mark.key.size : Int)) = (N : Int) + (c.mark.key.size : Int) := by rw [IntKind.wrap_i64]; omega
        have e2 : IntKind.i64.wrap ((N : Int) + (c.mark.key.size : Int) + (c.val.size : Int)) = (N : Int) + (c.mark.key.size : Int) + (c.val.size : Int) := by rw [IntKind.wrap_i64]; omega
        go_wp2_with fail
        go_still (by kernel_rfl)
        change Exit.inBlock _ _ _ _ wr.drew
        go_wp2_with fail
        go_roundw
        case rel => exact ⟨k + 1, N + c.mark.key.size + c.val.size, by omega, by go_num, by go_num, by rw [hs'.out, hdr'.out]; simp [eszAux, hsm], by omega, hE.drew⟩
        case measure => simp [intOf]; omega
      · have hsi : ¬ (N : Int) ≤ 1048576 := by omega
        go_wp2_with fail
        go_ret
        exact ⟨by rw [hs'.out, hdr'.out]; simp [eszAux, hsm], hE⟩
    · have hli : ¬ (k : Int) < (l.length : Int) := by omega
      go_wp2_with fail
      go_ret
      exact ⟨by rw [hs'.out, List.drop_eq_nil_of_le (by omega)]; rfl, hE⟩
theorem many_any (w : World) (l : List En) (a : Option Addr) (cap : Nat) (hg : ∀ x ∈ l, x.small) (hl : l.length ≤ 140737488351232) (h1 : RowIs w 4 (.slice a l.length cap) l.length (l.flatMap enL)) :
    Calls Try.prog 11 #[.slice a l.length cap] w fun e w' => e = .returned (.bool (manyB l)) ∧ Ext w w' := by
  by_cases hb : 150 < l.length
  · have hbi : (150 : Int) < (l.length : Int) := by omega
    have hm : manyB l = true := by unfold manyB; simp [hb]
    rw [hm]
    clear hm
    go_enter Try.func11, Try.ntmps11
    go_wp2_with fail
    go_ret
    exact ⟨rfl, Ext.refl _⟩
  · have hbi : ¬ (150 : Int) < (l.length : Int) := by omega
    obtain ⟨S, hS⟩ : ∃ S, S = eszAux l.length l := ⟨_, rfl⟩
    have hc := esize_any w l a cap hg hl h1
    have hm : manyB l = decide (20000 < S) := by unfold manyB; rw [hS]; simp [hb]
    rw [hm]
    rw [← hS] at hc
    clear hm hS
    by_cases hbs : 20000 < S
    · have hbs' : (20000 : Int) < (S : Int) := by omega
      rw [decide_eq_true hbs]
      go_enter Try.func11, Try.ntmps11
      go_wp2_with fail
      refine hc.mono ?_
      rintro e w' ⟨rfl, hx⟩
      go_wp2_with fail
      go_ret
      exact ⟨rfl, hx⟩
    · have hbs' : ¬ (20000 : Int) < (S : Int) := by omega
      rw [decide_eq_false hbs]
      go_enter Try.func11, Try.ntmps11
      go_wp2_with fail
      refine hc.mono ?_
      rintro e w' ⟨rfl, hx⟩
      go_wp2_with fail
      go_ret
      exact ⟨by show Ending.returned (.bool (decide ((20000 : Int) < (S : Int)))) = _; rw [decide_eq_false (by omega)], hx⟩
theorem en_cells {w : World} {b : Nat} {x : En} (h : w.heap[b]? = some (.cells (enRow x) 31 (0, 0))) : w.cell? ⟨b, 0, none⟩ = some (.string x.mark.key) ∧ w.cell? ⟨b, 1, none⟩ = some (.int .u64 (x.mark.seq : Int)) ∧ w.cell? ⟨b, 2, none⟩ = some (.bool x.mark.gone) ∧ w.cell? ⟨b, 3, none⟩ = some (.string x.val) := by
  refine ⟨?_, ?_, ?_, ?_⟩ <;> (rw [cell_of_row _ _ _ _ 31 (0, 0) h]; rfl)
/-- What 'entry' makes. -/
def mkEn (k : ByteArray) (s : Nat) (v : ByteArray) : En := ⟨⟨k, s, v.toList.isEmpty⟩, v⟩
set_option maxHeartbeats 1000000 in
theorem entry_any (w : World) (k : ByteArray) (s : Nat) (v : ByteArray) : Calls Try.prog 19 #[.string k, .int .u64 (s : Int), .string v] w fun e w' => e = .returned (.agg (enRow (mkEn k s v))) ∧ Ext w w' := by
  unfold mkEn
  cases h4 : v.toList.isEmpty
  all_goals
    go_enter Try.func19, Try.ntmps19
    go_wp2_with fail
    have hE : Ext w (w.alloc (.cells (enRow ⟨⟨k, s, v.toList.isEmpty⟩, v⟩) 31)) := (Ext.refl _).alloc _
    have hset := heap_alloc_new w (.cells (enRow ⟨⟨k, s, v.toList.isEmpty⟩, v⟩) 31)
    obtain ⟨b0, b1, b2, b3⟩ := en_cells hset
    rw [h4] at hE b0 b1 b2 b3
    simp only [enRow] at hE b0 b1 b2 b3
    generalize w.alloc _ = W at *
    exact bodyPost_ret (v := .agg (enRow ⟨⟨k, s, _⟩, v⟩)) (by simp [results, Try.results19, go_sem, b0, b1, b2, b3, enRow]) rfl ⟨rfl, hE⟩
/-- What 'left' tells. -/
def LeftE (w : World) (L : List En) (looks : List Nat) (last : Bool) (e : Ending) (w' : World) : Prop := Ext w w' ∧ (risesB L = true → ∃ a cap, e = .returned (.slice a (thinL L looks last).length cap) ∧ OwnC w' w.heap.size 31 4 (.slice a (thinL L looks last).length cap) (thinL L looks last).length ((thinL L looks last).flatMap enL))
theorem left_any (w : World) (L : List En) (looks : List Nat) (last : Bool) (la ka : Option Addr) (lc kc : Nat) (hR : SlIs w (.slice la L.length lc) L) (hK : RowIs w 1 (.slice ka looks.length kc) looks.length (nuL looks)) (hn : L.length ≤ 1000000) (hk : looks.length ≤ 1000000) (hsq : ∀ e ∈ L, e.mark.seq ≤ 18446744073709551615) (hri : risesB L = true) : Calls Try.prog 20 #[.slice la L.length lc, .bool last, .slice ka looks.length kc] w (LeftE w L looks last) := by
  have ht := thin_any w L looks last la ka lc kc hR hK hn hk hsq
  obtain ⟨n, hnn⟩ : ∃ n, n = L.length := ⟨_, rfl⟩
  obtain ⟨kn, hkn⟩ : ∃ n, n = looks.length := ⟨_, rfl⟩
  rw [← hnn, ← hkn] at ht ⊢
  have ht' := Lib.hid ht
  have hri' := Lib.hid hri
  clear ht hnn hkn hR hK hsq hri
  go_enter Try.func20, Try.ntmps20
  go_wp2_with fail
  refine ht'.out.mono ?_
  rintro e w' ⟨hE, _, h2⟩
  obtain ⟨a, cap, rfl, hown⟩ := h2 hri'.out
  obtain ⟨T, hT⟩ : ∃ T, T = (thinL L looks last).length := ⟨_, rfl⟩
  rw [← hT] at hown ⊢
  have hown' := Lib.hid hown
  have hT' := Lib.hid hT
  clear hown hT h2
  go_wp2_with fail
  go_ret
  refine ⟨hE, fun _ => ⟨a, cap, by rw [← hT'.out]; rfl, by rw [← hT'.out]; exact hown'.out⟩⟩
end Go.Proofs.Ytlgnpfchblgpoaa
