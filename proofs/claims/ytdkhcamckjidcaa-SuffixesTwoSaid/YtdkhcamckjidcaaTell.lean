import Derived.Test.YtdkhcamckjidcaaItems
import Derived.Test.YtdkhcamckjidcaaSuf7
import Derived.Test.YtdkhcamckjidcaaKit6
import Derived.Deep.CutRange
namespace Go.Proofs.Ytdkhcamckjidcaa
open Go.RowKit
/-- The item that stands at index j, when l was added from ix on. -/
def gOf (ix : Nat) (l : List (It × Option Addr × Nat)) (j : Nat) : It := match l[j - ix - 1]? with
  | some p => { p.1 with idx := j }
  | none => zIt j
theorem gOf_at {ix : Nat} {l : List (It × Option Addr × Nat)} {k : Nat} {p : It × Option Addr × Nat} (h : l[k]? = some p) : gOf ix l (ix + k + 1) = { p.1 with idx := ix + k + 1 } := by
  unfold gOf
  rw [show ix + k + 1 - ix - 1 = k by omega, h]
theorem row_idx (x : It) (v : Value) (t : Nat) : (x.row v).setIfInBounds 0 (.int .u64 (t : Int)) = { x with idx := t }.row v := rfl
theorem idx_block {W : World} {g : Nat} {x : It} {v : Value} (h : W.heap[g]? = some (.cells (x.row v) 34 (0, 0))) (t : Nat) : (W.setCell ⟨g, 0, none⟩ (.int .u64 (t : Int))).heap[g]? = some (.cells ({ x with idx := t }.row v) 34 (0, 0)) := by
  rw [setCell_eq_setRow _ _ _ _ _ _ _ h, setRow_heap _ _ _ _ _ _ h, row_idx]
theorem idx_range {W : World} {g : Nat} {x : It} {v : Value} (h : W.heap[g]? = some (.cells (x.row v) 34 (0, 0))) (t : Nat) : (W.setCell ⟨g, 0, none⟩ (.int .u64 (t : Int))).rangeAt g 0 ({ x with idx := t }.row v).toList := fun r u hu => by
  rw [Nat.zero_add, cell_of_row _ _ r _ 34 (0, 0) (idx_block h t), ← hu]; simp
set_option maxRecDepth 100000 in
set_option maxHeartbeats 2000000 in
theorem suffixesTell_walk (w : World) (s : Int) (o0 : ∃ n, OKC Try.prog w n 22 [.int .u64 s]) (v : Value) (o1 : ∃ n, OKC Try.prog w n 23 [v]) (hh : Int) (o2 : ∃ n, OKC Try.prog w n 24 [.int .u16 hh]) :
    Calls Try.prog 3 #[.int .u64 s, v, .int .u16 hh] w fun e w' => e = .returned (.bool true) ∧ Ext w w' := by
  obtain ⟨ix, rfl, hix⟩ := okc_nat (top := 18446744073709551616) Try.underlying22 (fun _ h => wf_u64 h) o0
  obtain ⟨l, a, cap, rfl, hl, hR⟩ := okc_items o1
  obtain ⟨hd, rfl, hhd⟩ := okc_nat (top := 65536) Try.underlying24 (fun _ h => wf_u16 h) o2
  clear o0 o1 o2
  by_cases hbig : ix ≤ 1152921504606846976 ∧ l.length ≤ 600
  · obtain ⟨hb1, hb2⟩ := hbig
    have c1 : ¬ (1152921504606846976 : Int) < (ix : Int) := by omega
    have c2 : ¬ (600 : Int) < (l.length : Int) := by omega
    go_enter Try.func3, Try.ntmps3
    go_wp2_with fail
    refine (new_any ix w).mono ?_
    rintro e w0 ⟨rfl, hw0⟩
    have hS0 : SufOf w0 w.heap.size ix 0 (gOf ix l) := by rw [hw0]; exact SufOf.new w ix (by omega) _
    have hE0 : OffB (fun k => k = w.heap.size) w w0 := by rw [hw0]; exact .of_ext ((Ext.refl _).alloc _)
    obtain ⟨b, hb⟩ : ∃ b, b = w.heap.size := ⟨_, rfl⟩
    rw [← hb] at hS0 hE0 ⊢
    have hb' := Lib.hid hb
    clear hw0 hb c1 c2
    go_wp2
    go_loopw [8, 9] (fun n i wr => ∃ k m : Nat, k ≤ l.length ∧ i = .int .i64 k ∧ n = .int .i64 m ∧ m = min k 256 ∧ SufOf wr b ix m (gOf ix l) ∧ OffB (fun k => k = b) w wr) (fun _ i _ => l.length - (intOf i).toNat)
    case atStart => exact ⟨0, 0, by omega, rfl, rfl, by omega, hS0, hE0⟩
    case round =>
      obtain ⟨k, m, hk, rfl, rfl, hm, hS, hE⟩ := hrel
      have hR2 := hR.ext (hE.ext (fun k hk hkb => by have := hb'.out; omega))
      by_cases hlt : k < l.length
      · have hli : (k : Int) < (l.length : Int) := by omega
        obtain ⟨p, hp⟩ : ∃ p, l[k]? = some p := ⟨_, List.getElem?_eq_getElem hlt⟩
        obtain ⟨lb, off, hat⟩ := hR2.at
        obtain ⟨rfl, _, hcell⟩ := hat (by omega)
        have hrg : wr.rangeAt lb (off + k * 11) (p.1.row (.slice p.2.1 p.1.chs.length p.2.2)).toList := fun r v hv => by
          have hr : r < 11 := (List.getElem?_eq_some_iff.1 hv).1
          rw [Nat.add_assoc, hcell (k * 11 + r) (by omega), inRow_at l k p hp r hr]; exact hv
        obtain ⟨hpR, hpn⟩ := hl p (List.mem_of_getElem? hp)
        have hpR2 := hpR.ext (hE.ext (fun k hk hkb => by have := hb'.out; omega))
        obtain ⟨x, pa, pc⟩ := p
        simp only at hrg hpR hpn hpR2
        clear hcell hat
        obtain ⟨t, ht⟩ : ∃ t, t = ix + m + 1 := ⟨_, rfl⟩
        have e1 : IntKind.u64.wrap ((ix : Int) + (m : Int) + 1) = (t : Int) := by rw [IntWalk.u64_in _ (by omega)]; omega
        have e0 : IntKind.u64.wrap (m : Int) = (m : Int) := by rw [IntWalk.u64_in _ (by omega)]
        have e2 : IntKind.u64.wrap ((ix : Int) + (m : Int)) = (ix : Int) + (m : Int) := by rw [IntWalk.u64_in _ (by omega)]
        have ht' := Lib.hid ht
        have hm' := Lib.hid hm
        clear ht hm
        go_wp2_with (first | (refine wpList_load_mid (by rfl) 34 (.tmp 36) (by rfl) lb (off + k * 11) (by rfl) (x.row (.slice pa x.chs.length pc)).toList _ hrg Try.underlying34 rfl (by rw [row34]; exact info34) ?_) | (refine wpList_store_it (by rfl) (.tmp 10) (.tmp 37) (by rfl) wr x pa x.chs.length pc (by rfl) (by rfl) ?_; go_loud (obtain ⟨W2, hW2⟩ : ∃ W2, W2 = wr.alloc (.cells (x.row (.slice pa x.chs.length pc)) 34) := ⟨_, rfl⟩; have hb2 : W2.heap[wr.heap.size]? = some (.cells (x.row (.slice pa x.chs.length pc)) 34 (0, 0)) := (congrArg (fun z => z.heap[wr.heap.size]?) hW2).trans (heap_alloc_new _ _); have k0 := (row_cells hb2).1; have fz : W2.frozen? ⟨wr.heap.size, 0, none⟩ = false := (by unfold World.frozen?; rw [hb2]; simp); have hE2 : Ext wr W2 := hW2 ▸ (Ext.refl _).alloc _; rw [← hW2]; clear hW2; have hrg3 := idx_range hb2 t)) | (refine wpList_load_mid (by rfl) 34 (.tmp 10) (by rfl) wr.heap.size 0 (by rfl) ({ x with idx := t }.row (.slice pa x.chs.length pc)).toList _ hrg3 Try.underlying34 rfl (by rw [row34]; exact info34) ?_) | fail)
        have hS3 : SufOf (W2.setCell ⟨wr.heap.size, 0, none⟩ (.int .u64 (t : Int))) b ix m (gOf ix l) := hS.ext (hE2.setCell (Nat.le_refl _) _)
        have hE3 : Ext wr (W2.setCell ⟨wr.heap.size, 0, none⟩ (.int .u64 (t : Int))) := hE2.setCell (Nat.le_refl _) _
        generalize W2.setCell ⟨wr.heap.size, 0, none⟩ (.int .u64 (t : Int)) = W3 at *
        have ht2 := ht'.out
        have hm2 := hm'.out
        clear hrg k0 fz hb2 hrg3
        by_cases hk256 : k < 256
        · have hmk : m = k := by omega
          have hg : gOf ix l (ix + m + 1) = { x with idx := t } := by rw [ht2, hmk]; exact gOf_at hp
          have hm3 : m < 256 := by omega
          have hft : ix + m + 1 < 18446744073709551616 - 1 := by omega
          have d1 : (6 : Int) ≤ 6 := by omega
          have d2 : ¬ (256 : Int) ≤ (m : Int) := by omega
          clear ht2 hm2 hmk
          refine (suf_add hS3 hm3 hft { x with idx := t } ht'.out hg pa pc (hpR2.ext hE3) hpn).mono ?_
          rintro e w4 ⟨rfl, hS4, hE4⟩
          go_wp2_with fail
          go_roundw
          case rel =>
            have := hm'.out
            exact ⟨k + 1, m + 1, by omega, by go_num, by go_num, by omega, hS4, (hE.trans (.of_ext hE3)).trans hE4⟩
          case measure => simp [intOf]; omega
        · have hm3 : m = 256 := by omega
          have d2 : (256 : Int) ≤ (m : Int) := by omega
          clear ht2 hm2
          refine (suf_add_full hS3 hm3 { x with idx := t } _ ht'.out).mono ?_
          clear hm3
          rintro e w4 ⟨rfl, hS4, hE4⟩
          go_wp2_with fail
          go_roundw
          case rel =>
            have := hm'.out
            exact ⟨k + 1, m, by omega, by go_num, rfl, by omega, hS4, (hE.trans (.of_ext hE3)).trans (.of_ext hE4)⟩
          case measure => simp [intOf]; omega
      · obtain rfl : k = l.length := by omega
        obtain ⟨z, hz⟩ : ∃ z, z = ix + hd % (m + 1) := ⟨_, rfl⟩
        have hr : hd % (m + 1) ≤ m := by have := Nat.mod_lt hd (show 0 < m + 1 by omega); omega
        have hm256 : m ≤ 256 := by omega
        have hml : m ≤ l.length := by omega
        have hz1 : ix ≤ z := by omega
        have hz2 : z ≤ ix + m := by omega
        have hm' := Lib.hid hm
        clear hm
        go_upto_if 66 with fail
        go_cut [12] from 67 to 74 (fun s wx => s = .int .u64 (z : Int) ∧ wx = wr)
        case first =>
          by_cases h0 : m = 0
          · subst h0
            go_wp2_with fail
            go_meet
            exact ⟨by rw [hz]; simp, rfl⟩
          · have h1 : (0 : Int) < (m : Int) := by omega
            have e0 : IntKind.u64.wrap (hd : Int) = (hd : Int) := by rw [IntWalk.u64_in _ (by omega)]
            have e1 : IntKind.u64.wrap ((m : Int) + 1) = (m : Int) + 1 := by rw [IntWalk.u64_in _ (by omega)]
            have e4 : IntKind.u64.wrap ((ix : Int) + (hd : Int) % ((m : Int) + 1)) = (z : Int) := by
              have e5 : (hd : Int) % ((m : Int) + 1) = ((hd % (m + 1) : Nat) : Int) := by simp
              rw [e5, IntWalk.u64_in _ (by omega)]; omega
            have hz' := Lib.hid hz
            clear hz
            go_wp2_with fail
            go_meet
            exact ⟨rfl, rfl⟩
        case rest =>
        obtain ⟨rfl, rfl⟩ := hcut
        clear hz hr
        have hEw := hE
        have e0 : IntKind.u64.wrap (m : Int) = (m : Int) := by rw [IntWalk.u64_in _ (by omega)]
        obtain ⟨y, hy⟩ : ∃ y, y = ix + m := ⟨_, rfl⟩
        have e2 : IntKind.u64.wrap ((ix : Int) + (m : Int)) = (y : Int) := by rw [IntWalk.u64_in _ (by omega)]; omega
        have hy2 : z ≤ y := by omega
        have hyb : y ≤ 1152921504606847300 := by omega
        obtain ⟨M, hM⟩ : ∃ M, M = y - z := ⟨_, rfl⟩
        have e3 : (z : Int) + (M : Int) = (y : Int) := by omega
        have hyM : Hid (y = ix + m ∧ M = y - z) := Lib.hid ⟨hy, hM⟩
        clear hM hy
        go_wp2_with fail
        refine (suf_heard hS z hz2).mono ?_
        rintro e w5 ⟨rfl, hS5, hE5⟩
        rw [show max ix z = z by omega, show ix + m - z = M by have := hyM.out; omega] at hS5
        have hX5 := hE.trans hE5
        clear hS hE
        go_wp2_with fail
        refine (suf_first hS5).mono ?_
        rintro e w6 ⟨rfl, rfl⟩
        go_wp2_with fail
        refine (suf_last hS5).mono ?_
        rintro e w7 ⟨rfl, rfl⟩
        go_wp2_with fail
        go_loopw [13] (fun f wr => ∃ q : Nat, z ≤ q ∧ q ≤ y + 1 ∧ f = .int .u64 q ∧ SufOf wr b z M (gOf ix l) ∧ OffB (fun k => k = b) w wr) (fun f _ => y + 1 - (intOf f).toNat)
        case atStart => exact ⟨z, by omega, by omega, rfl, hS5.ext (Ext.refl _).drew, hX5.drew⟩
        case round =>
          obtain ⟨q, hq1, hq2, rfl, hS, hE⟩ := hrel
          by_cases hqy : q ≤ y
          · have hqi : (q : Int) ≤ (y : Int) := by omega
            have hqM : q ≤ z + M := by have := hyM.out; omega
            go_wp2_with fail
            refine (suf_from hS q hq1 hqM).mono ?_
            rintro e w8 ⟨a8, L, rfl, hmap, hT, hS8, hE8⟩
            have hLn : L.length = y - q := by have h1 := congrArg List.length hmap; have h2 := hyM.out; simp at h1; omega
            obtain ⟨N, hN⟩ : ∃ N, N = L.length := ⟨_, rfl⟩
            have hT' := Lib.hid hT
            rw [← hN] at hLn ⊢
            have e4 : IntKind.u64.wrap ((y : Int) - (q : Int)) = (N : Int) := by rw [IntWalk.u64_in _ (by omega)]; omega
            have e5 : IntKind.u64.wrap (N : Int) = (N : Int) := by rw [IntWalk.u64_in _ (by omega)]
            have hLn' := Lib.hid hLn
            have hN' := Lib.hid hN
            have hmap' := Lib.hid hmap
            have hX8 := hE.trans (.of_ext hE8)
            have hN9 : N ≤ 9223372036854775807 := by omega
            clear hLn hN hmap hT hE
            go_wp2_with fail
            obtain ⟨wo, rfl⟩ : ∃ wo : World, wo = w8 := ⟨_, rfl⟩
            go_loopw [16] (fun f wr2 => ∃ i : Nat, i ≤ N ∧ f = .int .i64 i ∧ Ext wo wr2) (fun f _ => N - (intOf f).toNat)
            case atStart => exact ⟨0, by omega, rfl, Ext.refl _⟩
            case round =>
              rename_i wr1 _ _ _ _ _
              obtain ⟨i, hi, rfl, hE9⟩ := hrel
              by_cases hi2 : i < N ∧ i < 2
              · obtain ⟨hi3, hi4⟩ := hi2
                have hii : (i : Int) < (N : Int) := by omega
                have hij : (i : Int) < 2 := by omega
                have hLn := hLn'.out
                have hN := hN'.out
                obtain ⟨hym, hMz⟩ := hyM.out
                obtain ⟨d, hd2⟩ : ∃ d, d = q - ix := ⟨_, rfl⟩
                obtain ⟨j, hj⟩ : ∃ j, j = q - ix + i := ⟨_, rfl⟩
                obtain ⟨t, ht⟩ : ∃ t, t = q + i + 1 := ⟨_, rfl⟩
                have f1 : IntKind.u64.wrap ((q : Int) - (ix : Int)) = (d : Int) := by rw [IntWalk.u64_in _ (by omega)]; omega
                have f2 : IntKind.u64.wrap (i : Int) = (i : Int) := by rw [IntWalk.u64_in _ (by omega)]
                have f3 : IntKind.u64.wrap ((d : Int) + (i : Int)) = (j : Int) := by rw [IntWalk.u64_in _ (by omega)]; omega
                have f4 : IntKind.u64.wrap ((q : Int) + (i : Int)) = (q : Int) + (i : Int) := by rw [IntWalk.u64_in _ (by omega)]
                have f5 : IntKind.u64.wrap ((q : Int) + (i : Int) + 1) = (t : Int) := by rw [IntWalk.u64_in _ (by omega)]; omega
                have hjl : j < l.length := by omega
                have hjl2 : (j : Int) < (l.length : Int) := by omega
                have hX9 := hX8.trans (.of_ext hE9)
                have hR9 := hR.ext (hX9.ext (fun k hk hkb => by have := hb'.out; omega))
                obtain ⟨p, hp⟩ : ∃ p, l[j]? = some p := ⟨_, List.getElem?_eq_getElem hjl⟩
                obtain ⟨lb, off, hat⟩ := hR9.at
                obtain ⟨rfl, _, hcell⟩ := hat (by omega)
                have hrg : wr.rangeAt lb (off + j * 11) (p.1.row (.slice p.2.1 p.1.chs.length p.2.2)).toList := fun r v hv => by
                  have hr : r < 11 := (List.getElem?_eq_some_iff.1 hv).1
                  rw [Nat.add_assoc, hcell (j * 11 + r) (by omega), inRow_at l j p hp r hr]; exact hv
                obtain ⟨hpR, hpn⟩ := hl p (List.mem_of_getElem? hp)
                have hpR9 := hpR.ext (hX9.ext (fun k hk hkb => by have := hb'.out; omega))
                have hg : gOf ix l t = { p.1 with idx := t } := by
                  have := gOf_at (ix := ix) hp
                  rw [show ix + j + 1 = t by omega] at this; exact this
                obtain ⟨hTr, _, hTp⟩ := hT'.out
                obtain ⟨u, hu⟩ : ∃ u, L[i]? = some u := ⟨_, List.getElem?_eq_getElem (by omega)⟩
                have hu1 : u.1 = { p.1 with idx := t } := by
                  have h1 := congrArg (·[i]?) hmap'.out
                  simp only [List.getElem?_map, hu, Option.map_some] at h1
                  rw [List.getElem?_range (by omega)] at h1
                  simp only [Option.map_some, Option.some.injEq] at h1
                  rw [h1, ← hg, ht]
                obtain ⟨x, pa, pc⟩ := p
                obtain ⟨ux, ua, uc⟩ := u
                simp only at hrg hpR hpn hpR9 hu1
                subst hu1
                have hTr9 := hTr.ext hE9
                rw [← hN] at hTr9
                obtain ⟨mb, moff, hatm⟩ := hTr9.at
                obtain ⟨rfl, _, hcm⟩ := hatm (by omega)
                have hrm : wr.rangeAt mb (moff + i * 11) ({ x with idx := t }.row (.slice ua x.chs.length x.chs.length)).toList := fun r v hv => by
                  have hr : r < 11 := (List.getElem?_eq_some_iff.1 hv).1
                  rw [Nat.add_assoc, hcm (i * 11 + r) (by omega), flatMap_at outRow 11 (by decide) (fun _ => rfl) L i _ hu r hr _ rfl]; exact hv
                have hur : RowIs wr 3 (.slice ua x.chs.length x.chs.length) x.chs.length (x.chs.flatMap Ch.cells) := (hTp _ (List.mem_of_getElem? hu)).1.ext hE9
                clear hTp hTr hTr9 hcm hatm hcell hat hu hp hg hpR ht hj hd2 hLn hN hym hMz
                go_wp2_with (first | (refine wpList_load_mid (by rfl) 34 (.tmp 140) (by rfl) lb (off + j * 11) (by rfl) (x.row (.slice pa x.chs.length pc)).toList _ hrg Try.underlying34 rfl (by rw [row34]; exact info34) ?_) | (refine wpList_store_it (by rfl) (.tmp 17) (.tmp 141) (by rfl) wr x pa x.chs.length pc (by rfl) (by rfl) ?_; go_loud (obtain ⟨W2, hW2⟩ : ∃ W2, W2 = wr.alloc (.cells (x.row (.slice pa x.chs.length pc)) 34) := ⟨_, rfl⟩; have hb2 : W2.heap[wr.heap.size]? = some (.cells (x.row (.slice pa x.chs.length pc)) 34 (0, 0)) := (congrArg (fun z => z.heap[wr.heap.size]?) hW2).trans (heap_alloc_new _ _); have k0 := (row_cells hb2).1; have fz : W2.frozen? ⟨wr.heap.size, 0, none⟩ = false := (by unfold World.frozen?; rw [hb2]; simp); have hE2 : Ext wr W2 := hW2 ▸ (Ext.refl _).alloc _; rw [← hW2]; clear hW2; have hrg3 := idx_range hb2 t)) | fail)
                have hE3 : Ext wr (W2.setCell ⟨wr.heap.size, 0, none⟩ (.int .u64 (t : Int))) := hE2.setCell (Nat.le_refl _) _
                generalize W2.setCell ⟨wr.heap.size, 0, none⟩ (.int .u64 (t : Int)) = W3 at *
                clear k0 fz hb2 hrg
                have hrm3 : W3.rangeAt mb (moff + i * 11) ({ x with idx := t }.row (.slice ua x.chs.length x.chs.length)).toList := fun r v hv => hE3.cell (hrm r v hv)
                refine wp_region_class (Ext W3) (by kernel_rfl) (by kernel_rfl) (Ext.refl _).drew ?_
                iterate 3 (refine wpQuiet_step (fun K hK => ?_); go_simp; first | (refine hK _ ?_; clear hK K) | (refine ⟨_, fun _ _ => rfl, hK _ ?_⟩; clear hK K))
                have hpn3 : x.chs.length ≤ 140737488351232 := by omega
                have hpR3 := hpR9.ext hE3
                have hur3 := hur.ext hE3
                refine wpQuiet_load_mid rfl 34 _ rfl mb (moff + i * 11) rfl _ _ (fun w' h r v hv => h.cell (hrm3 r v hv)) Try.underlying34 rfl (by rw [row34]; exact info34) ?_
                refine wpQuiet_load_mid rfl 34 _ rfl wr.heap.size 0 rfl _ _ (fun w' h r v hv => h.cell (hrg3 r v hv)) Try.underlying34 rfl (by rw [row34]; exact info34) ?_
                refine wpQuiet_step (fun K hK => ?_)
                go_simp
                refine ⟨_, fun w' hw => calls_ext hw (sameItem_any w' { x with idx := t } ua pa _ pc hpn3 (hur3.ext hw) (hpR3.ext hw)), hK _ ?_⟩; clear hK K
                iterate 1 (refine wpQuiet_step (fun K hK => ?_); go_simp; first | (refine hK _ ?_; clear hK K) | (refine ⟨_, fun _ _ => rfl, hK _ ?_⟩; clear hK K))
                refine wpQuiet_nil (fun W4 hW4 => ?_)
                clear hrm3 hrg3 hpR3 hur3 hrm
                go_wp2_with fail
                go_roundw
                case rel => exact ⟨i + 1, by omega, by go_num, (hE9.trans hE3).trans hW4⟩
                case measure => simp [intOf]; omega
              · by_cases hi3 : i < N
                · have hii : (i : Int) < (N : Int) := by omega
                  have hij : ¬ (i : Int) < 2 := by omega
                  go_wp2_with fail
                  go_roundw
                  case rel => exact ⟨q + 1, by omega, by omega, by go_num, hS8.ext hE9, hX8.trans (.of_ext hE9)⟩
                  case measure => simp [intOf]; omega
                · have hii : ¬ (i : Int) < (N : Int) := by omega
                  go_wp2_with fail
                  go_roundw
                  case rel => exact ⟨q + 1, by omega, by omega, by go_num, hS8.ext hE9, hX8.trans (.of_ext hE9)⟩
                  case measure => simp [intOf]; omega
          · have hqi : ¬ (q : Int) ≤ (y : Int) := by omega
            go_wp2_with fail
            refine (lives_any wr).mono ?_
            rintro e w' ⟨rfl, hx⟩
            go_wp2
            go_ret
            exact ⟨rfl, (hE.trans (.of_ext hx)).ext (fun k hk hkb => by have := hb'.out; omega)⟩
  · go_enter Try.func3, Try.ntmps3
    by_cases hc1 : ix ≤ 1152921504606846976
    · have c1 : ¬ (1152921504606846976 : Int) < (ix : Int) := by omega
      have c2 : (600 : Int) < (l.length : Int) := by omega
      go_wp2_with fail
      refine (lives_any w).mono ?_
      rintro e w' ⟨rfl, hx⟩
      go_wp2
      go_ret
      exact ⟨rfl, hx⟩
    · have c1 : (1152921504606846976 : Int) < (ix : Int) := by omega
      go_wp2_with fail
      refine (lives_any w).mono ?_
      rintro e w' ⟨rfl, hx⟩
      go_wp2
      go_ret
      exact ⟨rfl, hx⟩
end Go.Proofs.Ytdkhcamckjidcaa
