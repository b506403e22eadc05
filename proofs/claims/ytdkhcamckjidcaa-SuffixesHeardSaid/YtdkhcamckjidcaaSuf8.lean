import Derived.Test.YtdkhcamckjidcaaSuf7
import Derived.Test.YtdkhcamckjidcaaRead2
namespace Go.Proofs.Ytdkhcamckjidcaa
open Go.RowKit
def nIt (ix k : Nat) : It := { zIt k with num := ((k - ix - 1 : Nat) : Int) }
set_option maxRecDepth 100000 in
set_option maxHeartbeats 2000000 in
theorem suffixesHeard_walk (w : World) (s : Int) (o0 : ∃ n, OKC Try.prog w n 22 [.int .u64 s]) (v : Value) (o1 : ∃ n, OKC Try.prog w n 43 [v]) :
    Calls Try.prog 4 #[.int .u64 s, v] w fun e w' => e = .returned (.bool true) ∧ Ext w w' := by
  obtain ⟨ix, rfl, hix⟩ := okc_nat (top := 18446744073709551616) Try.underlying22 (fun _ h => wf_u64 h) o0
  obtain ⟨l, a, cap, rfl, hl, hR⟩ := okc_u8row Try.underlying43 Try.underlying5 (by kernel_rfl) o1
  clear o0 o1
  by_cases hbig : ix ≤ 1152921504606846976 ∧ l.length ≤ 100
  · obtain ⟨hb1, hb2⟩ := hbig
    have c1 : ¬ (1152921504606846976 : Int) < (ix : Int) := by omega
    have c2 : ¬ (100 : Int) < (l.length : Int) := by omega
    go_enter Try.func4, Try.ntmps4
    go_wp2_with fail
    refine (new_any ix w).mono ?_
    rintro e w0 ⟨rfl, hw0⟩
    have hS0 : SufOf w0 w.heap.size ix 0 (nIt ix) := by rw [hw0]; exact SufOf.new w ix (by omega) (nIt ix)
    have hE0 : OffB (fun k => k = w.heap.size) w w0 := by rw [hw0]; exact .of_ext ((Ext.refl _).alloc _)
    obtain ⟨b, hb⟩ : ∃ b, b = w.heap.size := ⟨_, rfl⟩
    rw [← hb] at hS0 hE0 ⊢
    have hb' := Lib.hid hb
    clear hw0 hb c1 c2
    go_wp2
    go_loopw [6] (fun i wr => ∃ k f m : Nat, k ≤ l.length ∧ i = .int .i64 k ∧ ix ≤ f ∧ f + m = ix + k ∧ SufOf wr b f m (nIt ix) ∧ OffB (fun k => k = b) w wr) (fun i _ => l.length - (intOf i).toNat)
    case atStart => exact ⟨0, ix, 0, by omega, rfl, by omega, by omega, hS0, hE0⟩
    case round =>
      obtain ⟨k, f, m, hk, rfl, hf, hfm, hS, hE⟩ := hrel
      by_cases hlt : k < l.length
      · have hli : (k : Int) < (l.length : Int) := by omega
        obtain ⟨t, ht⟩ : ∃ t, t = f + m + 1 := ⟨_, rfl⟩
        have e1 : IntKind.u64.wrap ((f : Int) + (m : Int) + 1) = (t : Int) := by rw [IntWalk.u64_in _ (by omega)]; omega
        have e2 : IntKind.u32.wrap (k : Int) = (k : Int) := by rw [IntKind.wrap_u32]; omega
        have ht' := Lib.hid ht
        have hfm' := Lib.hid hfm
        clear ht hfm
        go_wp2_with fail
        refine (suf_last hS).mono ?_
        rintro e w1 ⟨rfl, rfl⟩
        go_wp2_with fail
        have ht2 := ht'.out
        have hfm2 := hfm'.out
        have hm256 : m < 256 := by omega
        have hft : f + m + 1 < 18446744073709551615 := by omega
        have hg : nIt ix (f + m + 1) = { zIt t with num := (k : Int) } := by
          unfold nIt; rw [← ht2, show t - ix - 1 = k by omega]
        clear ht2 hfm2
        refine (suf_add (hS.ext (Ext.refl _).drew) hm256 hft { zIt t with num := (k : Int) } ht'.out hg none 0 (RowIs.nil _ _ _ _ (fun _ => rfl)) (by simp [zIt])).mono ?_
        rintro e w2 ⟨rfl, hS2, hE2⟩
        have hX2 : OffB (fun k => k = b) w w2 := (hE.trans (.of_ext (Ext.refl _).drew)).trans hE2
        have hR2 := hR.ext (hX2.ext (fun k hk hkb => by have := hb'.out; omega))
        obtain ⟨lb, off, hat⟩ := hR2.at
        obtain ⟨rfl, _, hcell⟩ := hat (by omega)
        obtain ⟨c, hc⟩ : ∃ c, l[k]? = some c := ⟨_, List.getElem?_eq_getElem hlt⟩
        have hc256 := hl c (List.mem_of_getElem? hc)
        have q := hcell k (by omega)
        rw [u8row_at l k c hc] at q
        have e3 : IntKind.u64.wrap (c : Int) = (c : Int) := by rw [IntWalk.u64_in _ (by omega)]
        have e4 : (c : Int).tmod 120 = ((c % 120 : Nat) : Int) := by rw [Int.tmod_eq_emod_of_nonneg (by omega)]; omega
        have hr120 : c % 120 < 120 := Nat.mod_lt _ (by decide)
        generalize c % 120 = r at *
        obtain ⟨z, hz⟩ : ∃ z, z = ix + r := ⟨_, rfl⟩
        have e5 : IntKind.u64.wrap ((ix : Int) + (r : Int)) = (z : Int) := by rw [IntWalk.u64_in _ (by omega)]; omega
        have hz' := Lib.hid hz
        clear hcell hc hat hz
        go_wp2_with fail
        refine (suf_first hS2).mono ?_
        rintro e w3 ⟨rfl, rfl⟩
        go_wp2_with fail
        refine (suf_last hS2).mono ?_
        rintro e w4 ⟨rfl, rfl⟩
        have q' : w3.drew.cell? ⟨lb, off + k, none⟩ = some (.int .u8 (c : Int)) := q
        go_wp2_with fail
        have hS3 := hS2.ext (Ext.refl _).drew
        have hX3 := hX2.drew
        generalize w3.drew = w4 at *
        by_cases hzz : z ≤ f + (m + 1)
        · have d1 : ¬ (f : Int) + ((m : Int) + 1) < (z : Int) := by omega
          refine (suf_heard hS3 z hzz).mono ?_
          rintro e w5 ⟨rfl, hS5, hE5⟩
          obtain ⟨F, hF⟩ : ∃ F, F = max f z := ⟨_, rfl⟩
          obtain ⟨M, hM⟩ : ∃ M, M = f + (m + 1) - max f z := ⟨_, rfl⟩
          rw [← hM, ← hF] at hS5
          have d2 : ((F : Int) + (M : Int) == (f : Int) + ((m : Int) + 1)) = true := by rw [beq_iff_eq]; omega
          have d3 : ¬ (F : Int) < (f : Int) := by omega
          have hX5 := hX3.trans hE5
          have hFM : Hid (F + M = f + m + 1 ∧ f ≤ F ∧ F = max f z) := Lib.hid (by omega)
          have d4 : ((F : Int) == max (f : Int) (z : Int)) = true := by rw [beq_iff_eq]; omega
          clear hF hM
          go_wp2_with fail
          refine (suf_last hS5).mono ?_
          rintro e w6 ⟨rfl, rfl⟩
          go_wp2_with fail
          refine (suf_first (hS5.ext (Ext.refl _).drew)).mono ?_
          rintro e w7 ⟨rfl, rfl⟩
          go_wp2_with fail
          refine (suf_first (hS5.ext (Ext.refl _).drew)).mono ?_
          rintro e w7 ⟨rfl, rfl⟩
          go_wp2_with fail
          all_goals first | (exfalso; have hh := hFM.out; omega) | go_roundw
          all_goals first | (refine ⟨k + 1, F, M, by omega, by go_num, by (have hh := hFM.out; omega), by (have hh := hFM.out; have h5 := hfm'.out; omega), hS5.ext (Ext.refl _).drew, hX5.drew⟩) | (simp [intOf]; omega)
        · have d1 : (f : Int) + ((m : Int) + 1) < (z : Int) := by omega
          refine (suf_heard_arg hS3 z (by omega)).mono ?_
          rintro e w5 ⟨rfl, hS5, hE5⟩
          have hX5 := hX3.trans (.of_ext hE5)
          go_wp2_with fail
          refine (suf_last hS5).mono ?_
          rintro e w6 ⟨rfl, rfl⟩
          go_wp2_with fail
          refine (suf_first (hS5.ext (Ext.refl _).drew)).mono ?_
          rintro e w7 ⟨rfl, rfl⟩
          go_wp2_with fail
          refine (suf_first (hS5.ext (Ext.refl _).drew)).mono ?_
          rintro e w7 ⟨rfl, rfl⟩
          go_wp2_with fail
          go_roundw
          case rel =>
            have := ht'.out
            have := hfm'.out
            exact ⟨k + 1, f, m + 1, by omega, by go_num, by omega, by omega, hS5.ext (Ext.refl _).drew, hX5.drew⟩
          case measure => simp [intOf]; omega
      · obtain rfl : k = l.length := by omega
        go_wp2_with fail
        refine (lives_any wr).mono ?_
        rintro e w' ⟨rfl, hx⟩
        go_wp2
        go_ret
        exact ⟨rfl, (hE.trans (.of_ext hx)).ext (fun k hk hkb => by have := hb'.out; omega)⟩
  · go_enter Try.func4, Try.ntmps4
    by_cases hc1 : ix ≤ 1152921504606846976
    · have c1 : ¬ (1152921504606846976 : Int) < (ix : Int) := by omega
      have c2 : (100 : Int) < (l.length : Int) := by omega
      go_wp2_with fail
      refine (lives_any w).mono ?_
      rintro e w' ⟨rfl, hx⟩
      go_wp2
      go_ret
      exact ⟨rfl, hx⟩
    · have c1 : (1152921504606846976 : Int) < (ix : Int) := by omega
      go_wp2_with fail
      refine (lives_any w).mono ?_
      rintro e w' ⟨rfl, hx⟩
      go_wp2
      go_ret
      exact ⟨rfl, hx⟩
end Go.Proofs.Ytdkhcamckjidcaa
