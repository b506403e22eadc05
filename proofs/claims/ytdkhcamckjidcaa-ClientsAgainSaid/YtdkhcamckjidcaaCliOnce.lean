/- The law ClientsOnce. No condition. -/
import Derived.Test.YtdkhcamckjidcaaCliLv
namespace Go.Proofs.Ytdkhcamckjidcaa
open Go.RowKit
def askRow (p : Ak × Option Addr × Nat) : List Value := (p.1.row (.slice p.2.1 p.1.chs.length p.2.2)).toList
theorem okc_asks {w : World} {v : Value} (h : ∃ n, OKC Try.prog w n 47 [v]) : ∃ (l : List (Ak × Option Addr × Nat)) (a : Option Addr) (cap : Nat), v = .slice a l.length cap ∧ (∀ p ∈ l, ChsAt w p.1.chs p.2.1 p.2.2 ∧ p.1.small) ∧ RowIs w 8 v l.length (l.flatMap askRow) := by
  obtain ⟨n, h⟩ := h
  cases n with
  | zero => exact h.elim
  | succ n =>
    obtain ⟨l, hg, hr, _⟩ := OKC.row askRow (fun p => ChsAt w p.1.chs p.2.1 p.2.2 ∧ p.1.small) 8 Try.underlying47 (by kernel_rfl) (by decide) (fun _ => rfl) (fun cs hc => by
      obtain ⟨x, a, cap, he, hi, hs⟩ := okc_ask hc
      exact ⟨(x, a, cap), he, hi, hs⟩) h
    obtain ⟨a, cap, hv⟩ := hr.form
    exact ⟨l, a, cap, hv, hg, hr⟩
theorem askRow_range {w : World} {l : List (Ak × Option Addr × Nat)} {b off : Nat} (hd : ∀ i, i < l.length * 8 → w.cell? ⟨b, off + i, none⟩ = (l.flatMap askRow)[i]?) {k : Nat} {p : Ak × Option Addr × Nat} (h : l[k]? = some p) : w.rangeAt b (off + k * 8) (askRow p) := fun r v hv => by
  have hr : r < 8 := (List.getElem?_eq_some_iff.1 hv).1
  have hk : k < l.length := (List.getElem?_eq_some_iff.1 h).1
  rw [Nat.add_assoc, hd (k * 8 + r) (by omega), flatMap_at askRow 8 (by decide) (fun _ => rfl) l k p h r hr _ rfl]; exact hv
set_option maxRecDepth 100000 in
set_option maxHeartbeats 2000000 in
theorem clientsOnce_walk (w : World) (v : Value) (o0 : ∃ n, OKC Try.prog w n 47 [v]) (r : Int) (o1 : ∃ n, OKC Try.prog w n 5 [.int .u8 r]) (dr : Bool) (_o2 : ∃ n, OKC Try.prog w n 4 [.bool dr]) :
    Calls Try.prog 6 #[v, .int .u8 r, .bool dr] w fun e w' => e = .returned (.bool true) ∧ Ext w w' := by
  obtain ⟨l, a, cap, rfl, hl, hR⟩ := okc_asks o0
  obtain ⟨rp, rfl, hrp⟩ := okc_nat (top := 256) Try.underlying5 (fun _ h => wf_u8 h) o1
  clear o0 o1
  by_cases hbig : l.length ≤ 200
  · have c2 : ¬ (200 : Int) < (l.length : Int) := by omega
    obtain ⟨M, hM⟩ : ∃ M, M = 1 + rp % 4 := ⟨_, rfl⟩
    have eM : (1 : Int) + (rp : Int) % 4 = (M : Int) := by omega
    have hM1 : 1 ≤ M := by omega
    have hM4 : M ≤ 4 := by omega
    clear hM
    go_enter Try.func6, Try.ntmps6
    go_wp2_with fail
    refine (cnew_ok w 3 (by decide) (by decide)).mono ?_
    rintro e w0 ⟨rfl, hw0⟩
    have hC0 : ClAt w0 w.heap.size 3 0 none := by rw [hw0]; exact heap_alloc_new _ _
    have hE0 : OffB (fun k => k = w.heap.size) w w0 := by rw [hw0]; exact .of_ext ((Ext.refl _).alloc _)
    obtain ⟨c, hc⟩ : ∃ c, c = w.heap.size := ⟨_, rfl⟩
    rw [← hc] at hC0 hE0 ⊢
    have hc' := Lib.hid hc
    have hin : ∀ j, j < w.heap.size → ¬ j = c := fun j hj h => by omega
    clear hw0 hc c2
    go_wp2_with fail
    go_loopw [9, 10] (fun la i wr => ∃ k n : Nat, k ≤ l.length ∧ i = .int .i64 k ∧ la = .int .u32 n ∧ n ≤ k ∧ ClAt wr c 3 n none ∧ OffB (fun k => k = c) w wr) (fun _ i _ => l.length - (intOf i).toNat)
    case atStart => exact ⟨0, 0, by omega, rfl, rfl, by omega, hC0, hE0⟩
    case round =>
      obtain ⟨k, n, hk, rfl, rfl, hn, hC, hE⟩ := hrel
      by_cases hlt : k < l.length
      · have hli : (k : Int) < (l.length : Int) := by omega
        have hR2 := hR.ext (hE.ext hin)
        obtain ⟨p, hp⟩ : ∃ p, l[k]? = some p := ⟨_, List.getElem?_eq_getElem hlt⟩
        obtain ⟨lb, off, hat⟩ := hR2.at
        obtain ⟨rfl, _, hcell⟩ := hat (by omega)
        have hrg := askRow_range hcell hp
        obtain ⟨hpC, hps⟩ := hl p (List.mem_of_getElem? hp)
        obtain ⟨x, pa, pc⟩ := p
        unfold askRow at hrg
        simp only at hrg hpC hps
        have hpC2 := hpC.ext (hE.ext hin)
        have hout : ∀ w', OffB (fun k => k = c) wr w' → ChsAt w' x.chs pa pc := fun w' h => hpC.ext ((hE.trans h).ext hin)
        clear hcell hat hp
        go_wp2_with (first | (refine wpList_load_mid (by rfl) 32 (.tmp 37) (by rfl) lb (off + k * 8) (by rfl) (x.row (.slice pa x.chs.length pc)).toList _ hrg Try.underlying32 rfl (by rw [ask_len]; exact info_ask) ?_) | fail)
        clear hrg
        cases hok : x.okB
        · refine (cask_arg wr c 3 n none x pa pc 2 hC (by decide) hpC2 hps (by rw [hok]; rfl)).mono ?_
          clear hok
          rintro e w1 ⟨rfl, hE1⟩
          have hC1 := hC.ext hE1
          have hO1 := hE.trans (.of_ext hE1)
          go_wp2_with fail
          go_roundw
          case rel => exact ⟨k + 1, n, by omega, by go_num, rfl, by omega, hC1, hO1⟩
          case measure => simp [intOf]; omega
        · refine (cask_ok wr c 3 n x pa pc 2 hC (by decide) (by omega) (by omega) hpC2 hps hok (.inr rfl) hout).mono ?_
          clear hok
          rintro e w1 ⟨rfl, g, ga, gc, hC1, hW1, hg1, _, hO1⟩
          have hX1 := hE.trans hO1
          go_wp2_with fail
          refine (sends_waits w1 c g 3 (n + 1) 1 x 2 ga gc hC1 hW1 (by decide) (by decide)).mono ?_
          rintro e w2 ⟨gm, rfl, _, hE2⟩
          have hC2 := hC1.ext hE2
          have hW2 := hW1.ext hE2
          have hX2 := hX1.trans (.of_ext hE2)
          clear hC1 hW1 hX1 hO1
          cases dr
          · go_wp2_with fail
            go_loopw [13, 14] (fun mn i wr2 => ∃ j : Nat, j ≤ M ∧ i = .int .i64 j ∧ ((j = 0 ∧ mn = .int .i64 0 ∧ ClAt wr2 c 3 ((n : Int) + 1) (some ⟨g, 0, none⟩) ∧ WaAt wr2 g x 2 ga gc) ∨ (1 ≤ j ∧ mn = .int .i64 1 ∧ ClAt wr2 c 3 ((n : Int) + 1) none)) ∧ OffB (fun k => k = c) w wr2) (fun _ i _ => M - (intOf i).toNat)
            case atStart => exact ⟨0, by omega, rfl, .inl ⟨rfl, rfl, hC2, hW2⟩, hX2⟩
            case round =>
              obtain ⟨j, hj, rfl, hst, hX3⟩ := hrel
              by_cases hjM : j < M
              · have hji : (j : Int) < (M : Int) := by omega
                rcases hst with ⟨rfl, rfl, hC3, hW3⟩ | ⟨hj1, rfl, hC3⟩
                · go_wp2_with fail
                  refine (came_yes _ c g 3 ((n : Int) + 1) x 2 ga gc ⟨2, 0, 19, 0, 2, (n : Int) + 1, 0, 0⟩ (.slice none 0 0) (.slice none 0 0) (.slice none 0 0) (.slice none 0 0) (.slice none 0 0) (.int .i64 0) (.bool false) (.slice none 0 0) hC3 hW3 (by decide) (by decide) rfl (by simp) rfl rfl).mono ?_
                  rintro e w4 ⟨rfl, hC4, hO4⟩
                  have hX4 := hX3.trans hO4
                  go_wp2_with fail
                  go_roundw
                  case rel => exact ⟨1, by omega, by go_num, .inr ⟨by omega, rfl, hC4⟩, hX4⟩
                  case measure => simp [intOf]; omega
                · go_wp2_with fail
                  refine (came_idle _ c 3 ((n : Int) + 1) ⟨2, 0, 19, 0, 2, (n : Int) + 1, 0, 0⟩ (.slice none 0 0) (.slice none 0 0) (.slice none 0 0) (.slice none 0 0) (.slice none 0 0) (.int .i64 0) (.bool false) (.slice none 0 0) hC3 (by decide) (by decide) rfl (by simp)).mono ?_
                  rintro e w4 ⟨rfl, hE4⟩
                  have hX4 := hX3.trans (.of_ext hE4)
                  have hC4 := hC3.ext hE4
                  go_wp2_with fail
                  go_roundw
                  case rel => exact ⟨j + 1, by omega, by go_num, .inr ⟨by omega, rfl, hC4⟩, hX4⟩
                  case measure => simp [intOf]; omega
              · have hji : ¬ (j : Int) < (M : Int) := by omega
                rcases hst with ⟨rfl, _⟩ | ⟨hj1, rfl, hC3⟩
                · exfalso; omega
                · go_wp2_with fail
                  refine (sends_idle _ c 3 ((n : Int) + 1) 1 hC3 (by decide)).mono ?_
                  rintro e w4 ⟨rfl, rfl⟩
                  go_wp2_with fail
                  go_roundw
                  case rel => exact ⟨k + 1, n + 1, by omega, by go_num, by go_num, by omega, by simpa using hC3, hX3⟩
                  case measure => simp [intOf]; omega
          · go_wp2_with fail
            refine (drops_waits w2 c 3 ((n : Int) + 1) ⟨g, 0, none⟩ hC2 (by decide)).mono ?_
            rintro e w3 ⟨rfl, hC3, hO3⟩
            have hX3 := hX2.trans hO3
            go_wp2_with fail
            go_loopw [13, 14] (fun mn i wr2 => ∃ j : Nat, j ≤ M ∧ i = .int .i64 j ∧ mn = .int .i64 0 ∧ ClAt wr2 c 3 ((n : Int) + 1) none ∧ OffB (fun k => k = c) w wr2) (fun _ i _ => M - (intOf i).toNat)
            case atStart => exact ⟨0, by omega, rfl, rfl, hC3, hX3⟩
            case round =>
              obtain ⟨j, hj, rfl, rfl, hC4, hX4⟩ := hrel
              by_cases hjM : j < M
              · have hji : (j : Int) < (M : Int) := by omega
                go_wp2_with fail
                refine (came_idle _ c 3 ((n : Int) + 1) ⟨2, 0, 19, 0, 2, (n : Int) + 1, 0, 0⟩ (.slice none 0 0) (.slice none 0 0) (.slice none 0 0) (.slice none 0 0) (.slice none 0 0) (.int .i64 0) (.bool false) (.slice none 0 0) hC4 (by decide) (by decide) rfl (by simp)).mono ?_
                rintro e w5 ⟨rfl, hE5⟩
                have hX5 := hX4.trans (.of_ext hE5)
                have hC5 := hC4.ext hE5
                go_wp2_with fail
                go_roundw
                case rel => exact ⟨j + 1, by omega, by go_num, rfl, hC5, hX5⟩
                case measure => simp [intOf]; omega
              · have hji : ¬ (j : Int) < (M : Int) := by omega
                go_wp2_with fail
                refine (sends_idle _ c 3 ((n : Int) + 1) 1 hC4 (by decide)).mono ?_
                rintro e w5 ⟨rfl, rfl⟩
                go_wp2_with fail
                go_roundw
                case rel => exact ⟨k + 1, n + 1, by omega, by go_num, by go_num, by omega, by simpa using hC4, hX4⟩
                case measure => simp [intOf]; omega
      · obtain rfl : k = l.length := by omega
        go_wp2_with fail
        refine (clives_any wr).mono ?_
        rintro e w' ⟨rfl, hx⟩
        go_wp2
        go_ret
        exact ⟨rfl, (hE.trans (.of_ext hx)).ext hin⟩
  · have c2 : (200 : Int) < (l.length : Int) := by omega
    go_enter Try.func6, Try.ntmps6
    go_wp2_with fail
    refine (clives_any w).mono ?_
    rintro e w' ⟨rfl, hx⟩
    go_wp2
    go_ret
    exact ⟨rfl, hx⟩
end Go.Proofs.Ytdkhcamckjidcaa
