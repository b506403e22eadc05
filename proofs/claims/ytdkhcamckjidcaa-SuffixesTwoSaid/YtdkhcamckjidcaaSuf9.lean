import Derived.Test.YtdkhcamckjidcaaItems
import Derived.Test.YtdkhcamckjidcaaKit6
namespace Go.Proofs.Ytdkhcamckjidcaa
open Go.RowKit
theorem Held.mono {B B' : Nat → Prop} {w : World} {x : It} {r : List Value} (h : Held B w x r) (hb : ∀ k, B' k → B k) : Held B' w x r := by
  obtain ⟨a, cap, h1, h2, h3, h4, h5⟩ := h
  exact ⟨a, cap, h1, h2, h3, h4, fun p n c hv hB => h5 p n c hv (hb _ hB)⟩
/-- A suffix, its items' changes off the blocks D. -/
def SufD (w : World) (D : Nat → Prop) (b f m : Nat) (g : Nat → It) : Prop := D b ∧ (∀ k, D k → k < w.heap.size) ∧ ∃ R, SufAt w b f m R ∧ m ≤ 256 ∧ f + m < 18446744073709551615 ∧ ∀ k, f < k → k ≤ f + m → Held D w (g k) (R (k % 256))
theorem SufD.suf {w : World} {D : Nat → Prop} {b f m : Nat} {g : Nat → It} (h : SufD w D b f m g) : SufOf w b f m g := by
  obtain ⟨hb, hD, R, h1, h2, h3, h4⟩ := h
  exact ⟨R, h1, h2, h3, fun k k1 k2 => (h4 k k1 k2).mono (fun j hj => by subst hj; exact hb)⟩
theorem SufD.off {D B : Nat → Prop} {w w' : World} {b f m : Nat} {g : Nat → It} (h : SufD w D b f m g) (he : OffB B w w') (hb : ¬ B b) (hB : ∀ k, k < w.heap.size → B k → D k) : SufD w' D b f m g := by
  obtain ⟨hd, hD, R, h1, h2, h3, h4⟩ := h
  exact ⟨hd, fun k hk => Nat.lt_of_lt_of_le (hD k hk) he.size, R, h1.off he hb, h2, h3, fun k hk hk2 => (h4 k hk hk2).off (he.past hB)⟩
theorem SufD.ext {D : Nat → Prop} {w w' : World} {b f m : Nat} {g : Nat → It} (h : SufD w D b f m g) (he : Ext w w') : SufD w' D b f m g :=
  h.off (B := fun _ => False) (.of_ext he) id (fun _ _ hB => hB.elim)
theorem sufD_add {w : World} {D : Nat → Prop} {b f m : Nat} {g : Nat → It} (h : SufD w D b f m g) (hm : m < 256) (hf : f + m + 1 < 18446744073709551615) (x : It) (hx : x.idx = f + m + 1) (hg : g (f + m + 1) = x) (a : Option Addr) (cap : Nat) (hr : RowIs w 3 (.slice a x.chs.length cap) x.chs.length (x.chs.flatMap Ch.cells)) (hn : x.chs.length * 40 ≤ 140737488351232) :
    Calls Try.prog 10 #[.pointer (some ⟨b, 0, none⟩), .agg (x.row (.slice a x.chs.length cap))] w fun e w' => e = .returned (.int .i64 0) ∧ SufD w' D b f (m + 1) g ∧ OffB (fun k => k = b) w w' := by
  obtain ⟨hd, hD, R, h1, h2, h3, h4⟩ := h
  refine (add_ok w b f m R h1 hm (by omega) x a _ cap hr hn hx).mono ?_
  rintro e w' ⟨rfl, a', cap', hS, hc, hR, hF, hE⟩
  refine ⟨rfl, ⟨hd, fun k hk => Nat.lt_of_lt_of_le (hD k hk) hE.size, _, by simpa using hS, by omega, by omega, fun k k1 k2 => ?_⟩, hE⟩
  by_cases hk : k = f + m + 1
  · subst hk
    simp only [if_true]
    rw [hg]
    exact ⟨a', cap', rfl, hc, hn, hR, hF.out hD⟩
  · have : ¬ k % 256 = (f + m + 1) % 256 := by omega
    simp only [if_neg this]
    exact (h4 k k1 (by omega)).off (hE.past (fun j _ hj => by subst hj; exact hd))
theorem sufD_heard {w : World} {D : Nat → Prop} {b f m : Nat} {g : Nat → It} (h : SufD w D b f m g) (i : Nat) (hi : i ≤ f + m) :
    Calls Try.prog 11 #[.pointer (some ⟨b, 0, none⟩), .int .u64 (i : Int)] w fun e w' => e = .returned (.int .i64 0) ∧ SufD w' D b (max f i) (f + m - max f i) g ∧ OffB (fun k => k = b) w w' := by
  obtain ⟨hd, hD, R, h1, h2, h3, h4⟩ := h
  refine (heard_ok w b f m R h1 h2 h3 i hi).mono ?_
  rintro e w' ⟨rfl, R', hS, hR, hE⟩
  refine ⟨rfl, ⟨hd, fun k hk => Nat.lt_of_lt_of_le (hD k hk) hE.size, R', hS, by omega, by omega, fun k k1 k2 => ?_⟩, hE⟩
  rw [hR k k1 (by omega)]
  exact (h4 k (by omega) (by omega)).off (hE.past (fun j _ hj => by subst hj; exact hd))
/-- Heard, whatever the index. -/
theorem sufD_heard_any {w : World} {D : Nat → Prop} {b f m : Nat} {g : Nat → It} (h : SufD w D b f m g) (i : Nat) :
    Calls Try.prog 11 #[.pointer (some ⟨b, 0, none⟩), .int .u64 (i : Int)] w fun e w' => ∃ x f' m', e = .returned (.int .i64 x) ∧ f ≤ f' ∧ f' + m' = f + m ∧ SufD w' D b f' m' g ∧ OffB (fun k => k = b) w w' := by
  by_cases hi : i ≤ f + m
  · exact (sufD_heard h i hi).mono fun e w' ⟨he, hS, hE⟩ => ⟨0, max f i, f + m - max f i, he, by omega, by omega, hS, hE⟩
  · exact (suf_heard_arg h.suf i (by omega)).mono fun e w' ⟨he, _, hE⟩ => ⟨1, f, m, he, by omega, rfl, h.ext hE, .of_ext hE⟩
theorem sufD_new (w : World) (D : Nat → Prop) (f : Nat) (hf : f < 18446744073709551615) (g : Nat → It) (hd : D w.heap.size) (hD : ∀ k, D k → k < w.heap.size + 1) : SufD (w.alloc (.cells (sufZero f) 74)) D w.heap.size f 0 g :=
  ⟨hd, fun k hk => by have := hD k hk; simpa using this, _, SufAt.new w f, by omega, by omega, fun k h1 h2 => by omega⟩
set_option maxRecDepth 100000 in
set_option maxHeartbeats 1000000 in
theorem sameItems_any (w : World) (L M : List (It × Option Addr × Nat)) (a b : Option Addr) (base base' : Nat) (hLM : L.map (·.1) = M.map (·.1)) (hL : Told w base a L) (hM : Told w base' b M) (hc : ∀ p ∈ L, p.1.chs.length ≤ 140737488351232) :
    Calls Try.prog 16 #[.slice a L.length L.length, .slice b M.length M.length] w fun e w' => e = .returned (.bool true) ∧ Ext w w' := by
  have hlen : M.length = L.length := by have := congrArg List.length hLM; simpa using this.symm
  have hn9 := hL.1.2.1
  have hML := Lib.hid (And.intro hLM (And.intro hL hM))
  clear hLM hL hM
  rw [hlen]
  obtain ⟨N, hN⟩ : ∃ N, N = L.length := ⟨_, rfl⟩
  rw [← hN] at hn9 ⊢
  have hN' := Lib.hid (And.intro hN hlen)
  clear hN hlen
  go_enter Try.func16, Try.ntmps16
  go_wp2_with fail
  go_loopw [5] (fun f wr => ∃ i : Nat, i ≤ N ∧ f = .int .i64 i ∧ Ext w wr) (fun f _ => N - (intOf f).toNat)
  case atStart => exact ⟨0, by omega, rfl, Ext.refl _⟩
  case round =>
    obtain ⟨i, hi, rfl, hE⟩ := hrel
    by_cases hlt : i < N
    · have hii : (i : Int) < (N : Int) := by omega
      obtain ⟨hLM, ⟨hL1, _, hL3⟩, ⟨hM1, _, hM3⟩⟩ := hML.out
      obtain ⟨hN, hlen⟩ := hN'.out
      obtain ⟨u, hu⟩ : ∃ u, L[i]? = some u := ⟨_, List.getElem?_eq_getElem (by omega)⟩
      obtain ⟨v, hv⟩ : ∃ v, M[i]? = some v := ⟨_, List.getElem?_eq_getElem (by omega)⟩
      have huv : u.1 = v.1 := by
        have h1 := congrArg (·[i]?) hLM
        simp only [List.getElem?_map, hu, hv, Option.map_some, Option.some.injEq] at h1
        exact h1
      have hcu := hc u (List.mem_of_getElem? hu)
      have hu3 := (hL3 u (List.mem_of_getElem? hu)).1.ext hE
      have hv3 := (hM3 v (List.mem_of_getElem? hv)).1.ext hE
      have hL1' := hL1.ext hE
      have hM1' := hM1.ext hE
      rw [hlen] at hM1'
      rw [← hN] at hL1' hM1'
      obtain ⟨lb, loff, hat⟩ := hL1'.at
      obtain ⟨mb, moff, hat2⟩ := hM1'.at
      obtain ⟨rfl, _, hcl⟩ := hat (by omega)
      obtain ⟨rfl, _, hcm⟩ := hat2 (by omega)
      have hrl : wr.rangeAt lb (loff + i * 11) (outRow u) := fun r z hz => by
        have hr : r < 11 := (List.getElem?_eq_some_iff.1 hz).1
        rw [Nat.add_assoc, hcl (i * 11 + r) (by omega), flatMap_at outRow 11 (by decide) (fun _ => rfl) L i _ hu r hr _ rfl]; exact hz
      have hrm : wr.rangeAt mb (moff + i * 11) (outRow v) := fun r z hz => by
        have hr : r < 11 := (List.getElem?_eq_some_iff.1 hz).1
        rw [Nat.add_assoc, hcm (i * 11 + r) (by omega), flatMap_at outRow 11 (by decide) (fun _ => rfl) M i _ hv r hr _ rfl]; exact hz
      obtain ⟨x, ua, uc⟩ := u
      obtain ⟨y, va, vc⟩ := v
      simp only at huv
      subst huv
      unfold outRow at hrl hrm
      simp only at hcu hu3 hv3 hrl hrm
      clear hu hv hat hat2 hcl hcm hL1 hM1 hL3 hM3 hLM hN hlen hL1' hM1'
      go_wp2_with fail
      refine wp_region_class (Ext wr) (by kernel_rfl) (by kernel_rfl) (Ext.refl _).drew ?_
      iterate 3 (refine wpQuiet_step (fun K hK => ?_); go_simp; first | (refine hK _ ?_; clear hK K) | (refine ⟨_, fun _ _ => rfl, hK _ ?_⟩; clear hK K))
      refine wpQuiet_load_mid rfl 34 _ rfl lb (loff + i * 11) rfl _ _ (fun w' h r v hv => h.cell (hrl r v hv)) Try.underlying34 rfl (by rw [row34]; exact info34) ?_
      iterate 3 (refine wpQuiet_step (fun K hK => ?_); go_simp; first | (refine hK _ ?_; clear hK K) | (refine ⟨_, fun _ _ => rfl, hK _ ?_⟩; clear hK K))
      refine wpQuiet_load_mid rfl 34 _ rfl mb (moff + i * 11) rfl _ _ (fun w' h r v hv => h.cell (hrm r v hv)) Try.underlying34 rfl (by rw [row34]; exact info34) ?_
      refine wpQuiet_step (fun K hK => ?_)
      go_simp
      refine ⟨_, fun w' hw => calls_ext hw (sameItem_any w' x ua va _ _ hcu (hu3.ext hw) (hv3.ext hw)), hK _ ?_⟩; clear hK K
      iterate 1 (refine wpQuiet_step (fun K hK => ?_); go_simp; first | (refine hK _ ?_; clear hK K) | (refine ⟨_, fun _ _ => rfl, hK _ ?_⟩; clear hK K))
      refine wpQuiet_nil (fun W4 hW4 => ?_)
      go_wp2_with fail
      go_roundw
      case rel => exact ⟨i + 1, by omega, by go_num, hE.trans hW4⟩
      case measure => simp [intOf]; omega
    · have hii : ¬ (i : Int) < (N : Int) := by omega
      go_wp2
      go_ret
      exact ⟨rfl, hE⟩
end Go.Proofs.Ytdkhcamckjidcaa
