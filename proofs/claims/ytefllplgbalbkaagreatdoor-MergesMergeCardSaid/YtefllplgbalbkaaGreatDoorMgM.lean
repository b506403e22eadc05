/- 'many' of bucketlinelaw12. No condition. -/
import Derived.Test.YtefllplgbalbkaaGreatDoorMgA
namespace Go.Proofs.YtefllplgbalbkaaGreatDoor
open Go.RowKit
set_option maxRecDepth 100000
set_option maxHeartbeats 2000000
def eszAux : Nat → List En → Nat
  | n, [] => n
  | n, x :: r => if n ≤ 1048576 then eszAux (n + x.mark.key.size + x.val.size) r else n
def manyB (l : List En) : Bool := decide (150 < l.length) || decide (20000 < eszAux l.length l)
set_option maxRecDepth 100000 in
set_option maxHeartbeats 1000000 in
theorem esize_any (w : World) (l : List En) (a : Option Addr) (cap : Nat) (hg : ∀ x ∈ l, x.small) (hl : l.length ≤ 140737488351232) (h1 : RowIs w 4 (.slice a l.length cap) l.length (l.flatMap enL)) :
    Calls Tryz.prog 27 #[.slice a l.length cap] w fun e w' => e = .returned (.int .i64 (eszAux l.length l : Nat)) ∧ Ext w w' := by
  obtain ⟨S, hS⟩ : ∃ S, S = eszAux l.length l := ⟨_, rfl⟩
  rw [← hS]
  have hS' := Lib.hid hS
  clear hS
  go_enter Tryz.func27, Tryz.ntmps27
  go_wp2_with fail
  go_loopw [3, 4] (fun n i wr => ∃ k N : Nat, k ≤ l.length ∧ n = .int .i64 (N : Int) ∧ i = .int .i64 k ∧ S = eszAux N (l.drop k) ∧ N ≤ 500000000000000 ∧ Ext w wr) (fun _ i _ => l.length - (intOf i).toNat)
  case atStart => exact ⟨0, l.length, by omega, rfl, rfl, hS'.out, by omega, Ext.refl _⟩
  case round =>
    obtain ⟨k, N, hk, rfl, rfl, hs, hN, hE⟩ := hrel
    have hs' := Lib.hid hs
    clear hs
    by_cases hlt : k < l.length
    · have hli : (k : Int) < (l.length : Int) := by omega
      obtain ⟨c, hc⟩ : ∃ c, l[k]? = some c := ⟨_, List.getElem?_eq_getElem hlt⟩
      obtain ⟨g1, g2⟩ := hg c (List.mem_of_getElem? hc)
      have hdr : l.drop k = c :: l.drop (k + 1) := by
        rw [List.drop_eq_getElem_cons hlt]
        have := List.getElem?_eq_getElem hlt
        rw [hc] at this
        injection this with this
        rw [← this]
      have hdr' := Lib.hid hdr
      clear hdr
      by_cases hsm : N ≤ 1048576
      · have hsi : (N : Int) ≤ 1048576 := by omega
        obtain ⟨b, off, hat⟩ := (h1.ext hE).at
        obtain ⟨rfl, _, hd⟩ := hat (by omega)
        have p := ens_range hd hc
        have p0 := p 0 _ rfl
        have p3 := p 3 _ rfl
        rw [Nat.add_zero] at p0
        clear hd hat p hc
        have e1 : IntKind.i64.wrap ((N : Int) + (c.mark.key.size : Int)) = (N : Int) + (c.mark.key.size : Int) := by rw [IntKind.wrap_i64]; omega
        have e2 : IntKind.i64.wrap ((N : Int) + (c.mark.key.size : Int) + (c.val.size : Int)) = (N : Int) + (c.mark.key.size : Int) + (c.val.size : Int) := by rw [IntKind.wrap_i64]; omega
        go_wp2_with fail
        go_still (by kernel_rfl)
        change Exit.inBlock _ _ _ _ wr.drew
        go_wp2_with fail
        go_roundw
        case rel => exact ⟨k + 1, N + c.mark.key.size + c.val.size, by omega, by go_num, by go_num, by rw [hs'.out, hdr'.out]; simp [eszAux, hsm], by omega, hE.drew⟩
        case measure => simp [intOf]; omega
      · have hsi : ¬ (N : Int) ≤ 1048576 := by omega
        go_wp2_with fail
        go_ret
        exact ⟨by rw [hs'.out, hdr'.out]; simp [eszAux, hsm], hE⟩
    · have hli : ¬ (k : Int) < (l.length : Int) := by omega
      go_wp2_with fail
      go_ret
      exact ⟨by rw [hs'.out, List.drop_eq_nil_of_le (by omega)]; rfl, hE⟩
theorem many_any (w : World) (l : List En) (a : Option Addr) (cap : Nat) (hg : ∀ x ∈ l, x.small) (hl : l.length ≤ 140737488351232) (h1 : RowIs w 4 (.slice a l.length cap) l.length (l.flatMap enL)) :
    Calls Tryz.prog 6 #[.slice a l.length cap] w fun e w' => e = .returned (.bool (manyB l)) ∧ Ext w w' := by
  by_cases hb : 150 < l.length
  · have hbi : (150 : Int) < (l.length : Int) := by omega
    have hm : manyB l = true := by unfold manyB; simp [hb]
    rw [hm]
    clear hm
    go_enter Tryz.func6, Tryz.ntmps6
    go_wp2_with fail
    go_ret
    exact ⟨rfl, Ext.refl _⟩
  · have hbi : ¬ (150 : Int) < (l.length : Int) := by omega
    obtain ⟨S, hS⟩ : ∃ S, S = eszAux l.length l := ⟨_, rfl⟩
    have hc := esize_any w l a cap hg hl h1
    have hm : manyB l = decide (20000 < S) := by unfold manyB; rw [hS]; simp [hb]
    rw [hm]
    rw [← hS] at hc
    clear hm hS
    by_cases hbs : 20000 < S
    · have hbs' : (20000 : Int) < (S : Int) := by omega
      rw [decide_eq_true hbs]
      go_enter Tryz.func6, Tryz.ntmps6
      go_wp2_with fail
      refine hc.mono ?_
      rintro e w' ⟨rfl, hx⟩
      go_wp2_with fail
      go_ret
      exact ⟨rfl, hx⟩
    · have hbs' : ¬ (20000 : Int) < (S : Int) := by omega
      rw [decide_eq_false hbs]
      go_enter Tryz.func6, Tryz.ntmps6
      go_wp2_with fail
      refine hc.mono ?_
      rintro e w' ⟨rfl, hx⟩
      go_wp2_with fail
      go_ret
      exact ⟨by show Ending.returned (.bool (decide ((20000 : Int) < (S : Int)))) = _; rw [decide_eq_false (by omega)], hx⟩

end Go.Proofs.YtefllplgbalbkaaGreatDoor
