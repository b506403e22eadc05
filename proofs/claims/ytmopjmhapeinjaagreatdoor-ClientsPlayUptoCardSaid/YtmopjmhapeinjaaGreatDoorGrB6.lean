/- Several texts in one: BkL BkFByte BkG. No condition. -/
import Derived.Test.YtmopjmhapeinjaaGreatDoorGrB5
import Derived.Test.YtmopjmhapeinjaaGreatDoorGrA1
import Derived.Deep.RegionHeld3
import Derived.Deep.CutRange
/- A book's lists, gone through one by one. No condition. -/
namespace Go.Proofs.YtmopjmhapeinjaaGreatDoor
open Go.RowKit
theorem hdr_cells {w : World} {base : Nat} {ht : TypeId} {hv : Value} {hs : List Hd} (h : OwnC w base ht 3 hv hs.length (hs.flatMap Hd.cs)) {k : Nat} {x : Hd} (hx : hs[k]? = some x) :
    ∃ hb cap, hv = .slice (some ⟨hb, 0, none⟩) hs.length cap ∧ hs.length ≤ cap ∧ w.cell? ⟨hb, k * 3, none⟩ = some x.sl ∧ w.cell? ⟨hb, k * 3 + 1, none⟩ = some x.long ∧ w.cell? ⟨hb, k * 3 + 2, none⟩ = some (.int .i64 (x.num : Int)) ∧ (∀ j, j < 3 → w.frozen? ⟨hb, k * 3 + j, none⟩ = false) := by
  have hk : k < hs.length := (List.getElem?_eq_some_iff.1 hx).1
  obtain ⟨hl, ⟨_, h0⟩ | ⟨g, cap, cur, rfl, h2, h3, h4, h5, h6, h7⟩⟩ := h
  · omega
  · have hc : ∀ (j : Nat) (v : Value), j < 3 → x.cs[j]? = some v → w.cell? ⟨g, k * 3 + j, none⟩ = some v := fun j v hj hv => by
      rw [cell_of_row _ _ _ cur ht (0, 0) h3]
      have e1 := flatMap_at Hd.cs 3 (by decide) (fun _ => rfl) hs k x hx j hj (k * 3 + j) (by omega)
      have e2 : (cur.toList.take (hs.length * 3))[k * 3 + j]? = cur.toList[k * 3 + j]? := by rw [List.getElem?_take, if_pos (by omega)]
      rw [h7, e1, hv] at e2
      rw [← Array.getElem?_toList]
      exact e2.symm
    have c0 := hc 0 x.sl (by decide) rfl
    refine ⟨g, cap, rfl, h4, by simpa using c0, hc 1 x.long (by decide) rfl, hc 2 _ (by decide) rfl, fun j _ => ?_⟩
    unfold World.frozen?
    rw [h3]
    simp
theorem upd_self {α : Type} (f : Nat → α) (i : Nat) : upd f i (f i) = f := by
  funext j
  unfold upd
  split
  · rename_i h; rw [h]
  · rfl
section
variable {t : BkT} {base N0 g n : Nat} {T : Nat → Kd} {st : Nat → Nat} {w : World}
theorem BkI.hdr_off (h : BkI t base N0 g n T st w) (j : Nat) {wr : World} (hO : OffB (LP (T j)) w wr) : OwnC wr base (t.ht j) 3 (T j).1 (T j).2.length ((T j).2.flatMap Hd.cs) :=
  (h.hdr j).offB hO (fun q hq ⟨v, hv, hvq⟩ => h.seph j v hv q hq hvq)
theorem BkI.cellg (h : BkI t base N0 g n T st w) (j : Nat) {wr : World} (hO : OffB (LP (T j)) w wr) {i : Nat} {v : Value} (hc : w.cell? ⟨g, i, none⟩ = some v) : wr.cell? ⟨g, i, none⟩ = some v :=
  hO.cell hc (fun hq => h.sepg j (.inr hq))
/-- The first k lists are written over. -/
structure FillI (t : BkT) (base N0 : Nat) (p : Kd) (w : World) (j k : Nat) (wr : World) : Prop where
  off : OffB (LP p) w wr
  new : ∀ i x, p.2[i]? = some x → i < k → StP t j N0 base 1 wr x
  old : ∀ i x, p.2[i]? = some x → k ≤ i → StP t j N0 base 0 wr x
theorem FillI.start (h : BkI t base N0 g n T st w) (j : Nat) (h0 : st j = 0) : FillI t base N0 (T j) w j 0 w :=
  ⟨OffB.refl _, fun _ _ _ hi => absurd hi (Nat.not_lt_zero _), fun i x hx _ => by have := (h.lst j x (List.mem_of_getElem? hx)).1; rwa [h0] at this⟩
theorem sep_at {l : List Value} (h : l.Pairwise Sep) {i k : Nat} {u v : Value} (hu : l[i]? = some u) (hv : l[k]? = some v) (hik : i ≠ k) : Sep u v := by
  obtain ⟨h1, rfl⟩ := List.getElem?_eq_some_iff.1 hu
  obtain ⟨h2, rfl⟩ := List.getElem?_eq_some_iff.1 hv
  rcases Nat.lt_or_gt_of_ne hik with hlt | hlt
  · exact List.pairwise_iff_getElem.1 h i k h1 h2 hlt
  · exact (List.pairwise_iff_getElem.1 h k i h2 h1 hlt).symm
theorem FillI.next (h : BkI t base N0 g n T st w) {j k : Nat} {wr wr' : World} (hI : FillI t base N0 (T j) w j k wr) {x : Hd} (hx : (T j).2[k]? = some x) (hO : OffB (fun q => x.sl.ownBlock = some q) wr wr') (hs : StP t j N0 base 1 wr' x) : FillI t base N0 (T j) w j (k + 1) wr' := by
  have hxm : x.sl ∈ sls (T j) := List.mem_map_of_mem (List.mem_of_getElem? hx)
  have other : ∀ i y s, (T j).2[i]? = some y → i ≠ k → StP t j N0 base s wr y → StP t j N0 base s wr' y := fun i y s hy hik hst => by
    refine hst.off hO (fun q hq hq' => ?_) (fun q hq => h.fpN j q (.inr ⟨_, hxm, hq⟩))
    have h1 : (sls (T j))[i]? = some y.sl := by unfold sls; rw [List.getElem?_map, hy]; rfl
    have h2 : (sls (T j))[k]? = some x.sl := by unfold sls; rw [List.getElem?_map, hx]; rfl
    exact sep_at (h.sepl j) h1 h2 hik q hq hq'
  refine ⟨hI.off.trans (hO.mono fun q hq => ⟨_, hxm, hq⟩), fun i y hy hik => ?_, fun i y hy hik => other i y 0 hy (by omega) (hI.old i y hy (by omega))⟩
  rcases Nat.lt_or_ge i k with h1 | h1
  · exact other i y 1 hy (by omega) (hI.new i y hy h1)
  · obtain rfl : i = k := by omega
    rw [hx] at hy
    injection hy with hy
    rw [← hy]; exact hs
theorem FillI.fin (h : BkI t base N0 g n T st w) {j : Nat} {wr : World} (hI : FillI t base N0 (T j) w j (T j).2.length wr) : Below base w wr ∧ BkI t base N0 g n T (upd st j 1) wr := by
  have hb : base ≤ w.heap.size := Nat.le_trans h.gb (Nat.le_trans (Nat.le_of_lt h.gN) h.big)
  refine ⟨hI.off.below (fun q ⟨v, hv, hq⟩ => ?_) hb, ?_⟩
  · obtain ⟨x, hx, rfl⟩ := List.mem_map.1 hv
    obtain ⟨i, hi⟩ := List.mem_iff_getElem?.1 hx
    exact ((hI.new i x hi (List.getElem?_eq_some_iff.1 hi).1).1.lt q hq).1
  · have := h.turn j (hI.off.mono fun q hq => .inr hq) (T j).2 1 rfl (h.hdr_off j hI.off) (fun x hx => by
      obtain ⟨i, hi⟩ := List.mem_iff_getElem?.1 hx
      exact ⟨hI.new i x hi (List.getElem?_eq_some_iff.1 hi).1, (h.lst j x hx).2⟩)
    rwa [show ((T j).1, (T j).2) = T j from rfl, upd_self] at this
end
theorem fill_put {wr : World} {base : Nat} {e : TypeId} {z n k b cap : Nat} {c xs : List Value} (h : OwnC wr base e z (.slice (some ⟨b, 0, none⟩) n cap) n (fillL c xs k)) (hk : k < n) (hc : c.length = z) : ∀ w', Ext wr w' → w'.there b (k * z) c.length ∧ OwnC (w'.setCells b (k * z) c) base e z (.slice (some ⟨b, 0, none⟩) n cap) n (fillL c xs (k + 1)) ∧ OffB (fun q => (Value.slice (some ⟨b, 0, none⟩) n cap).ownBlock = some q) wr (w'.setCells b (k * z) c) := fun w' hE => by
  subst hc
  obtain ⟨h1, h2⟩ := (h.ext hE).put (g := b) rfl hk (cs := c) rfl
  rw [fill_step] at h2
  exact ⟨h1, h2, OffB.setCells (B := fun q => (Value.slice (some ⟨b, 0, none⟩) n cap).ownBlock = some q) (.of_ext hE) (b := b) rfl _ _⟩
end Go.Proofs.YtmopjmhapeinjaaGreatDoor

/- fillByte: all lists are written over. No condition. -/
namespace Go.Proofs.YtmopjmhapeinjaaGreatDoor
open Go.RowKit
set_option maxRecDepth 100000
set_option maxHeartbeats 4000000

theorem fillByte_any {base N0 g n : Nat} {T : Nat → Kd} {st : Nat → Nat} {w : World} (h : BkI bkT base N0 g n T st w) (h0 : st 1 = 0) (hnum : ∀ x ∈ (T 1).2, x.num < numTop) (hm : (T 1).2.length ≤ 1000000) :
    Calls Tryz.prog 56 #[.pointer (some ⟨g, 0, none⟩)] w fun e w' => e = .returned (.tuple #[]) ∧ Below base w w' ∧ BkI bkT base N0 g n T (upd st 1 1) w' := by
  obtain ⟨M, hM⟩ : ∃ m, m = (T 1).2.length := ⟨_, rfl⟩
  obtain ⟨ha, hc, hva⟩ : ∃ a c, (T 1).1 = .slice a M c := by
    obtain ⟨a, c, e, _⟩ := (h.hdr 1).form
    exact ⟨a, c, by rw [hM]; exact e⟩
  rw [← hM] at hm
  have hcg : w.cell? ⟨g, 1, none⟩ = some (.slice ha M hc) := by rw [cell_of_row _ _ _ _ _ _ h.row, ← hva]; rfl
  have hM' := Lib.hid hM
  have hnum' := Lib.hid hnum
  have h' := Lib.hid h
  have h0' := Lib.hid h0
  have hva' := Lib.hid hva
  clear hM hnum h h0 hva
  go_enter Tryz.func56, Tryz.ntmps56
  go_wp2_with fail
  go_loopw [2, 3, 4] (fun i _ _ wr => ∃ k : Nat, i = .int .i64 k ∧ k ≤ M ∧ Hid (FillI bkT base N0 (T 1) w 1 k wr)) (fun i _ _ _ => M - (intOf i).toNat)
  case atStart => exact ⟨0, rfl, by omega, Lib.hid (FillI.start h'.out 1 h0'.out)⟩
  case round =>
    obtain ⟨k, rfl, hk, hI⟩ := hrel
    have hcg2 := h'.out.cellg 1 hI.out.off hcg
    by_cases hkM : k < M
    · have hki : (k : Int) < (M : Int) := by omega
      obtain ⟨x, hx⟩ : ∃ x, (T 1).2[k]? = some x := ⟨_, List.getElem?_eq_getElem (by rw [← hM'.out]; exact hkM)⟩
      obtain ⟨hb, hcap, e1, ec, q0, q1, q2, _⟩ := hdr_cells (h'.out.hdr_off 1 hI.out.off) hx
      rw [hva'.out] at e1
      injection e1 with e1 elen e3
      clear elen
      subst e1 e3
      rw [← hM'.out] at ec
      obtain ⟨⟨xs, hown⟩, hlong⟩ := hI.out.old k x hx (Nat.le_refl _)
      rw [hlong] at q1
      obtain ⟨len, hlen⟩ : ∃ z, z = x.len := ⟨_, rfl⟩
      obtain ⟨num, hnm⟩ : ∃ z, z = x.num := ⟨_, rfl⟩
      have hlenb : len ≤ 1000000 := by rw [hlen]; exact (h'.out.lst 1 x (List.mem_of_getElem? hx)).2
      have hn100 : num < numTop := by rw [hnm]; exact hnum'.out x (List.mem_of_getElem? hx)
      obtain ⟨la, lc, hsl, hlc, hform⟩ := hown.form
      rw [← hlen] at hsl
      rw [← hlen] at hown hlc
      rw [hsl] at q0 hown hform
      rw [← hnm] at q2
      have hx' := Lib.hid hx
      have hsl' := Lib.hid hsl
      have hlong' := Lib.hid hlong
      have hlen' := Lib.hid hlen
      have hnm' := Lib.hid hnm
      clear hx hsl hlong hlen hnm
      obtain ⟨Wl, hWl⟩ : ∃ W, W = wr.alloc (.cells #[.slice la len lc, .slice none 0 0, .int .i64 (num : Int)] 143) := ⟨_, rfl⟩
      obtain ⟨hl, hhl⟩ : ∃ z, z = wr.heap.size := ⟨_, rfl⟩
      have hEl : Ext wr Wl := by rw [hWl]; exact (Ext.refl _).alloc _
      have hrl : Wl.heap[hl]? = some (.cells #[.slice la len lc, .slice none 0 0, .int .i64 (num : Int)] 143 (0, 0)) := by rw [hWl, hhl]; exact heap_alloc_new wr _
      have hlown : ∀ q, (Value.slice la len lc).ownBlock = some q → q ≠ hl := fun q hq e => by have := (hown.lt q hq).2; omega
      have hownl := hown.ext hEl
      have hWl' := Lib.hid hWl
      have hhl' := Lib.hid hhl
      have hown' := Lib.hid hownl
      have hlown' := Lib.hid hlown
      have hrl' := Lib.hid hrl
      have htab : Hid (∀ w2, OffB (fun q => (Value.slice la len lc).ownBlock = some q) Wl w2 → ∀ W, Ext w2 W → TabW W) := Lib.hid (fun w2 hO2 => tab_of h'.out.tab h'.out.base_le hI.out.off (fun q hq => h'.out.fpb 1 q (.inr hq)) hEl hO2 (fun q hq => (hown.lt q hq).1))
      have hEl' := Lib.hid hEl
      clear hWl hhl hown hownl hlown hrl hEl
      go_upto_region 4 with fail
      rw [← hWl'.out, ← hhl'.out]
      go_wp2_with fail
      go_loopw [4] (fun i w2 => ∃ k2 : Nat, i = .int .i64 k2 ∧ k2 ≤ len ∧ Hid (OwnC w2 base 5 1 (.slice la len lc) len (fillL (mkByte num) xs k2)) ∧ Hid (OffB (fun q => (Value.slice la len lc).ownBlock = some q) Wl w2)) (fun i _ => len - (intOf i).toNat)
      case atStart => exact ⟨0, rfl, by omega, Lib.hid (by rw [fillL_zero]; exact hown'.out), Lib.hid (OffB.refl _)⟩
      case round =>
        obtain ⟨k2, rfl, hk2, hown2, hO2⟩ := hrel
        have l0 : wr.cell? ⟨hl, 0, none⟩ = some (.slice la len lc) := hO2.out.cell (by rw [cell_of_row _ _ _ _ _ _ hrl'.out]; rfl) (fun e => hlown'.out hl e rfl)
        by_cases hlt : k2 < len
        · have hlti : (k2 : Int) < (len : Int) := by omega
          have hT : Hid (∀ W, Ext wr W → TabW W) := Lib.hid (htab.out _ hO2.out)
          obtain ⟨b, hb2⟩ : ∃ b, la = some ⟨b, 0, none⟩ := by
            rcases hform with e | e
            · injection e with _ e _
              omega
            · exact e
          subst hb2
          have hput := Lib.hid (fill_put hown2.out hlt (c := mkByte num) rfl)
          have hS : Hid (∀ w', OffB (fun q => (Value.slice (some ⟨b, 0, none⟩) len lc).ownBlock = some q) wr w' → w'.cell? ⟨hl, 0, none⟩ = some (.slice (some ⟨b, 0, none⟩) len lc) ∧ w'.cell? ⟨hl, 2, none⟩ = some (.int .i64 (num : Int))) := Lib.hid (fun w' hO => ⟨(hO2.out.trans hO).cell (by rw [cell_of_row _ _ _ _ _ _ hrl'.out]; rfl) (fun e => hlown'.out hl e rfl), (hO2.out.trans hO).cell (by rw [cell_of_row _ _ _ _ _ _ hrl'.out]; rfl) (fun e => hlown'.out hl e rfl)⟩)
          clear q0 q1 q2
          obtain ⟨v, hv⟩ : ∃ v : Int, v = ((1 + num % 250 : Nat) : Int) := ⟨_, rfl⟩
          have hmark : Hid (∀ W, Ext wr W → Calls Tryz.prog 126 #[.int .i64 (num : Int)] W fun e w' => e = .returned (.int .u8 v) ∧ Ext W w') := Lib.hid (fun W hE => by rw [hv]; exact markByte_any W num (Nat.lt_of_lt_of_le hn100 (by decide)))
          have hput2 : Hid (∀ w', Ext wr w' → (∃ u, w'.cell? ⟨b, k2, none⟩ = some u) ∧ w'.frozen? ⟨b, k2, none⟩ = false ∧ OwnC (w'.setCell ⟨b, k2, none⟩ (.int .u8 v)) base 5 1 (.slice (some ⟨b, 0, none⟩) len lc) len (fillL (mkByte num) xs (k2 + 1)) ∧ OffB (fun q => (Value.slice (some ⟨b, 0, none⟩) len lc).ownBlock = some q) wr (w'.setCell ⟨b, k2, none⟩ (.int .u8 v))) := Lib.hid (fun w' hE => by
            obtain ⟨h1, h2, h3⟩ := hput.out w' hE
            rw [Nat.mul_one] at h1 h2 h3
            rw [show w'.setCells b k2 (mkByte num) = w'.setCell ⟨b, k2, none⟩ (.int .u8 v) by rw [hv]; rfl] at h2 h3
            have h4 := h1 0 (show 0 < 1 from Nat.zero_lt_one)
            exact ⟨Option.isSome_iff_exists.1 h4.1, h4.2, h2, h3⟩)
          clear hv hput
          go_upto_region 7 with fail
          go_region_held3 (fun w' => w'.cell? ⟨hl, 0, none⟩ = some (.slice (some ⟨b, 0, none⟩) len lc) ∧ w'.cell? ⟨hl, 2, none⟩ = some (.int .i64 (num : Int))) ((refine hS.out _ ?_; first | exact .of_ext (Ext.refl _).drew | exact .of_ext ((Ext.refl _).drew.trans hE3) | exact hst.2)) (first | (go_at_call 126; refine (hmark.out _ (by first | exact (Ext.refl _).drew | exact Ext.refl _)).mono ?_; rintro e w3 ⟨rfl, hE3⟩; obtain ⟨⟨u, hu⟩, huf, hst⟩ := hput2.out _ ((Ext.refl _).drew.trans hE3)) | fail)
          all_goals
            go_wp2_with fail
            go_roundw
            case rel => exact ⟨k2 + 1, by go_num, by omega, Lib.hid hst.1, Lib.hid (hO2.out.trans hst.2)⟩
            case measure => simp [intOf]; omega
        · have hlti : ¬ (k2 : Int) < (len : Int) := by omega
          have hke : k2 = len := by omega
          have hnext : Hid (FillI bkT base N0 (T 1) w 1 (k + 1) wr) := Lib.hid (FillI.next h'.out hI.out hx'.out (by rw [hsl'.out]; exact (OffB.of_ext hEl'.out).trans hO2.out) (by
            have h1 := hown2.out
            rw [hke, fill_end _ _ _ hown'.out.1] at h1
            refine ⟨?_, hlong'.out⟩
            rw [hsl'.out, ← hlen'.out, ← hnm'.out]
            exact h1))
          clear hke
          go_wp2_with fail
          go_roundw
          case rel => exact ⟨k + 1, by go_num, by omega, hnext⟩
          case measure => simp [intOf]; omega
    · have hki : ¬ (k : Int) < (M : Int) := by omega
      have hkM2 : k = M := by omega
      have hfin := Lib.hid (FillI.fin h'.out (j := 1) (by rw [← hM'.out, ← hkM2]; exact hI.out))
      clear hkM2
      go_wp2_with fail
      go_end0
      exact ⟨rfl, hfin.out⟩
end Go.Proofs.YtmopjmhapeinjaaGreatDoor

/- A book's lists, made longer one by one; looked at. No condition. -/
namespace Go.Proofs.YtmopjmhapeinjaaGreatDoor
open Go.RowKit
theorem AppK.keep {w w' : World} {base : Nat} {e : TypeId} {size : Nat} {v v' : Value} {n : Nat} {xs cs : List Value} (h : AppK w w' base e size v v' n xs cs) {u : Value} {m : Nat} {ys : List Value} (hu : OwnC w base e size u m ys) (hm : m ≤ n) : OwnC w' base e size u m ys := by
  by_cases he : u.ownBlock = v.ownBlock
  · exact h.old u m ys he hu hm
  · exact hu.offB h.off (fun q hq hq' => he (hq.trans hq'.symm))
theorem flat_set3 : ∀ (hs : List Hd) (k : Nat) (y : Hd) (lv : Value), hs[k]? = some y → (hs.flatMap Hd.cs).set (k * 3 + 1) lv = (hs.set k ⟨y.sl, y.len, y.num, lv⟩).flatMap Hd.cs
  | [], _, _, _, h => by simp at h
  | x :: hs, 0, y, lv, h => by
    injection h with h
    subst h
    rfl
  | x :: hs, k + 1, y, lv, h => by
    rw [List.set_cons_succ, List.flatMap_cons, List.flatMap_cons, ← flat_set3 hs k y lv (by simpa using h)]
    show (x.sl :: x.long :: Value.int .i64 (x.num : Int) :: (hs.flatMap Hd.cs)).set ((k + 1) * 3 + 1) lv = _
    rw [show (k + 1) * 3 + 1 = k * 3 + 1 + 1 + 1 + 1 by omega, List.set_cons_succ, List.set_cons_succ, List.set_cons_succ]
    rfl
theorem take_set {α : Type} : ∀ (l : List α) (n o : Nat) (v : α), o < n → (l.take n).set o v = (l.set o v).take n
  | [], _, _, _, _ => by simp
  | _ :: _, 0, _, _, h => by omega
  | a :: l, n + 1, 0, v, _ => rfl
  | a :: l, n + 1, o + 1, v, h => by
    rw [List.take_succ_cons, List.set_cons_succ, List.set_cons_succ, List.take_succ_cons, take_set l n o v (by omega)]
theorem hdr_set {w : World} {base : Nat} {ht : TypeId} {hb n c : Nat} {hs : List Hd} (h : OwnC w base ht 3 (.slice (some ⟨hb, 0, none⟩) n c) n (hs.flatMap Hd.cs)) (hn : n = hs.length) {k : Nat} {y : Hd} (hy : hs[k]? = some y) (lv : Value) :
    OwnC (w.setCell ⟨hb, k * 3 + 1, none⟩ lv) base ht 3 (.slice (some ⟨hb, 0, none⟩) n c) n ((hs.set k ⟨y.sl, y.len, y.num, lv⟩).flatMap Hd.cs) := by
  have hk : k < n := by rw [hn]; exact (List.getElem?_eq_some_iff.1 hy).1
  obtain ⟨hl, ⟨e, _⟩ | ⟨g, cap, cur, e, h2, h3, h4, h5, h6, h7⟩⟩ := h
  · injection e with e; cases e
  · injection e with e1 _ e3
    injection e1 with e1
    injection e1 with e1
    subst e1 e3
    refine ⟨by rw [← flat_set3 hs k y lv hy, List.length_set]; exact hl, .inr ⟨hb, c, _, rfl, h2, by rw [setCell_eq_setRow _ _ _ _ _ _ _ h3, setRow_heap _ _ _ _ _ _ h3], h4, h5, by rw [Array.size_setIfInBounds]; exact h6, ?_⟩⟩
    rw [Array.toList_setIfInBounds, ← take_set _ _ _ _ (by omega), h7]
    exact flat_set3 hs k y lv hy
/-- The first k lists have their longer slices. -/
structure GrowI (t : BkT) (base N0 : Nat) (p : Kd) (w : World) (j k : Nat) (hs : List Hd) (wr : World) : Prop where
  off : OffB (FP p) w wr
  len : hs.length = p.2.length
  hdr : OwnC wr base (t.ht j) 3 p.1 p.2.length (hs.flatMap Hd.cs)
  all : ∀ i x, p.2[i]? = some x → ∃ y, hs[i]? = some y ∧ y.sl = x.sl ∧ y.len = x.len ∧ y.num = x.num ∧ (i < k → StP t j N0 base 2 wr y) ∧ (k ≤ i → y = x ∧ StP t j N0 base 1 wr x)
section
variable {t : BkT} {base N0 g n : Nat} {T : Nat → Kd} {st : Nat → Nat} {w : World}
theorem GrowI.start (h : BkI t base N0 g n T st w) (j : Nat) (h1 : st j = 1) : GrowI t base N0 (T j) w j 0 (T j).2 w :=
  ⟨OffB.refl _, rfl, h.hdr j, fun i x hx => ⟨x, hx, rfl, rfl, rfl, fun hi => absurd hi (Nat.not_lt_zero _), fun _ => ⟨rfl, by have := (h.lst j x (List.mem_of_getElem? hx)).1; rwa [h1] at this⟩⟩⟩
theorem GrowI.cellg (h : BkI t base N0 g n T st w) {j k : Nat} {hs : List Hd} {wr : World} (hI : GrowI t base N0 (T j) w j k hs wr) {i : Nat} {v : Value} (hc : w.cell? ⟨g, i, none⟩ = some v) : wr.cell? ⟨g, i, none⟩ = some v :=
  hI.off.cell hc (fun hq => h.sepg j hq)
/-- One list more: in a world that has turned that list's block and the header's cell alone. -/
theorem GrowI.next (h : BkI t base N0 g n T st w) {j k : Nat} {hs : List Hd} {wr w2 : World} (hI : GrowI t base N0 (T j) w j k hs wr) {x : Hd} (hx : (T j).2[k]? = some x) {hb c : Nat} (hv : (T j).1 = .slice (some ⟨hb, 0, none⟩) (T j).2.length c) (hO : OffB (fun q => x.sl.ownBlock = some q) wr w2) (lv : Value)
    (h1 : OwnC w2 base (t.et j) (t.z j) x.sl x.len (reps (t.mark j x.num) x.len)) (h2 : OwnC w2 base (t.et j) (t.z j) lv (x.len + 40) (reps (t.mark j x.num) (x.len + 40))) (h3 : ∀ q, lv.ownBlock = some q → x.sl.ownBlock = some q ∨ wr.heap.size ≤ q) :
    GrowI t base N0 (T j) w j (k + 1) (hs.set k ⟨x.sl, x.len, x.num, lv⟩) (w2.setCell ⟨hb, k * 3 + 1, none⟩ lv) := by
  have hxm : x.sl ∈ sls (T j) := List.mem_map_of_mem (List.mem_of_getElem? hx)
  have hbF : (T j).1.ownBlock = some hb := by rw [hv]; rfl
  have hNr : N0 ≤ wr.heap.size := Nat.le_trans h.big hI.off.size
  have hbN : hb < N0 := h.fpN j hb (.inl hbF)
  have hsx : ∀ q, x.sl.ownBlock = some q → q ≠ hb := fun q hq e => h.seph j _ hxm hb hbF (by rw [← e]; exact hq)
  have hO2 : OffB (fun q => x.sl.ownBlock = some q ∨ q = hb) wr (w2.setCell ⟨hb, k * 3 + 1, none⟩ lv) := (hO.mono fun q hq => .inl hq).setCell (p := ⟨hb, k * 3 + 1, none⟩) (.inr rfl) _
  have hset : OffB (fun q => q = hb) w2 (w2.setCell ⟨hb, k * 3 + 1, none⟩ lv) := (OffB.refl (B := fun q => q = hb) w2).setCell (p := ⟨hb, k * 3 + 1, none⟩) rfl _
  obtain ⟨y, hy, _, _, _, _, hyx⟩ := hI.all k x hx
  obtain ⟨rfl, _⟩ := hyx (Nat.le_refl _)
  have hkl : k < hs.length := (List.getElem?_eq_some_iff.1 hy).1
  refine ⟨hI.off.trans (hO2.mono fun q hq => ?_), by rw [List.length_set]; exact hI.len, ?_, fun i z hz => ?_⟩
  · rcases hq with hq | rfl
    · exact .inr ⟨_, hxm, hq⟩
    · exact .inl hbF
  · have hh := hI.hdr.offB hO (fun q hq hq' => h.seph j _ hxm q hq hq')
    rw [hv] at hh ⊢
    exact hdr_set hh hI.len.symm hy lv
  · obtain ⟨y', hy', e1, e2, e3, hnew, hold⟩ := hI.all i z hz
    by_cases hik : k = i
    · subst hik
      rw [hx] at hz
      injection hz with hz
      subst hz
      refine ⟨⟨y.sl, y.len, y.num, lv⟩, by rw [List.getElem?_set_self hkl], rfl, rfl, rfl, fun _ => ⟨?_, ?_, fun q hq => ?_⟩, fun hh => by omega⟩
      · exact h1.offB hset (fun q hq e => hsx q hq e)
      · refine h2.offB hset (fun q hq e => ?_)
        rcases h3 q hq with h4 | h4
        · exact hsx q h4 e
        · omega
      · rcases h3 q hq with h4 | h4
        · exact .inl h4
        · exact .inr (by omega)
    · have hsep : ∀ q, z.sl.ownBlock = some q → ¬ (y.sl.ownBlock = some q ∨ q = hb) := fun q hq hB => by
        have h4 : (sls (T j))[i]? = some z.sl := by unfold sls; rw [List.getElem?_map, hz]; rfl
        have h5 : (sls (T j))[k]? = some y.sl := by unfold sls; rw [List.getElem?_map, hx]; rfl
        rcases hB with hB | rfl
        · exact sep_at (h.sepl j) h4 h5 (Ne.symm hik) q hq hB
        · exact h.seph j _ (List.mem_of_getElem? h4) q hbF hq
      have hBN : ∀ q, (y.sl.ownBlock = some q ∨ q = hb) → q < N0 := fun q hq => by
        rcases hq with hq | rfl
        · exact h.fpN j q (.inr ⟨_, hxm, hq⟩)
        · exact hbN
      refine ⟨y', by rw [List.getElem?_set_ne hik]; exact hy', e1, e2, e3, fun hlt => ?_, fun hle => ?_⟩
      · exact (hnew (by omega)).off hO2 (fun q hq => hsep q (by rw [← e1]; exact hq)) hBN
      · obtain ⟨k1, k2⟩ := hold (by omega)
        exact ⟨k1, k2.off hO2 hsep hBN⟩
theorem GrowI.fin (h : BkI t base N0 g n T st w) {j : Nat} {hs : List Hd} {wr : World} (hI : GrowI t base N0 (T j) w j (T j).2.length hs wr) : Below base w wr ∧ BkI t base N0 g n (upd T j ((T j).1, hs)) (upd st j 2) wr := by
  have hb : base ≤ w.heap.size := Nat.le_trans h.gb (Nat.le_trans (Nat.le_of_lt h.gN) h.big)
  have hlen := hI.len
  have hget : ∀ (i : Nat) (y : Hd), hs[i]? = some y → ∃ x, (T j).2[i]? = some x := fun i y hy => ⟨_, List.getElem?_eq_getElem (by rw [← hlen]; exact (List.getElem?_eq_some_iff.1 hy).1)⟩
  have hsl : hs.map Hd.sl = sls (T j) := by
    unfold sls
    refine List.ext_getElem? fun i => ?_
    rw [List.getElem?_map, List.getElem?_map]
    cases hx : (T j).2[i]? with
    | none =>
      rw [List.getElem?_eq_none (by rw [hlen]; exact List.getElem?_eq_none_iff.1 hx)]
      try rfl
    | some x =>
      obtain ⟨y, hy, e, _⟩ := hI.all i x hx
      rw [hy]
      show some y.sl = some x.sl
      rw [e]
  refine ⟨hI.off.below (fun q hq => ?_) hb, h.turn j hI.off hs 2 hsl (by rw [hlen]; exact hI.hdr) (fun y hy => ?_)⟩
  · rcases hq with hq | ⟨v, hv, hq⟩
    · exact ((h.hdr j).lt q hq).1
    · obtain ⟨x, hx, rfl⟩ := List.mem_map.1 hv
      obtain ⟨i, hi⟩ := List.mem_iff_getElem?.1 hx
      obtain ⟨y, _, e, _, _, hnew, _⟩ := hI.all i x hi
      have := (hnew (List.getElem?_eq_some_iff.1 hi).1).1
      rw [e] at this
      exact (this.lt q hq).1
  · obtain ⟨i, hi⟩ := List.mem_iff_getElem?.1 hy
    obtain ⟨x, hx⟩ := hget i y hi
    obtain ⟨y', hy', _, e2, _, hnew, _⟩ := hI.all i x hx
    rw [hi] at hy'
    injection hy' with hy'
    subst hy'
    exact ⟨hnew (List.getElem?_eq_some_iff.1 hx).1, by rw [e2]; exact (h.lst j x (List.mem_of_getElem? hx)).2⟩
end
/-- A row of marks, read. -/
theorem reps_range {w : World} {size n : Nat} {a : Option Addr} {cap : Nat} {c : List Value} (h : RowIs w size (.slice a n cap) n (reps c n)) (hc : c.length = size) (h0 : 0 < n) : ∃ b off, a = some ⟨b, off, none⟩ ∧ n ≤ cap ∧ ∀ k, k < n → w.rangeAt b (off + k * size) c := by
  subst hc
  obtain ⟨b, off, hat⟩ := h.at
  obtain ⟨ha, hn, hd⟩ := hat h0
  refine ⟨b, off, ha, hn, fun k hk j v hv => ?_⟩
  have hj : j < c.length := (List.getElem?_eq_some_iff.1 hv).1
  have h1 : k * c.length + c.length ≤ n * c.length := by
    have := Nat.mul_le_mul_right c.length (show k + 1 ≤ n from hk)
    rwa [Nat.add_mul, Nat.one_mul] at this
  rw [Nat.add_assoc, hd _ (by omega)]
  exact reps_at c n k j v hk hv
end Go.Proofs.YtmopjmhapeinjaaGreatDoor
