/- Several texts in one: BkL BkFRow BkG BkGRow BkORow BkFChange BkGChange BkOChange BkFSaid BkGSaid BkOSaid. No condition. -/
import Derived.Test.YthageoibkeebhaaGreatDoorGrU
import Derived.Test.YthageoibkeebhaaGreatDoorGrRd
import Derived.Deep.RegionHeld3
import Derived.Deep.CutRange
import Derived.Test.YthageoibkeebhaaGreatDoorGrN
import Derived.BigQuiet
/- A book's lists, gone through one by one. No condition. -/
namespace Go.Proofs.YthageoibkeebhaaGreatDoor
open Go.RowKit
theorem hdr_cells {w : World} {base : Nat} {ht : TypeId} {hv : Value} {hs : List Hd} (h : OwnC w base ht 3 hv hs.length (hs.flatMap Hd.cs)) {k : Nat} {x : Hd} (hx : hs[k]? = some x) :
    ∃ hb cap, hv = .slice (some ⟨hb, 0, none⟩) hs.length cap ∧ hs.length ≤ cap ∧ w.cell? ⟨hb, k * 3, none⟩ = some x.sl ∧ w.cell? ⟨hb, k * 3 + 1, none⟩ = some x.long ∧ w.cell? ⟨hb, k * 3 + 2, none⟩ = some (.int .i64 (x.num : Int)) ∧ (∀ j, j < 3 → w.frozen? ⟨hb, k * 3 + j, none⟩ = false) := by
  have hk : k < hs.length := (List.getElem?_eq_some_iff.1 hx).1
  obtain ⟨hl, ⟨_, h0⟩ | ⟨g, cap, cur, rfl, h2, h3, h4, h5, h6, h7⟩⟩ := h
  · omega
  · have hc : ∀ (j : Nat) (v : Value), j < 3 → x.cs[j]? = some v → w.cell? ⟨g, k * 3 + j, none⟩ = some v := fun j v hj hv => by
      rw [cell_of_row _ _ _ cur ht (0, 0) h3]
      have e1 := flatMap_at Hd.cs 3 (by decide) (fun _ => rfl) hs k x hx j hj (k * 3 + j) (by omega)
      have e2 : (cur.toList.take (hs.length * 3))[k * 3 + j]? = cur.toList[k * 3 + j]? := by rw [List.getElem?_take, if_pos (by omega)]
      rw [h7, e1, hv] at e2
      rw [← Array.getElem?_toList]
      exact e2.symm
    have c0 := hc 0 x.sl (by decide) rfl
    refine ⟨g, cap, rfl, h4, by simpa using c0, hc 1 x.long (by decide) rfl, hc 2 _ (by decide) rfl, fun j _ => ?_⟩
    unfold World.frozen?
    rw [h3]
    simp
theorem upd_self {α : Type} (f : Nat → α) (i : Nat) : upd f i (f i) = f := by
  funext j
  unfold upd
  split
  · rename_i h; rw [h]
  · rfl
section
variable {t : BkT} {base N0 g n : Nat} {T : Nat → Kd} {st : Nat → Nat} {w : World}
theorem BkI.hdr_off (h : BkI t base N0 g n T st w) (j : Nat) {wr : World} (hO : OffB (LP (T j)) w wr) : OwnC wr base (t.ht j) 3 (T j).1 (T j).2.length ((T j).2.flatMap Hd.cs) :=
  (h.hdr j).offB hO (fun q hq ⟨v, hv, hvq⟩ => h.seph j v hv q hq hvq)
theorem BkI.cellg (h : BkI t base N0 g n T st w) (j : Nat) {wr : World} (hO : OffB (LP (T j)) w wr) {i : Nat} {v : Value} (hc : w.cell? ⟨g, i, none⟩ = some v) : wr.cell? ⟨g, i, none⟩ = some v :=
  hO.cell hc (fun hq => h.sepg j (.inr hq))
/-- The first k lists are written over. -/
structure FillI (t : BkT) (base N0 : Nat) (p : Kd) (w : World) (j k : Nat) (wr : World) : Prop where
  off : OffB (LP p) w wr
  new : ∀ i x, p.2[i]? = some x → i < k → StP t j N0 base 1 wr x
  old : ∀ i x, p.2[i]? = some x → k ≤ i → StP t j N0 base 0 wr x
theorem FillI.start (h : BkI t base N0 g n T st w) (j : Nat) (h0 : st j = 0) : FillI t base N0 (T j) w j 0 w :=
  ⟨OffB.refl _, fun _ _ _ hi => absurd hi (Nat.not_lt_zero _), fun i x hx _ => by have := (h.lst j x (List.mem_of_getElem? hx)).1; rwa [h0] at this⟩
theorem sep_at {l : List Value} (h : l.Pairwise Sep) {i k : Nat} {u v : Value} (hu : l[i]? = some u) (hv : l[k]? = some v) (hik : i ≠ k) : Sep u v := by
  obtain ⟨h1, rfl⟩ := List.getElem?_eq_some_iff.1 hu
  obtain ⟨h2, rfl⟩ := List.getElem?_eq_some_iff.1 hv
  rcases Nat.lt_or_gt_of_ne hik with hlt | hlt
  · exact List.pairwise_iff_getElem.1 h i k h1 h2 hlt
  · exact (List.pairwise_iff_getElem.1 h k i h2 h1 hlt).symm
theorem FillI.next (h : BkI t base N0 g n T st w) {j k : Nat} {wr wr' : World} (hI : FillI t base N0 (T j) w j k wr) {x : Hd} (hx : (T j).2[k]? = some x) (hO : OffB (fun q => x.sl.ownBlock = some q) wr wr') (hs : StP t j N0 base 1 wr' x) : FillI t base N0 (T j) w j (k + 1) wr' := by
  have hxm : x.sl ∈ sls (T j) := List.mem_map_of_mem (List.mem_of_getElem? hx)
  have other : ∀ i y s, (T j).2[i]? = some y → i ≠ k → StP t j N0 base s wr y → StP t j N0 base s wr' y := fun i y s hy hik hst => by
    refine hst.off hO (fun q hq hq' => ?_) (fun q hq => h.fpN j q (.inr ⟨_, hxm, hq⟩))
    have h1 : (sls (T j))[i]? = some y.sl := by unfold sls; rw [List.getElem?_map, hy]; rfl
    have h2 : (sls (T j))[k]? = some x.sl := by unfold sls; rw [List.getElem?_map, hx]; rfl
    exact sep_at (h.sepl j) h1 h2 hik q hq hq'
  refine ⟨hI.off.trans (hO.mono fun q hq => ⟨_, hxm, hq⟩), fun i y hy hik => ?_, fun i y hy hik => other i y 0 hy (by omega) (hI.old i y hy (by omega))⟩
  rcases Nat.lt_or_ge i k with h1 | h1
  · exact other i y 1 hy (by omega) (hI.new i y hy h1)
  · obtain rfl : i = k := by omega
    rw [hx] at hy
    injection hy with hy
    rw [← hy]; exact hs
theorem FillI.fin (h : BkI t base N0 g n T st w) {j : Nat} {wr : World} (hI : FillI t base N0 (T j) w j (T j).2.length wr) : Below base w wr ∧ BkI t base N0 g n T (upd st j 1) wr := by
  have hb : base ≤ w.heap.size := Nat.le_trans h.gb (Nat.le_trans (Nat.le_of_lt h.gN) h.big)
  refine ⟨hI.off.below (fun q ⟨v, hv, hq⟩ => ?_) hb, ?_⟩
  · obtain ⟨x, hx, rfl⟩ := List.mem_map.1 hv
    obtain ⟨i, hi⟩ := List.mem_iff_getElem?.1 hx
    exact ((hI.new i x hi (List.getElem?_eq_some_iff.1 hi).1).1.lt q hq).1
  · have := h.turn j (hI.off.mono fun q hq => .inr hq) (T j).2 1 rfl (h.hdr_off j hI.off) (fun x hx => by
      obtain ⟨i, hi⟩ := List.mem_iff_getElem?.1 hx
      exact ⟨hI.new i x hi (List.getElem?_eq_some_iff.1 hi).1, (h.lst j x hx).2⟩)
    rwa [show ((T j).1, (T j).2) = T j from rfl, upd_self] at this
end
theorem fill_put {wr : World} {base : Nat} {e : TypeId} {z n k b cap : Nat} {c xs : List Value} (h : OwnC wr base e z (.slice (some ⟨b, 0, none⟩) n cap) n (fillL c xs k)) (hk : k < n) (hc : c.length = z) : ∀ w', Ext wr w' → w'.there b (k * z) c.length ∧ OwnC (w'.setCells b (k * z) c) base e z (.slice (some ⟨b, 0, none⟩) n cap) n (fillL c xs (k + 1)) ∧ OffB (fun q => (Value.slice (some ⟨b, 0, none⟩) n cap).ownBlock = some q) wr (w'.setCells b (k * z) c) := fun w' hE => by
  subst hc
  obtain ⟨h1, h2⟩ := (h.ext hE).put (g := b) rfl hk (cs := c) rfl
  rw [fill_step] at h2
  exact ⟨h1, h2, OffB.setCells (B := fun q => (Value.slice (some ⟨b, 0, none⟩) n cap).ownBlock = some q) (.of_ext hE) (b := b) rfl _ _⟩
end Go.Proofs.YthageoibkeebhaaGreatDoor

/- fillRow: all lists are written over. No condition. -/
namespace Go.Proofs.YthageoibkeebhaaGreatDoor
open Go.RowKit
set_option maxRecDepth 100000
set_option maxHeartbeats 4000000
theorem fillRow_one (n : Nat) : (mkRowL n).toArray.all (·.oneCell') = true := by kernel_rfl
theorem fillRow_any {base N0 g n : Nat} {T : Nat → Kd} {st : Nat → Nat} {w : World} (h : BkI bkT base N0 g n T st w) (h0 : st 6 = 0) (hnum : ∀ x ∈ (T 6).2, x.num < numTop) (hm : (T 6).2.length ≤ 1000000) :
    Calls Tryz.prog 63 #[.pointer (some ⟨g, 0, none⟩)] w fun e w' => e = .returned (.tuple #[]) ∧ Below base w w' ∧ BkI bkT base N0 g n T (upd st 6 1) w' := by
  obtain ⟨M, hM⟩ : ∃ m, m = (T 6).2.length := ⟨_, rfl⟩
  obtain ⟨ha, hc, hva⟩ : ∃ a c, (T 6).1 = .slice a M c := by
    obtain ⟨a, c, e, _⟩ := (h.hdr 6).form
    exact ⟨a, c, by rw [hM]; exact e⟩
  rw [← hM] at hm
  have hcg : w.cell? ⟨g, 6, none⟩ = some (.slice ha M hc) := by rw [cell_of_row _ _ _ _ _ _ h.row, ← hva]; rfl
  have hM' := Lib.hid hM
  have hnum' := Lib.hid hnum
  have h' := Lib.hid h
  have h0' := Lib.hid h0
  have hva' := Lib.hid hva
  clear hM hnum h h0 hva
  go_enter Tryz.func63, Tryz.ntmps63
  go_wp2_with fail
  go_loopw [2, 3, 4] (fun i _ _ wr => ∃ k : Nat, i = .int .i64 k ∧ k ≤ M ∧ Hid (FillI bkT base N0 (T 6) w 6 k wr)) (fun i _ _ _ => M - (intOf i).toNat)
  case atStart => exact ⟨0, rfl, by omega, Lib.hid (FillI.start h'.out 6 h0'.out)⟩
  case round =>
    obtain ⟨k, rfl, hk, hI⟩ := hrel
    have hcg2 := h'.out.cellg 6 hI.out.off hcg
    by_cases hkM : k < M
    · have hki : (k : Int) < (M : Int) := by omega
      obtain ⟨x, hx⟩ : ∃ x, (T 6).2[k]? = some x := ⟨_, List.getElem?_eq_getElem (by rw [← hM'.out]; exact hkM)⟩
      obtain ⟨hb, hcap, e1, ec, q0, q1, q2, _⟩ := hdr_cells (h'.out.hdr_off 6 hI.out.off) hx
      rw [hva'.out] at e1
      injection e1 with e1 elen e3
      clear elen
      subst e1 e3
      rw [← hM'.out] at ec
      obtain ⟨⟨xs, hown⟩, hlong⟩ := hI.out.old k x hx (Nat.le_refl _)
      rw [hlong] at q1
      obtain ⟨len, hlen⟩ : ∃ z, z = x.len := ⟨_, rfl⟩
      obtain ⟨num, hnm⟩ : ∃ z, z = x.num := ⟨_, rfl⟩
      have hlenb : len ≤ 1000000 := by rw [hlen]; exact (h'.out.lst 6 x (List.mem_of_getElem? hx)).2
      have hn100 : num < numTop := by rw [hnm]; exact hnum'.out x (List.mem_of_getElem? hx)
      obtain ⟨la, lc, hsl, hlc, hform⟩ := hown.form
      rw [← hlen] at hsl
      rw [← hlen] at hown hlc
      rw [hsl] at q0 hown hform
      rw [← hnm] at q2
      have hx' := Lib.hid hx
      have hsl' := Lib.hid hsl
      have hlong' := Lib.hid hlong
      have hlen' := Lib.hid hlen
      have hnm' := Lib.hid hnm
      clear hx hsl hlong hlen hnm
      obtain ⟨Wl, hWl⟩ : ∃ W, W = wr.alloc (.cells #[.slice la len lc, .slice none 0 0, .int .i64 (num : Int)] 125) := ⟨_, rfl⟩
      obtain ⟨hl, hhl⟩ : ∃ z, z = wr.heap.size := ⟨_, rfl⟩
      have hEl : Ext wr Wl := by rw [hWl]; exact (Ext.refl _).alloc _
      have hrl : Wl.heap[hl]? = some (.cells #[.slice la len lc, .slice none 0 0, .int .i64 (num : Int)] 125 (0, 0)) := by rw [hWl, hhl]; exact heap_alloc_new wr _
      have hlown : ∀ q, (Value.slice la len lc).ownBlock = some q → q ≠ hl := fun q hq e => by have := (hown.lt q hq).2; omega
      have hownl := hown.ext hEl
      have hWl' := Lib.hid hWl
      have hhl' := Lib.hid hhl
      have hown' := Lib.hid hownl
      have hlown' := Lib.hid hlown
      have hrl' := Lib.hid hrl
      have htab : Hid (∀ w2, OffB (fun q => (Value.slice la len lc).ownBlock = some q) Wl w2 → ∀ W, Ext w2 W → TabW W) := Lib.hid (fun w2 hO2 => tab_of h'.out.tab h'.out.base_le hI.out.off (fun q hq => h'.out.fpb 6 q (.inr hq)) hEl hO2 (fun q hq => (hown.lt q hq).1))
      have hEl' := Lib.hid hEl
      clear hWl hhl hown hownl hlown hrl hEl
      go_upto_region 4 with fail
      rw [← hWl'.out, ← hhl'.out]
      go_wp2_with fail
      go_loopw [4] (fun i w2 => ∃ k2 : Nat, i = .int .i64 k2 ∧ k2 ≤ len ∧ Hid (OwnC w2 base 84 2 (.slice la len lc) len (fillL (mkRowL num) xs k2)) ∧ Hid (OffB (fun q => (Value.slice la len lc).ownBlock = some q) Wl w2)) (fun i _ => len - (intOf i).toNat)
      case atStart => exact ⟨0, rfl, by omega, Lib.hid (by rw [fillL_zero]; exact hown'.out), Lib.hid (OffB.refl _)⟩
      case round =>
        obtain ⟨k2, rfl, hk2, hown2, hO2⟩ := hrel
        have l0 : wr.cell? ⟨hl, 0, none⟩ = some (.slice la len lc) := hO2.out.cell (by rw [cell_of_row _ _ _ _ _ _ hrl'.out]; rfl) (fun e => hlown'.out hl e rfl)
        by_cases hlt : k2 < len
        · have hlti : (k2 : Int) < (len : Int) := by omega
          have hT : Hid (∀ W, Ext wr W → TabW W) := Lib.hid (htab.out _ hO2.out)
          obtain ⟨b, hb2⟩ : ∃ b, la = some ⟨b, 0, none⟩ := by
            rcases hform with e | e
            · injection e with _ e _
              omega
            · exact e
          subst hb2
          have hput := Lib.hid (fill_put hown2.out hlt (c := mkRowL num) rfl)
          have hS : Hid (∀ w', OffB (fun q => (Value.slice (some ⟨b, 0, none⟩) len lc).ownBlock = some q) wr w' → w'.cell? ⟨hl, 0, none⟩ = some (.slice (some ⟨b, 0, none⟩) len lc) ∧ w'.cell? ⟨hl, 2, none⟩ = some (.int .i64 (num : Int))) := Lib.hid (fun w' hO => ⟨(hO2.out.trans hO).cell (by rw [cell_of_row _ _ _ _ _ _ hrl'.out]; rfl) (fun e => hlown'.out hl e rfl), (hO2.out.trans hO).cell (by rw [cell_of_row _ _ _ _ _ _ hrl'.out]; rfl) (fun e => hlown'.out hl e rfl)⟩)
          clear q0 q1 q2
          obtain ⟨C, hC⟩ : ∃ C, C = (mkRowL num).toArray := ⟨_, rfl⟩
          have hmark : Hid (∀ W, Ext wr W → Calls Tryz.prog 124 #[.int .i64 (num : Int)] W fun e w' => e = .returned (.agg C) ∧ Ext W w') := Lib.hid (fun W hE => by rw [hC]; exact markRow_any W num hn100 (fun W' hE' => hT.out W' (hE.trans hE')))
          have hCl : C.toList = mkRowL num := by rw [hC]
          have hCs : C.size = 2 := by rw [hC]; rfl
          have hC1 : Hid (∀ v ∈ C.toList, v.oneCell' = true) := Lib.hid (by rw [hC]; exact fun v hv => Array.all_eq_true_iff_forall_mem.1 (fillRow_one num) v (by simpa using hv))
          have hput2 : Hid (∀ w', Ext wr w' → w'.there b (k2 * 2) C.toList.length ∧ OwnC (w'.setCells b (k2 * 2) C.toList) base 84 2 (.slice (some ⟨b, 0, none⟩) len lc) len (fillL (mkRowL num) xs (k2 + 1)) ∧ OffB (fun q => (Value.slice (some ⟨b, 0, none⟩) len lc).ownBlock = some q) wr (w'.setCells b (k2 * 2) C.toList)) := Lib.hid (by rw [hCl]; exact hput.out)
          clear hC hCl hput
          go_upto_region 7 with fail
          go_region_held3 (fun w' => w'.cell? ⟨hl, 0, none⟩ = some (.slice (some ⟨b, 0, none⟩) len lc) ∧ w'.cell? ⟨hl, 2, none⟩ = some (.int .i64 (num : Int))) ((refine hS.out _ ?_; first | exact .of_ext (Ext.refl _).drew | exact .of_ext ((Ext.refl _).drew.trans hE3) | exact hst.2.2)) (first | (go_at_call 124; refine (hmark.out _ (by first | exact (Ext.refl _).drew | exact Ext.refl _)).mono ?_; rintro e w3 ⟨rfl, hE3⟩; have hst := hput2.out _ ((Ext.refl _).drew.trans hE3)) | (rw [run_storeCells_mid _ b (k2 * 2) C.toList hst.1 hC1.out]; go_simp) | fail)
          all_goals
            go_wp2_with fail
            go_roundw
            case rel => exact ⟨k2 + 1, by go_num, by omega, Lib.hid hst.2.1, Lib.hid (hO2.out.trans hst.2.2)⟩
            case measure => simp [intOf]; omega
        · have hlti : ¬ (k2 : Int) < (len : Int) := by omega
          have hke : k2 = len := by omega
          have hnext : Hid (FillI bkT base N0 (T 6) w 6 (k + 1) wr) := Lib.hid (FillI.next h'.out hI.out hx'.out (by rw [hsl'.out]; exact (OffB.of_ext hEl'.out).trans hO2.out) (by
            have h1 := hown2.out
            rw [hke, fill_end _ _ _ hown'.out.1] at h1
            refine ⟨?_, hlong'.out⟩
            rw [hsl'.out, ← hlen'.out, ← hnm'.out]
            exact h1))
          clear hke
          go_wp2_with fail
          go_roundw
          case rel => exact ⟨k + 1, by go_num, by omega, hnext⟩
          case measure => simp [intOf]; omega
    · have hki : ¬ (k : Int) < (M : Int) := by omega
      have hkM2 : k = M := by omega
      have hfin := Lib.hid (FillI.fin h'.out (j := 6) (by rw [← hM'.out, ← hkM2]; exact hI.out))
      clear hkM2
      go_wp2_with fail
      go_end0
      exact ⟨rfl, hfin.out⟩
end Go.Proofs.YthageoibkeebhaaGreatDoor

/- A book's lists, made longer one by one; looked at. No condition. -/
namespace Go.Proofs.YthageoibkeebhaaGreatDoor
open Go.RowKit
theorem AppK.keep {w w' : World} {base : Nat} {e : TypeId} {size : Nat} {v v' : Value} {n : Nat} {xs cs : List Value} (h : AppK w w' base e size v v' n xs cs) {u : Value} {m : Nat} {ys : List Value} (hu : OwnC w base e size u m ys) (hm : m ≤ n) : OwnC w' base e size u m ys := by
  by_cases he : u.ownBlock = v.ownBlock
  · exact h.old u m ys he hu hm
  · exact hu.offB h.off (fun q hq hq' => he (hq.trans hq'.symm))
theorem flat_set3 : ∀ (hs : List Hd) (k : Nat) (y : Hd) (lv : Value), hs[k]? = some y → (hs.flatMap Hd.cs).set (k * 3 + 1) lv = (hs.set k ⟨y.sl, y.len, y.num, lv⟩).flatMap Hd.cs
  | [], _, _, _, h => by simp at h
  | x :: hs, 0, y, lv, h => by
    injection h with h
    subst h
    rfl
  | x :: hs, k + 1, y, lv, h => by
    rw [List.set_cons_succ, List.flatMap_cons, List.flatMap_cons, ← flat_set3 hs k y lv (by simpa using h)]
    show (x.sl :: x.long :: Value.int .i64 (x.num : Int) :: (hs.flatMap Hd.cs)).set ((k + 1) * 3 + 1) lv = _
    rw [show (k + 1) * 3 + 1 = k * 3 + 1 + 1 + 1 + 1 by omega, List.set_cons_succ, List.set_cons_succ, List.set_cons_succ]
    rfl
theorem take_set {α : Type} : ∀ (l : List α) (n o : Nat) (v : α), o < n → (l.take n).set o v = (l.set o v).take n
  | [], _, _, _, _ => by simp
  | _ :: _, 0, _, _, h => by omega
  | a :: l, n + 1, 0, v, _ => rfl
  | a :: l, n + 1, o + 1, v, h => by
    rw [List.take_succ_cons, List.set_cons_succ, List.set_cons_succ, List.take_succ_cons, take_set l n o v (by omega)]
theorem hdr_set {w : World} {base : Nat} {ht : TypeId} {hb n c : Nat} {hs : List Hd} (h : OwnC w base ht 3 (.slice (some ⟨hb, 0, none⟩) n c) n (hs.flatMap Hd.cs)) (hn : n = hs.length) {k : Nat} {y : Hd} (hy : hs[k]? = some y) (lv : Value) :
    OwnC (w.setCell ⟨hb, k * 3 + 1, none⟩ lv) base ht 3 (.slice (some ⟨hb, 0, none⟩) n c) n ((hs.set k ⟨y.sl, y.len, y.num, lv⟩).flatMap Hd.cs) := by
  have hk : k < n := by rw [hn]; exact (List.getElem?_eq_some_iff.1 hy).1
  obtain ⟨hl, ⟨e, _⟩ | ⟨g, cap, cur, e, h2, h3, h4, h5, h6, h7⟩⟩ := h
  · injection e with e; cases e
  · injection e with e1 _ e3
    injection e1 with e1
    injection e1 with e1
    subst e1 e3
    refine ⟨by rw [← flat_set3 hs k y lv hy, List.length_set]; exact hl, .inr ⟨hb, c, _, rfl, h2, by rw [setCell_eq_setRow _ _ _ _ _ _ _ h3, setRow_heap _ _ _ _ _ _ h3], h4, h5, by rw [Array.size_setIfInBounds]; exact h6, ?_⟩⟩
    rw [Array.toList_setIfInBounds, ← take_set _ _ _ _ (by omega), h7]
    exact flat_set3 hs k y lv hy
/-- The first k lists have their longer slices. -/
structure GrowI (t : BkT) (base N0 : Nat) (p : Kd) (w : World) (j k : Nat) (hs : List Hd) (wr : World) : Prop where
  off : OffB (FP p) w wr
  len : hs.length = p.2.length
  hdr : OwnC wr base (t.ht j) 3 p.1 p.2.length (hs.flatMap Hd.cs)
  all : ∀ i x, p.2[i]? = some x → ∃ y, hs[i]? = some y ∧ y.sl = x.sl ∧ y.len = x.len ∧ y.num = x.num ∧ (i < k → StP t j N0 base 2 wr y) ∧ (k ≤ i → y = x ∧ StP t j N0 base 1 wr x)
section
variable {t : BkT} {base N0 g n : Nat} {T : Nat → Kd} {st : Nat → Nat} {w : World}
theorem GrowI.start (h : BkI t base N0 g n T st w) (j : Nat) (h1 : st j = 1) : GrowI t base N0 (T j) w j 0 (T j).2 w :=
  ⟨OffB.refl _, rfl, h.hdr j, fun i x hx => ⟨x, hx, rfl, rfl, rfl, fun hi => absurd hi (Nat.not_lt_zero _), fun _ => ⟨rfl, by have := (h.lst j x (List.mem_of_getElem? hx)).1; rwa [h1] at this⟩⟩⟩
theorem GrowI.cellg (h : BkI t base N0 g n T st w) {j k : Nat} {hs : List Hd} {wr : World} (hI : GrowI t base N0 (T j) w j k hs wr) {i : Nat} {v : Value} (hc : w.cell? ⟨g, i, none⟩ = some v) : wr.cell? ⟨g, i, none⟩ = some v :=
  hI.off.cell hc (fun hq => h.sepg j hq)
/-- One list more: in a world that has turned that list's block and the header's cell alone. -/
theorem GrowI.next (h : BkI t base N0 g n T st w) {j k : Nat} {hs : List Hd} {wr w2 : World} (hI : GrowI t base N0 (T j) w j k hs wr) {x : Hd} (hx : (T j).2[k]? = some x) {hb c : Nat} (hv : (T j).1 = .slice (some ⟨hb, 0, none⟩) (T j).2.length c) (hO : OffB (fun q => x.sl.ownBlock = some q) wr w2) (lv : Value)
    (h1 : OwnC w2 base (t.et j) (t.z j) x.sl x.len (reps (t.mark j x.num) x.len)) (h2 : OwnC w2 base (t.et j) (t.z j) lv (x.len + 40) (reps (t.mark j x.num) (x.len + 40))) (h3 : ∀ q, lv.ownBlock = some q → x.sl.ownBlock = some q ∨ wr.heap.size ≤ q) :
    GrowI t base N0 (T j) w j (k + 1) (hs.set k ⟨x.sl, x.len, x.num, lv⟩) (w2.setCell ⟨hb, k * 3 + 1, none⟩ lv) := by
  have hxm : x.sl ∈ sls (T j) := List.mem_map_of_mem (List.mem_of_getElem? hx)
  have hbF : (T j).1.ownBlock = some hb := by rw [hv]; rfl
  have hNr : N0 ≤ wr.heap.size := Nat.le_trans h.big hI.off.size
  have hbN : hb < N0 := h.fpN j hb (.inl hbF)
  have hsx : ∀ q, x.sl.ownBlock = some q → q ≠ hb := fun q hq e => h.seph j _ hxm hb hbF (by rw [← e]; exact hq)
  have hO2 : OffB (fun q => x.sl.ownBlock = some q ∨ q = hb) wr (w2.setCell ⟨hb, k * 3 + 1, none⟩ lv) := (hO.mono fun q hq => .inl hq).setCell (p := ⟨hb, k * 3 + 1, none⟩) (.inr rfl) _
  have hset : OffB (fun q => q = hb) w2 (w2.setCell ⟨hb, k * 3 + 1, none⟩ lv) := (OffB.refl (B := fun q => q = hb) w2).setCell (p := ⟨hb, k * 3 + 1, none⟩) rfl _
  obtain ⟨y, hy, _, _, _, _, hyx⟩ := hI.all k x hx
  obtain ⟨rfl, _⟩ := hyx (Nat.le_refl _)
  have hkl : k < hs.length := (List.getElem?_eq_some_iff.1 hy).1
  refine ⟨hI.off.trans (hO2.mono fun q hq => ?_), by rw [List.length_set]; exact hI.len, ?_, fun i z hz => ?_⟩
  · rcases hq with hq | rfl
    · exact .inr ⟨_, hxm, hq⟩
    · exact .inl hbF
  · have hh := hI.hdr.offB hO (fun q hq hq' => h.seph j _ hxm q hq hq')
    rw [hv] at hh ⊢
    exact hdr_set hh hI.len.symm hy lv
  · obtain ⟨y', hy', e1, e2, e3, hnew, hold⟩ := hI.all i z hz
    by_cases hik : k = i
    · subst hik
      rw [hx] at hz
      injection hz with hz
      subst hz
      refine ⟨⟨y.sl, y.len, y.num, lv⟩, by rw [List.getElem?_set_self hkl], rfl, rfl, rfl, fun _ => ⟨?_, ?_, fun q hq => ?_⟩, fun hh => by omega⟩
      · exact h1.offB hset (fun q hq e => hsx q hq e)
      · refine h2.offB hset (fun q hq e => ?_)
        rcases h3 q hq with h4 | h4
        · exact hsx q h4 e
        · omega
      · rcases h3 q hq with h4 | h4
        · exact .inl h4
        · exact .inr (by omega)
    · have hsep : ∀ q, z.sl.ownBlock = some q → ¬ (y.sl.ownBlock = some q ∨ q = hb) := fun q hq hB => by
        have h4 : (sls (T j))[i]? = some z.sl := by unfold sls; rw [List.getElem?_map, hz]; rfl
        have h5 : (sls (T j))[k]? = some y.sl := by unfold sls; rw [List.getElem?_map, hx]; rfl
        rcases hB with hB | rfl
        · exact sep_at (h.sepl j) h4 h5 (Ne.symm hik) q hq hB
        · exact h.seph j _ (List.mem_of_getElem? h4) q hbF hq
      have hBN : ∀ q, (y.sl.ownBlock = some q ∨ q = hb) → q < N0 := fun q hq => by
        rcases hq with hq | rfl
        · exact h.fpN j q (.inr ⟨_, hxm, hq⟩)
        · exact hbN
      refine ⟨y', by rw [List.getElem?_set_ne hik]; exact hy', e1, e2, e3, fun hlt => ?_, fun hle => ?_⟩
      · exact (hnew (by omega)).off hO2 (fun q hq => hsep q (by rw [← e1]; exact hq)) hBN
      · obtain ⟨k1, k2⟩ := hold (by omega)
        exact ⟨k1, k2.off hO2 hsep hBN⟩
theorem GrowI.fin (h : BkI t base N0 g n T st w) {j : Nat} {hs : List Hd} {wr : World} (hI : GrowI t base N0 (T j) w j (T j).2.length hs wr) : Below base w wr ∧ BkI t base N0 g n (upd T j ((T j).1, hs)) (upd st j 2) wr := by
  have hb : base ≤ w.heap.size := Nat.le_trans h.gb (Nat.le_trans (Nat.le_of_lt h.gN) h.big)
  have hlen := hI.len
  have hget : ∀ (i : Nat) (y : Hd), hs[i]? = some y → ∃ x, (T j).2[i]? = some x := fun i y hy => ⟨_, List.getElem?_eq_getElem (by rw [← hlen]; exact (List.getElem?_eq_some_iff.1 hy).1)⟩
  have hsl : hs.map Hd.sl = sls (T j) := by
    unfold sls
    refine List.ext_getElem? fun i => ?_
    rw [List.getElem?_map, List.getElem?_map]
    cases hx : (T j).2[i]? with
    | none =>
      rw [List.getElem?_eq_none (by rw [hlen]; exact List.getElem?_eq_none_iff.1 hx)]
      try rfl
    | some x =>
      obtain ⟨y, hy, e, _⟩ := hI.all i x hx
      rw [hy]
      show some y.sl = some x.sl
      rw [e]
  refine ⟨hI.off.below (fun q hq => ?_) hb, h.turn j hI.off hs 2 hsl (by rw [hlen]; exact hI.hdr) (fun y hy => ?_)⟩
  · rcases hq with hq | ⟨v, hv, hq⟩
    · exact ((h.hdr j).lt q hq).1
    · obtain ⟨x, hx, rfl⟩ := List.mem_map.1 hv
      obtain ⟨i, hi⟩ := List.mem_iff_getElem?.1 hx
      obtain ⟨y, _, e, _, _, hnew, _⟩ := hI.all i x hi
      have := (hnew (List.getElem?_eq_some_iff.1 hi).1).1
      rw [e] at this
      exact (this.lt q hq).1
  · obtain ⟨i, hi⟩ := List.mem_iff_getElem?.1 hy
    obtain ⟨x, hx⟩ := hget i y hi
    obtain ⟨y', hy', _, e2, _, hnew, _⟩ := hI.all i x hx
    rw [hi] at hy'
    injection hy' with hy'
    subst hy'
    exact ⟨hnew (List.getElem?_eq_some_iff.1 hx).1, by rw [e2]; exact (h.lst j x (List.mem_of_getElem? hx)).2⟩
end
/-- A row of marks, read. -/
theorem reps_range {w : World} {size n : Nat} {a : Option Addr} {cap : Nat} {c : List Value} (h : RowIs w size (.slice a n cap) n (reps c n)) (hc : c.length = size) (h0 : 0 < n) : ∃ b off, a = some ⟨b, off, none⟩ ∧ n ≤ cap ∧ ∀ k, k < n → w.rangeAt b (off + k * size) c := by
  subst hc
  obtain ⟨b, off, hat⟩ := h.at
  obtain ⟨ha, hn, hd⟩ := hat h0
  refine ⟨b, off, ha, hn, fun k hk j v hv => ?_⟩
  have hj : j < c.length := (List.getElem?_eq_some_iff.1 hv).1
  have h1 : k * c.length + c.length ≤ n * c.length := by
    have := Nat.mul_le_mul_right c.length (show k + 1 ≤ n from hk)
    rwa [Nat.add_mul, Nat.one_mul] at this
  rw [Nat.add_assoc, hd _ (by omega)]
  exact reps_at c n k j v hk hv
end Go.Proofs.YthageoibkeebhaaGreatDoor

/- growRow: more is put behind each list. No condition. -/
namespace Go.Proofs.YthageoibkeebhaaGreatDoor
open Go.RowKit
set_option maxRecDepth 100000
set_option maxHeartbeats 4000000
theorem elb_Row : ElemIs Tryz.prog 84 2 32 := by
  refine ElemIs.mk (z := .agg #[.string ⟨#[]⟩, .string ⟨#[]⟩]) (by kernel_rfl) (by rfl) (by decide)
theorem growRow_any {base N0 g n : Nat} {T : Nat → Kd} {st : Nat → Nat} {w : World} (h : BkI bkT base N0 g n T st w) (h1 : st 6 = 1) (hnum : ∀ x ∈ (T 6).2, x.num < numTop) (hm : (T 6).2.length ≤ 1000000) :
    Calls Tryz.prog 76 #[.pointer (some ⟨g, 0, none⟩)] w fun e w' => e = .returned (.tuple #[]) ∧ Below base w w' ∧ ∃ hs, (∀ y ∈ hs, y.num < numTop) ∧ hs.length = (T 6).2.length ∧ BkI bkT base N0 g n (upd T 6 ((T 6).1, hs)) (upd st 6 2) w' := by
  obtain ⟨M, hM⟩ : ∃ m, m = (T 6).2.length := ⟨_, rfl⟩
  obtain ⟨ha, hc, hva⟩ : ∃ a c, (T 6).1 = .slice a M c := by
    obtain ⟨a, c, e, _⟩ := (h.hdr 6).form
    exact ⟨a, c, by rw [hM]; exact e⟩
  rw [← hM] at hm
  have hcg : w.cell? ⟨g, 6, none⟩ = some (.slice ha M hc) := by rw [cell_of_row _ _ _ _ _ _ h.row, ← hva]; rfl
  have hM' := Lib.hid hM
  have hnum' := Lib.hid hnum
  have h' := Lib.hid h
  have h1' := Lib.hid h1
  have hva' := Lib.hid hva
  clear hM hnum h h1 hva
  go_enter Tryz.func76, Tryz.ntmps76
  go_wp2_with fail
  go_loopw [2, 3, 4, 5] (fun i _ _ _ wr => ∃ (k : Nat) (hs : List Hd), i = .int .i64 k ∧ k ≤ M ∧ Hid (GrowI bkT base N0 (T 6) w 6 k hs wr)) (fun i _ _ _ _ => M - (intOf i).toNat)
  case atStart => exact ⟨0, _, rfl, by omega, Lib.hid (GrowI.start h'.out 6 h1'.out)⟩
  case round =>
    obtain ⟨k, hs, rfl, hk, hI⟩ := hrel
    have hcg2 := hI.out.cellg h'.out hcg
    by_cases hkM : k < M
    · have hki : (k : Int) < (M : Int) := by omega
      obtain ⟨x, hx⟩ : ∃ x, (T 6).2[k]? = some x := ⟨_, List.getElem?_eq_getElem (by rw [← hM'.out]; exact hkM)⟩
      obtain ⟨y, hy, _, _, _, _, hyx⟩ := hI.out.all k x hx
      obtain ⟨rfl, hst1⟩ := hyx (Nat.le_refl _)
      have hhd := hI.out.hdr
      rw [← hI.out.len] at hhd
      obtain ⟨hb, hcap, e1, ec, q0, q1, q2, qf⟩ := hdr_cells hhd hy
      have qf1 := qf 1 (by decide)
      rw [hva'.out] at e1
      injection e1 with e1 elen e3
      clear elen hhd qf
      subst e1 e3
      rw [hI.out.len, ← hM'.out] at ec
      obtain ⟨hown, hlong⟩ := hst1
      rw [hlong] at q1
      obtain ⟨len, hlen⟩ : ∃ z, z = y.len := ⟨_, rfl⟩
      obtain ⟨num, hnm⟩ : ∃ z, z = y.num := ⟨_, rfl⟩
      have hlenb : len ≤ 1000000 := by rw [hlen]; exact (h'.out.lst 6 y (List.mem_of_getElem? hx)).2
      have hn100 : num < numTop := by rw [hnm]; exact hnum'.out y (List.mem_of_getElem? hx)
      obtain ⟨la, lc, hsl, hlc, hform⟩ := hown.form
      rw [← hlen] at hsl
      rw [← hlen, ← hnm] at hown
      rw [← hlen] at hlc
      rw [hsl] at q0 hown hform
      rw [← hnm] at q2
      have hx' := Lib.hid hx
      have hsl' := Lib.hid hsl
      have hlen' := Lib.hid hlen
      have hnm' := Lib.hid hnm
      clear hx hsl hlong hlen hnm hyx hy hform
      obtain ⟨Wl, hWl⟩ : ∃ W, W = wr.alloc (.cells #[.slice la len lc, .slice none 0 0, .int .i64 (num : Int)] 125) := ⟨_, rfl⟩
      obtain ⟨hl, hhl⟩ : ∃ z, z = wr.heap.size := ⟨_, rfl⟩
      have hEl : Ext wr Wl := by rw [hWl]; exact (Ext.refl _).alloc _
      have hrl : Wl.heap[hl]? = some (.cells #[.slice la len lc, .slice none 0 0, .int .i64 (num : Int)] 125 (0, 0)) := by rw [hWl, hhl]; exact heap_alloc_new wr _
      have hlown : ∀ q, (Value.slice la len lc).ownBlock = some q → q < hl := fun q hq => by have := (hown.lt q hq).2; omega
      have hhbl : hb < hl := by
        rw [hhl]
        exact World.block_lt_of_cell? wr _ q0
      have hhbo : ∀ q, (Value.slice la len lc).ownBlock = some q → q ≠ hb := fun q hq e => by
        have h5 : y.sl ∈ sls (T 6) := List.mem_map_of_mem (List.mem_of_getElem? hx'.out)
        exact h'.out.seph 6 _ h5 hb (by rw [hva'.out]; rfl) (by rw [hsl'.out, ← e]; exact hq)
      have hbase : base ≤ Wl.heap.size := Nat.le_trans (Nat.le_trans h'.out.gb (Nat.le_trans (Nat.le_of_lt h'.out.gN) h'.out.big)) (Nat.le_trans hI.out.off.size hEl.size)
      have hownl := hown.ext hEl
      have r1 := hEl.cell q1
      have r1f : Wl.frozen? ⟨hb, k * 3 + 1, none⟩ = false := by rw [World.frozen?_of_block (w := wr) (Below.block hEl hb (World.block_lt_of_cell? wr _ q0))]; exact qf1
      have hsz : Hid (Wl.heap.size = hl + 1) := Lib.hid (by rw [hWl, hhl]; simp)
      have hWl' := Lib.hid hWl
      have hhl' := Lib.hid hhl
      have hown' := Lib.hid hownl
      have hlown' := Lib.hid hlown
      have hrl' := Lib.hid hrl
      have htab : Hid (∀ w2, OffB (fun q => (Value.slice la len lc).ownBlock = some q) Wl w2 → ∀ W, Ext w2 W → TabW W) := Lib.hid (fun w2 hO2 => tab_of h'.out.tab h'.out.base_le hI.out.off (fun q hq => h'.out.fpb 6 q hq) hEl hO2 (fun q hq => (hown.lt q hq).1))
      have hEl' := Lib.hid hEl
      have hhbo' := Lib.hid hhbo
      have hbase' := Lib.hid hbase
      have r1' := Lib.hid r1
      have r1f' := Lib.hid r1f
      clear hWl hhl hown hownl hlown hrl hEl hhbo hbase r1 r1f qf1
      have l0 : Wl.cell? ⟨hl, 0, none⟩ = some (.slice la len lc) := by rw [cell_of_row _ _ _ _ _ _ hrl'.out]; rfl
      go_upto_region 4 with fail
      rw [← hWl'.out, ← hhl'.out]
      go_wp2_with fail
      go_loopw [4, 5] (fun lv i w2 => ∃ (c : Nat) (va : Option Addr) (vc : Nat), i = .int .i64 c ∧ c ≤ 40 ∧ lv = .slice va (len + c) vc ∧ Hid (OwnC w2 base 84 2 (.slice va (len + c) vc) (len + c) (reps (mkRowL num) (len + c))) ∧ Hid (OwnC w2 base 84 2 (.slice la len lc) len (reps (mkRowL num) len)) ∧ Hid (OffB (fun q => (Value.slice la len lc).ownBlock = some q) Wl w2) ∧ Hid (∀ q, (Value.slice va (len + c) vc).ownBlock = some q → (Value.slice la len lc).ownBlock = some q ∨ Wl.heap.size ≤ q)) (fun _ i _ => 40 - (intOf i).toNat)
      case atStart => exact ⟨0, la, lc, rfl, by omega, rfl, Lib.hid hown'.out, Lib.hid hown'.out, Lib.hid (OffB.refl _), Lib.hid (fun q hq => .inl hq)⟩
      case round =>
        clear l0 q0 q1 q2 hcg2
        obtain ⟨c, va, vc, rfl, hc40, rfl, hlo, hso, hO2, hq2⟩ := hrel
        by_cases hlt : c < 40
        · have hlti : (c : Int) < 40 := by omega
          have hT : Hid (∀ W, Ext wr W → TabW W) := Lib.hid (htab.out _ hO2.out)
          have l2 : wr.cell? ⟨hl, 2, none⟩ = some (.int .i64 (num : Int)) := hO2.out.cell (by rw [cell_of_row _ _ _ _ _ _ hrl'.out]; rfl) (fun e => by have := hlown'.out hl e; omega)
          obtain ⟨s, hs2⟩ : ∃ s, s = wordB num := ⟨_, rfl⟩
          have hmark : ∀ W, Ext wr W → Calls Tryz.prog 124 #[.int .i64 (num : Int)] W fun e w' => e = .returned (.agg #[.string s, .string ⟨#[]⟩]) ∧ Ext W w' := fun W hE => by rw [hs2]; exact markRow_any W num hn100 (fun W' hE' => hT.out W' (hE.trans hE'))
          have hrs : Hid (∀ m, reps (mkRowL num) (m + 1) = reps (mkRowL num) m ++ (#[.string s, .string ⟨#[]⟩] : Array Value).toList) := Lib.hid (fun m => by rw [reps_succ, hs2]; rfl)
          have hfin : Hid (∀ w3 v' w4, Ext wr w3 → AppK w3 w4 base 84 2 (.slice va (len + c) vc) v' (len + c) (reps (mkRowL num) (len + c)) (#[.string s, .string ⟨#[]⟩] : Array Value).toList → OwnC w4 base 84 2 v' (len + (c + 1)) (reps (mkRowL num) (len + (c + 1))) ∧ OwnC w4 base 84 2 (.slice la len lc) len (reps (mkRowL num) len) ∧ OffB (fun q => (Value.slice la len lc).ownBlock = some q) Wl w4 ∧ ∀ q, v'.ownBlock = some q → (Value.slice la len lc).ownBlock = some q ∨ Wl.heap.size ≤ q) := Lib.hid (fun w3 v' w4 hE hA => by
            refine ⟨?_, hA.keep (hso.out.ext hE) (by omega), ?_, fun q hq => ?_⟩
            · rw [← Nat.add_assoc, hrs.out]; exact hA.own
            · have h6 := OffB.trans (hO2.out.mono (B' := fun q => (Value.slice la len lc).ownBlock = some q ∨ (Value.slice va (len + c) vc).ownBlock = some q) fun q hq => .inl hq) (OffB.trans (.of_ext hE) (hA.off.mono fun q hq => .inr hq))
              exact h6.past (fun q hq hB => by
                rcases hB with hB | hB
                · exact hB
                · rcases hq2.out q hB with h7 | h7
                  · exact h7
                  · omega)
            · rcases hA.at_ q hq with h7 | h7
              · exact hq2.out q h7
              · exact .inr (Nat.le_trans (Nat.le_trans hO2.out.size hE.size) h7))
          have hbase2 : Hid (∀ w3, Ext wr w3 → base ≤ w3.heap.size) := Lib.hid (fun w3 hE => Nat.le_trans hbase'.out (Nat.le_trans hO2.out.size hE.size))
          clear hs2
          go_wp2_with fail
          refine (hmark _ (by first | exact (Ext.refl _).drew | exact Ext.refl _)).mono ?_
          rintro e w3 ⟨rfl, hE3⟩
          have hlo3 := Lib.hid (hlo.out.ext hE3)
          have hb3 := hbase2.out w3 hE3
          go_wp2_with (first | (at_builtin; go_loud (refine wpList_append_k (by rfl) (.tmp 28) (.tmp 32) 22 84 (by rfl) Tryz.underlying22 elb_Row w3 base (len + c) _ (.slice va (len + c) vc) (by rfl) hlo3.out #[.string s, .string ⟨#[]⟩] (by rfl) (by rfl) (by simp [Value.oneCell']) (by omega) (by omega) hb3 ?_); go_loud (intro v' w4 hA; obtain ⟨oa4, oc4, rfl, _⟩ := hA.own.form; obtain ⟨f1, f2, f3, f4⟩ := hfin.out w3 _ w4 hE3 hA; clear hA)) | fail)
          go_roundw
          case rel => exact ⟨c + 1, oa4, oc4, by go_num, by omega, rfl, Lib.hid f1, Lib.hid f2, Lib.hid f3, Lib.hid f4⟩
          case measure => simp [intOf]; omega
        · have hlti : ¬ (c : Int) < 40 := by omega
          obtain rfl : c = 40 := by omega
          have s1 := hO2.out.cell r1'.out (fun e => hhbo'.out hb e rfl)
          have s1f : wr.frozen? ⟨hb, k * 3 + 1, none⟩ = false := by rw [hO2.out.frozen r1'.out (fun e => hhbo'.out hb e rfl)]; exact r1f'.out
          have sg : wr.cell? ⟨g, 6, none⟩ = some (.slice (some ⟨hb, 0, none⟩) M hc) := hO2.out.cell (hEl'.out.cell (hI.out.cellg h'.out hcg)) (fun e => by
            have h5 : y.sl ∈ sls (T 6) := List.mem_map_of_mem (List.mem_of_getElem? hx'.out)
            exact h'.out.sepg 6 (.inr ⟨_, h5, by rw [hsl'.out]; exact e⟩))
          have hnext := Lib.hid (GrowI.next h'.out hI.out hx'.out (by rw [hva'.out, hM'.out]) (by rw [hsl'.out]; exact (OffB.of_ext hEl'.out).trans hO2.out) (.slice va (len + 40) vc) (by rw [hsl'.out, ← hlen'.out, ← hnm'.out]; exact hso.out) (by rw [← hlen'.out, ← hnm'.out]; exact hlo.out) (fun q hq => by
            rw [hsl'.out]
            rcases hq2.out q hq with h7 | h7
            · exact .inl h7
            · exact .inr (Nat.le_trans hEl'.out.size h7)))
          go_wp2_with fail
          go_roundw
          case rel => exact ⟨k + 1, _, by go_num, by omega, hnext⟩
          case measure => simp [intOf]; omega
    · have hki : ¬ (k : Int) < (M : Int) := by omega
      have hkM2 : k = M := by omega
      have hfin := Lib.hid (GrowI.fin h'.out (j := 6) (hs := hs) (by rw [← hM'.out, ← hkM2]; exact hI.out))
      have hnums : Hid (∀ y ∈ hs, y.num < numTop) := Lib.hid (fun y hy => by
        obtain ⟨i, hi⟩ := List.mem_iff_getElem?.1 hy
        obtain ⟨x, hx⟩ : ∃ x, (T 6).2[i]? = some x := ⟨_, List.getElem?_eq_getElem (by rw [← hI.out.len]; exact (List.getElem?_eq_some_iff.1 hi).1)⟩
        obtain ⟨y', hy', _, _, e3, _⟩ := hI.out.all i x hx
        rw [hi] at hy'
        injection hy' with hy'
        rw [hy', e3]
        exact hnum'.out x (List.mem_of_getElem? hx))
      have hlen := Lib.hid hI.out.len
      clear hkM2
      go_wp2_with fail
      go_end0
      exact ⟨rfl, hfin.out.1, hs, hnums.out, hlen.out, hfin.out.2⟩
end Go.Proofs.YthageoibkeebhaaGreatDoor

/- lookRow: all lists, and what is behind them, are looked at. No condition. -/
namespace Go.Proofs.YthageoibkeebhaaGreatDoor
open Go.RowKit
set_option maxRecDepth 100000
set_option maxHeartbeats 4000000
theorem lookRow_any {base N0 g n : Nat} {T : Nat → Kd} {st : Nat → Nat} {w : World} (h : BkI bkT base N0 g n T st w) (h2 : st 6 = 2) (hnum : ∀ x ∈ (T 6).2, x.num < numTop) (hm : (T 6).2.length ≤ 1000000) :
    Calls Tryz.prog 89 #[.pointer (some ⟨g, 0, none⟩)] w fun e w' => e = .returned (.bool true) ∧ Ext w w' := by
  obtain ⟨M, hM⟩ : ∃ m, m = (T 6).2.length := ⟨_, rfl⟩
  obtain ⟨ha, hc, hva⟩ : ∃ a c, (T 6).1 = .slice a M c := by
    obtain ⟨a, c, e, _⟩ := (h.hdr 6).form
    exact ⟨a, c, by rw [hM]; exact e⟩
  rw [← hM] at hm
  have hcg : w.cell? ⟨g, 6, none⟩ = some (.slice ha M hc) := by rw [cell_of_row _ _ _ _ _ _ h.row, ← hva]; rfl
  have hM' := Lib.hid hM
  have hnum' := Lib.hid hnum
  have h' := Lib.hid h
  have h2' := Lib.hid h2
  have hva' := Lib.hid hva
  clear hM hnum h h2 hva
  go_enter Tryz.func89, Tryz.ntmps89
  go_wp2_with fail
  go_loopw [3, 4, 5] (fun i _ _ wr => ∃ k : Nat, i = .int .i64 k ∧ k ≤ M ∧ Ext w wr) (fun i _ _ _ => M - (intOf i).toNat)
  case atStart => exact ⟨0, rfl, by omega, Ext.refl _⟩
  case round =>
    obtain ⟨k, rfl, hk, hE⟩ := hrel
    have hcg2 := hE.cell hcg
    by_cases hkM : k < M
    · have hki : (k : Int) < (M : Int) := by omega
      obtain ⟨y, hy⟩ : ∃ x, (T 6).2[k]? = some x := ⟨_, List.getElem?_eq_getElem (by rw [← hM'.out]; exact hkM)⟩
      have hI := h'.out.ext hE
      obtain ⟨hb, hcap, e1, ec, q0, q1, q2, _⟩ := hdr_cells (hI.hdr 6) hy
      rw [hva'.out] at e1
      injection e1 with e1 elen e3
      clear elen
      subst e1 e3
      rw [← hM'.out] at ec
      have hst := (hI.lst 6 y (List.mem_of_getElem? hy)).1
      rw [h2'.out] at hst
      obtain ⟨hown, hlong, _⟩ := hst
      have hlb := (hI.lst 6 y (List.mem_of_getElem? hy)).2
      have hn1 := hnum'.out y (List.mem_of_getElem? hy)
      obtain ⟨len, hlen⟩ : ∃ z, z = y.len := ⟨_, rfl⟩
      obtain ⟨num, hnm⟩ : ∃ z, z = y.num := ⟨_, rfl⟩
      obtain ⟨la, lc, hsl, hlc, _⟩ := hown.form
      obtain ⟨ga, gc, hgl, hgc, _⟩ := hlong.form
      rw [← hlen] at hsl hgl hlb
      rw [← hnm] at hn1
      have hr1 := hown.row
      have hr2 := hlong.row
      rw [hsl, ← hlen, ← hnm] at hr1
      rw [hgl, ← hlen, ← hnm] at hr2
      rw [hsl] at q0
      rw [hgl] at q1
      rw [← hnm] at q2
      have hr1' := Lib.hid hr1
      obtain ⟨gb, go, e4, hgc2, hrl⟩ := reps_range hr2 rfl (by omega)
      subst e4
      have hrl' := Lib.hid hrl
      clear hown hlong hlen hnm hsl hgl hr1 hr2 hI hrl hlc hgc hy
      obtain ⟨Wl, hWl⟩ : ∃ W, W = wr.alloc (.cells #[.slice la len lc, .slice (some ⟨gb, go, none⟩) (len + 40) gc, .int .i64 (num : Int)] 125) := ⟨_, rfl⟩
      obtain ⟨hl, hhl⟩ : ∃ z, z = wr.heap.size := ⟨_, rfl⟩
      have hEl : Ext wr Wl := by rw [hWl]; exact (Ext.refl _).alloc _
      have hrow : Wl.heap[hl]? = some (.cells #[.slice la len lc, .slice (some ⟨gb, go, none⟩) (len + 40) gc, .int .i64 (num : Int)] 125 (0, 0)) := by rw [hWl, hhl]; exact heap_alloc_new wr _
      have hL : Hid (∀ w', Ext Wl w' → w'.cell? ⟨hl, 0, none⟩ = some (.slice la len lc) ∧ w'.cell? ⟨hl, 1, none⟩ = some (.slice (some ⟨gb, go, none⟩) (len + 40) gc) ∧ w'.cell? ⟨hl, 2, none⟩ = some (.int .i64 (num : Int))) := Lib.hid (fun w' h => by
        have h1 := h.row hrow
        exact ⟨by rw [cell_of_row _ _ _ _ _ _ h1]; rfl, by rw [cell_of_row _ _ _ _ _ _ h1]; rfl, by rw [cell_of_row _ _ _ _ _ _ h1]; rfl⟩)
      obtain ⟨l0, l1, l2⟩ := hL.out Wl (Ext.refl _)
      have e40 : ((len + 40 : Nat) : Int) = (len : Int) + 40 := by omega
      have hw40 : IntKind.i64.wrap ((len : Int) + 40) = (len : Int) + 40 := by rw [IntKind.wrap_i64]; omega
      have hWl' := Lib.hid hWl
      have hhl' := Lib.hid hhl
      have hEl' := Lib.hid hEl
      clear hWl hhl hEl hrow
      go_upto_region 5 with fail
      rw [← hWl'.out, ← hhl'.out]
      go_wp2_with fail
      go_loopw [5] (fun i w2 => ∃ k2 : Nat, i = .int .i64 k2 ∧ k2 ≤ len + 40 ∧ Ext Wl w2) (fun i _ => len + 40 - (intOf i).toNat)
      case atStart => exact ⟨0, rfl, by omega, Ext.refl _⟩
      case round =>
        clear l0 l1 l2 q0 q1 q2 hcg2 hw40
        obtain ⟨k2, rfl, hk2, hE2⟩ := hrel
        obtain ⟨l0, l1, l2⟩ := hL.out _ hE2
        by_cases hlt : k2 < len + 40
        · have hlti : (k2 : Int) < (len : Int) + 40 := by omega
          have hT : Hid (∀ W, Ext wr W → TabW W) := Lib.hid (fun W hE4 => h'.out.tab W ((((hE.trans hEl'.out).trans hE2).trans hE4).mono h'.out.base_le))
          obtain ⟨s, hs2⟩ : ∃ s, s = wordB num := ⟨_, rfl⟩
          have his : Hid (∀ W, Ext wr W → Calls Tryz.prog 137 #[.agg #[.string s, .string ⟨#[]⟩], .int .i64 (num : Int)] W fun e w' => e = .returned (.bool true) ∧ Ext W w') := Lib.hid (fun W hE => by rw [hs2]; exact isRow_any W num hn1 (fun W' hE' => hT.out W' (hE.trans hE')))
          have hmk : Hid (mkRowL num = [.string s, .string ⟨#[]⟩]) := Lib.hid (by rw [hs2]; rfl)
          have hg2 : wr.rangeAt gb (go + k2 * 2) (mkRowL num) := fun i v hv => hE2.cell (hEl'.out.cell (hrl'.out k2 hlt i v hv))
          rw [hmk.out] at hg2
          clear hs2
          by_cases hin : k2 < len
          · have hini : (k2 : Int) < (len : Int) := by omega
            obtain ⟨ab, ao, e5, _, hra⟩ := reps_range hr1'.out rfl (by omega)
            subst e5
            have ha2 : wr.rangeAt ab (ao + k2 * 2) (mkRowL num) := fun i v hv => hE2.cell (hEl'.out.cell (hra k2 hin i v hv))
            rw [hmk.out] at ha2
            clear hra
            go_upto_region 10 with fail
            refine bqRegion (Ext wr) (by kernel_rfl) (by kernel_rfl) (Ext.refl _).drew ?_
            iterate 1 (refine bqStep (fun K hK => ?_); go_simp; first | (refine hK _ ?_; clear hK K) | (refine ⟨_, fun _ _ => rfl, hK _ ?_⟩; clear hK K))
            refine bqCell (by rfl) 22 _ (by rfl) hl 1 (by rfl) _ (fun w' hw => (hL.out w' (hE2.trans hw)).2.1) _ Tryz.underlying22 rfl ?_
            iterate 2 (refine bqStep (fun K hK => ?_); go_simp; first | (refine hK _ ?_; clear hK K) | (refine ⟨_, fun _ _ => rfl, hK _ ?_⟩; clear hK K))
            refine bqMid (by rfl) 84 _ (by rfl) gb (go + k2 * 2) (by rfl) [.string s, .string ⟨#[]⟩] _ (fun w' hw i v hv => hw.cell (hg2 i v hv)) Tryz.underlying84 rfl (by exact info_rowM) ?_
            iterate 1 (refine bqStep (fun K hK => ?_); go_simp; first | (refine hK _ ?_; clear hK K) | (refine ⟨_, fun _ _ => rfl, hK _ ?_⟩; clear hK K))
            refine bqCell (by rfl) 3 _ (by rfl) hl 2 (by rfl) _ (fun w' hw => (hL.out w' (hE2.trans hw)).2.2) _ Tryz.underlying3 rfl ?_
            refine bqStep (fun K hK => ?_); go_simp; refine ⟨_, fun w' hw => (his.out w' hw).mono (fun e w'' h => ⟨h.1, hw.trans h.2⟩), hK _ ?_⟩; clear hK K
            iterate 4 (refine bqStep (fun K hK => ?_); go_simp; first | (refine hK _ ?_; clear hK K) | (refine ⟨_, fun _ _ => rfl, hK _ ?_⟩; clear hK K))
            refine bqCell (by rfl) 22 _ (by rfl) hl 0 (by rfl) _ (fun w' hw => (hL.out w' (hE2.trans hw)).1) _ Tryz.underlying22 rfl ?_
            iterate 3 (refine bqStep (fun K hK => ?_); go_simp; first | (refine hK _ ?_; clear hK K) | (refine ⟨_, fun _ _ => rfl, hK _ ?_⟩; clear hK K))
            iterate 1 (refine bqStep (fun K hK => ?_); go_simp; first | (refine hK _ ?_; clear hK K) | (refine ⟨_, fun _ _ => rfl, hK _ ?_⟩; clear hK K))
            refine bqCell (by rfl) 22 _ (by rfl) hl 0 (by rfl) _ (fun w' hw => (hL.out w' (hE2.trans hw)).1) _ Tryz.underlying22 rfl ?_
            iterate 2 (refine bqStep (fun K hK => ?_); go_simp; first | (refine hK _ ?_; clear hK K) | (refine ⟨_, fun _ _ => rfl, hK _ ?_⟩; clear hK K))
            refine bqMid (by rfl) 84 _ (by rfl) ab (ao + k2 * 2) (by rfl) [.string s, .string ⟨#[]⟩] _ (fun w' hw i v hv => hw.cell (ha2 i v hv)) Tryz.underlying84 rfl (by exact info_rowM) ?_
            iterate 1 (refine bqStep (fun K hK => ?_); go_simp; first | (refine hK _ ?_; clear hK K) | (refine ⟨_, fun _ _ => rfl, hK _ ?_⟩; clear hK K))
            refine bqCell (by rfl) 3 _ (by rfl) hl 2 (by rfl) _ (fun w' hw => (hL.out w' (hE2.trans hw)).2.2) _ Tryz.underlying3 rfl ?_
            refine bqStep (fun K hK => ?_); go_simp; refine ⟨_, fun w' hw => (his.out w' hw).mono (fun e w'' h => ⟨h.1, hw.trans h.2⟩), hK _ ?_⟩; clear hK K
            iterate 1 (refine bqStep (fun K hK => ?_); go_simp; first | (refine hK _ ?_; clear hK K) | (refine ⟨_, fun _ _ => rfl, hK _ ?_⟩; clear hK K))
            iterate 2 (refine bqStep (fun K hK => ?_); go_simp; first | (refine hK _ ?_; clear hK K) | (refine ⟨_, fun _ _ => rfl, hK _ ?_⟩; clear hK K))
            refine bqNil (fun w9 hE9 => ?_)
            try simp only [Act.put, List.setIfInBounds_toArray, List.set_cons_zero, List.set_cons_succ]
            go_wp2_with fail
            go_roundw
            case rel => exact ⟨k2 + 1, by go_num, by omega, hE2.trans hE9⟩
            case measure => simp [intOf]; omega
          · have hini : ¬ (k2 : Int) < (len : Int) := by omega
            have hind : decide ((k2 : Int) < (len : Int)) = false := decide_eq_false hini
            have hind2 : decide (k2 < len) = false := decide_eq_false hin
            go_upto_region 10 with fail
            refine bqRegion (Ext wr) (by kernel_rfl) (by kernel_rfl) (Ext.refl _).drew ?_
            iterate 1 (refine bqStep (fun K hK => ?_); go_simp; first | (refine hK _ ?_; clear hK K) | (refine ⟨_, fun _ _ => rfl, hK _ ?_⟩; clear hK K))
            refine bqCell (by rfl) 22 _ (by rfl) hl 1 (by rfl) _ (fun w' hw => (hL.out w' (hE2.trans hw)).2.1) _ Tryz.underlying22 rfl ?_
            iterate 2 (refine bqStep (fun K hK => ?_); go_simp; first | (refine hK _ ?_; clear hK K) | (refine ⟨_, fun _ _ => rfl, hK _ ?_⟩; clear hK K))
            refine bqMid (by rfl) 84 _ (by rfl) gb (go + k2 * 2) (by rfl) [.string s, .string ⟨#[]⟩] _ (fun w' hw i v hv => hw.cell (hg2 i v hv)) Tryz.underlying84 rfl (by exact info_rowM) ?_
            iterate 1 (refine bqStep (fun K hK => ?_); go_simp; first | (refine hK _ ?_; clear hK K) | (refine ⟨_, fun _ _ => rfl, hK _ ?_⟩; clear hK K))
            refine bqCell (by rfl) 3 _ (by rfl) hl 2 (by rfl) _ (fun w' hw => (hL.out w' (hE2.trans hw)).2.2) _ Tryz.underlying3 rfl ?_
            refine bqStep (fun K hK => ?_); go_simp; refine ⟨_, fun w' hw => (his.out w' hw).mono (fun e w'' h => ⟨h.1, hw.trans h.2⟩), hK _ ?_⟩; clear hK K
            iterate 4 (refine bqStep (fun K hK => ?_); go_simp; first | (refine hK _ ?_; clear hK K) | (refine ⟨_, fun _ _ => rfl, hK _ ?_⟩; clear hK K))
            refine bqCell (by rfl) 22 _ (by rfl) hl 0 (by rfl) _ (fun w' hw => (hL.out w' (hE2.trans hw)).1) _ Tryz.underlying22 rfl ?_
            iterate 3 (refine bqStep (fun K hK => ?_); go_simp; first | (refine hK _ ?_; clear hK K) | (refine ⟨_, fun _ _ => rfl, hK _ ?_⟩; clear hK K))
            iterate 9 (refine bqSkip (by rfl) ?_; simp only [Act.put, List.setIfInBounds_toArray, List.set_cons_zero, List.set_cons_succ])
            iterate 2 (refine bqStep (fun K hK => ?_); go_simp; first | (refine hK _ ?_; clear hK K) | (refine ⟨_, fun _ _ => rfl, hK _ ?_⟩; clear hK K))
            refine bqNil (fun w9 hE9 => ?_)
            try simp only [Act.put, List.setIfInBounds_toArray, List.set_cons_zero, List.set_cons_succ]
            go_wp2_with fail
            go_roundw
            case rel => exact ⟨k2 + 1, by go_num, by omega, hE2.trans hE9⟩
            case measure => simp [intOf]; omega
        · have hlti : ¬ (k2 : Int) < (len : Int) + 40 := by omega
          have hEn := Lib.hid ((hE.trans hEl'.out).trans hE2)
          go_wp2_with fail
          go_roundw
          case rel => exact ⟨k + 1, by go_num, by omega, hEn.out⟩
          case measure => simp [intOf]; omega
    · have hki : ¬ (k : Int) < (M : Int) := by omega
      go_wp2_with fail
      go_ret
      exact ⟨rfl, hE⟩
end Go.Proofs.YthageoibkeebhaaGreatDoor

/- fillChange: all lists are written over. No condition. -/
namespace Go.Proofs.YthageoibkeebhaaGreatDoor
open Go.RowKit
set_option maxRecDepth 100000
set_option maxHeartbeats 4000000
theorem fillChange_one (n : Nat) : (mkChangeL n).toArray.all (·.oneCell') = true := by kernel_rfl
theorem fillChange_any {base N0 g n : Nat} {T : Nat → Kd} {st : Nat → Nat} {w : World} (h : BkI bkT base N0 g n T st w) (h0 : st 7 = 0) (hnum : ∀ x ∈ (T 7).2, x.num < numTop) (hm : (T 7).2.length ≤ 1000000) :
    Calls Tryz.prog 64 #[.pointer (some ⟨g, 0, none⟩)] w fun e w' => e = .returned (.tuple #[]) ∧ Below base w w' ∧ BkI bkT base N0 g n T (upd st 7 1) w' := by
  obtain ⟨M, hM⟩ : ∃ m, m = (T 7).2.length := ⟨_, rfl⟩
  obtain ⟨ha, hc, hva⟩ : ∃ a c, (T 7).1 = .slice a M c := by
    obtain ⟨a, c, e, _⟩ := (h.hdr 7).form
    exact ⟨a, c, by rw [hM]; exact e⟩
  rw [← hM] at hm
  have hcg : w.cell? ⟨g, 7, none⟩ = some (.slice ha M hc) := by rw [cell_of_row _ _ _ _ _ _ h.row, ← hva]; rfl
  have hM' := Lib.hid hM
  have hnum' := Lib.hid hnum
  have h' := Lib.hid h
  have h0' := Lib.hid h0
  have hva' := Lib.hid hva
  clear hM hnum h h0 hva
  go_enter Tryz.func64, Tryz.ntmps64
  go_wp2_with fail
  go_loopw [2, 3, 4] (fun i _ _ wr => ∃ k : Nat, i = .int .i64 k ∧ k ≤ M ∧ Hid (FillI bkT base N0 (T 7) w 7 k wr)) (fun i _ _ _ => M - (intOf i).toNat)
  case atStart => exact ⟨0, rfl, by omega, Lib.hid (FillI.start h'.out 7 h0'.out)⟩
  case round =>
    obtain ⟨k, rfl, hk, hI⟩ := hrel
    have hcg2 := h'.out.cellg 7 hI.out.off hcg
    by_cases hkM : k < M
    · have hki : (k : Int) < (M : Int) := by omega
      obtain ⟨x, hx⟩ : ∃ x, (T 7).2[k]? = some x := ⟨_, List.getElem?_eq_getElem (by rw [← hM'.out]; exact hkM)⟩
      obtain ⟨hb, hcap, e1, ec, q0, q1, q2, _⟩ := hdr_cells (h'.out.hdr_off 7 hI.out.off) hx
      rw [hva'.out] at e1
      injection e1 with e1 elen e3
      clear elen
      subst e1 e3
      rw [← hM'.out] at ec
      obtain ⟨⟨xs, hown⟩, hlong⟩ := hI.out.old k x hx (Nat.le_refl _)
      rw [hlong] at q1
      obtain ⟨len, hlen⟩ : ∃ z, z = x.len := ⟨_, rfl⟩
      obtain ⟨num, hnm⟩ : ∃ z, z = x.num := ⟨_, rfl⟩
      have hlenb : len ≤ 1000000 := by rw [hlen]; exact (h'.out.lst 7 x (List.mem_of_getElem? hx)).2
      have hn100 : num < numTop := by rw [hnm]; exact hnum'.out x (List.mem_of_getElem? hx)
      obtain ⟨la, lc, hsl, hlc, hform⟩ := hown.form
      rw [← hlen] at hsl
      rw [← hlen] at hown hlc
      rw [hsl] at q0 hown hform
      rw [← hnm] at q2
      have hx' := Lib.hid hx
      have hsl' := Lib.hid hsl
      have hlong' := Lib.hid hlong
      have hlen' := Lib.hid hlen
      have hnm' := Lib.hid hnm
      clear hx hsl hlong hlen hnm
      obtain ⟨Wl, hWl⟩ : ∃ W, W = wr.alloc (.cells #[.slice la len lc, .slice none 0 0, .int .i64 (num : Int)] 151) := ⟨_, rfl⟩
      obtain ⟨hl, hhl⟩ : ∃ z, z = wr.heap.size := ⟨_, rfl⟩
      have hEl : Ext wr Wl := by rw [hWl]; exact (Ext.refl _).alloc _
      have hrl : Wl.heap[hl]? = some (.cells #[.slice la len lc, .slice none 0 0, .int .i64 (num : Int)] 151 (0, 0)) := by rw [hWl, hhl]; exact heap_alloc_new wr _
      have hlown : ∀ q, (Value.slice la len lc).ownBlock = some q → q ≠ hl := fun q hq e => by have := (hown.lt q hq).2; omega
      have hownl := hown.ext hEl
      have hWl' := Lib.hid hWl
      have hhl' := Lib.hid hhl
      have hown' := Lib.hid hownl
      have hlown' := Lib.hid hlown
      have hrl' := Lib.hid hrl
      have htab : Hid (∀ w2, OffB (fun q => (Value.slice la len lc).ownBlock = some q) Wl w2 → ∀ W, Ext w2 W → TabW W) := Lib.hid (fun w2 hO2 => tab_of h'.out.tab h'.out.base_le hI.out.off (fun q hq => h'.out.fpb 7 q (.inr hq)) hEl hO2 (fun q hq => (hown.lt q hq).1))
      have hEl' := Lib.hid hEl
      clear hWl hhl hown hownl hlown hrl hEl
      go_upto_region 4 with fail
      rw [← hWl'.out, ← hhl'.out]
      go_wp2_with fail
      go_loopw [4] (fun i w2 => ∃ k2 : Nat, i = .int .i64 k2 ∧ k2 ≤ len ∧ Hid (OwnC w2 base 102 3 (.slice la len lc) len (fillL (mkChangeL num) xs k2)) ∧ Hid (OffB (fun q => (Value.slice la len lc).ownBlock = some q) Wl w2)) (fun i _ => len - (intOf i).toNat)
      case atStart => exact ⟨0, rfl, by omega, Lib.hid (by rw [fillL_zero]; exact hown'.out), Lib.hid (OffB.refl _)⟩
      case round =>
        obtain ⟨k2, rfl, hk2, hown2, hO2⟩ := hrel
        have l0 : wr.cell? ⟨hl, 0, none⟩ = some (.slice la len lc) := hO2.out.cell (by rw [cell_of_row _ _ _ _ _ _ hrl'.out]; rfl) (fun e => hlown'.out hl e rfl)
        by_cases hlt : k2 < len
        · have hlti : (k2 : Int) < (len : Int) := by omega
          have hT : Hid (∀ W, Ext wr W → TabW W) := Lib.hid (htab.out _ hO2.out)
          obtain ⟨b, hb2⟩ : ∃ b, la = some ⟨b, 0, none⟩ := by
            rcases hform with e | e
            · injection e with _ e _
              omega
            · exact e
          subst hb2
          have hput := Lib.hid (fill_put hown2.out hlt (c := mkChangeL num) rfl)
          have hS : Hid (∀ w', OffB (fun q => (Value.slice (some ⟨b, 0, none⟩) len lc).ownBlock = some q) wr w' → w'.cell? ⟨hl, 0, none⟩ = some (.slice (some ⟨b, 0, none⟩) len lc) ∧ w'.cell? ⟨hl, 2, none⟩ = some (.int .i64 (num : Int))) := Lib.hid (fun w' hO => ⟨(hO2.out.trans hO).cell (by rw [cell_of_row _ _ _ _ _ _ hrl'.out]; rfl) (fun e => hlown'.out hl e rfl), (hO2.out.trans hO).cell (by rw [cell_of_row _ _ _ _ _ _ hrl'.out]; rfl) (fun e => hlown'.out hl e rfl)⟩)
          clear q0 q1 q2
          obtain ⟨C, hC⟩ : ∃ C, C = (mkChangeL num).toArray := ⟨_, rfl⟩
          have hmark : Hid (∀ W, Ext wr W → Calls Tryz.prog 125 #[.int .i64 (num : Int)] W fun e w' => e = .returned (.agg C) ∧ Ext W w') := Lib.hid (fun W hE => by rw [hC]; exact markChange_any W num hn100 (fun W' hE' => hT.out W' (hE.trans hE')))
          have hCl : C.toList = mkChangeL num := by rw [hC]
          have hCs : C.size = 3 := by rw [hC]; rfl
          have hC1 : Hid (∀ v ∈ C.toList, v.oneCell' = true) := Lib.hid (by rw [hC]; exact fun v hv => Array.all_eq_true_iff_forall_mem.1 (fillChange_one num) v (by simpa using hv))
          have hput2 : Hid (∀ w', Ext wr w' → w'.there b (k2 * 3) C.toList.length ∧ OwnC (w'.setCells b (k2 * 3) C.toList) base 102 3 (.slice (some ⟨b, 0, none⟩) len lc) len (fillL (mkChangeL num) xs (k2 + 1)) ∧ OffB (fun q => (Value.slice (some ⟨b, 0, none⟩) len lc).ownBlock = some q) wr (w'.setCells b (k2 * 3) C.toList)) := Lib.hid (by rw [hCl]; exact hput.out)
          clear hC hCl hput
          go_upto_region 7 with fail
          go_region_held3 (fun w' => w'.cell? ⟨hl, 0, none⟩ = some (.slice (some ⟨b, 0, none⟩) len lc) ∧ w'.cell? ⟨hl, 2, none⟩ = some (.int .i64 (num : Int))) ((refine hS.out _ ?_; first | exact .of_ext (Ext.refl _).drew | exact .of_ext ((Ext.refl _).drew.trans hE3) | exact hst.2.2)) (first | (go_at_call 125; refine (hmark.out _ (by first | exact (Ext.refl _).drew | exact Ext.refl _)).mono ?_; rintro e w3 ⟨rfl, hE3⟩; have hst := hput2.out _ ((Ext.refl _).drew.trans hE3)) | (rw [run_storeCells_mid _ b (k2 * 3) C.toList hst.1 hC1.out]; go_simp) | fail)
          all_goals
            go_wp2_with fail
            go_roundw
            case rel => exact ⟨k2 + 1, by go_num, by omega, Lib.hid hst.2.1, Lib.hid (hO2.out.trans hst.2.2)⟩
            case measure => simp [intOf]; omega
        · have hlti : ¬ (k2 : Int) < (len : Int) := by omega
          have hke : k2 = len := by omega
          have hnext : Hid (FillI bkT base N0 (T 7) w 7 (k + 1) wr) := Lib.hid (FillI.next h'.out hI.out hx'.out (by rw [hsl'.out]; exact (OffB.of_ext hEl'.out).trans hO2.out) (by
            have h1 := hown2.out
            rw [hke, fill_end _ _ _ hown'.out.1] at h1
            refine ⟨?_, hlong'.out⟩
            rw [hsl'.out, ← hlen'.out, ← hnm'.out]
            exact h1))
          clear hke
          go_wp2_with fail
          go_roundw
          case rel => exact ⟨k + 1, by go_num, by omega, hnext⟩
          case measure => simp [intOf]; omega
    · have hki : ¬ (k : Int) < (M : Int) := by omega
      have hkM2 : k = M := by omega
      have hfin := Lib.hid (FillI.fin h'.out (j := 7) (by rw [← hM'.out, ← hkM2]; exact hI.out))
      clear hkM2
      go_wp2_with fail
      go_end0
      exact ⟨rfl, hfin.out⟩
end Go.Proofs.YthageoibkeebhaaGreatDoor

/- growChange: more is put behind each list. No condition. -/
namespace Go.Proofs.YthageoibkeebhaaGreatDoor
open Go.RowKit
set_option maxRecDepth 100000
set_option maxHeartbeats 4000000
theorem elb_Change : ElemIs Tryz.prog 102 3 40 := by
  refine ElemIs.mk (z := .agg #[.string ⟨#[]⟩, .string ⟨#[]⟩, .bool false]) (by kernel_rfl) (by rfl) (by decide)
theorem growChange_any {base N0 g n : Nat} {T : Nat → Kd} {st : Nat → Nat} {w : World} (h : BkI bkT base N0 g n T st w) (h1 : st 7 = 1) (hnum : ∀ x ∈ (T 7).2, x.num < numTop) (hm : (T 7).2.length ≤ 1000000) :
    Calls Tryz.prog 77 #[.pointer (some ⟨g, 0, none⟩)] w fun e w' => e = .returned (.tuple #[]) ∧ Below base w w' ∧ ∃ hs, (∀ y ∈ hs, y.num < numTop) ∧ hs.length = (T 7).2.length ∧ BkI bkT base N0 g n (upd T 7 ((T 7).1, hs)) (upd st 7 2) w' := by
  obtain ⟨M, hM⟩ : ∃ m, m = (T 7).2.length := ⟨_, rfl⟩
  obtain ⟨ha, hc, hva⟩ : ∃ a c, (T 7).1 = .slice a M c := by
    obtain ⟨a, c, e, _⟩ := (h.hdr 7).form
    exact ⟨a, c, by rw [hM]; exact e⟩
  rw [← hM] at hm
  have hcg : w.cell? ⟨g, 7, none⟩ = some (.slice ha M hc) := by rw [cell_of_row _ _ _ _ _ _ h.row, ← hva]; rfl
  have hM' := Lib.hid hM
  have hnum' := Lib.hid hnum
  have h' := Lib.hid h
  have h1' := Lib.hid h1
  have hva' := Lib.hid hva
  clear hM hnum h h1 hva
  go_enter Tryz.func77, Tryz.ntmps77
  go_wp2_with fail
  go_loopw [2, 3, 4, 5] (fun i _ _ _ wr => ∃ (k : Nat) (hs : List Hd), i = .int .i64 k ∧ k ≤ M ∧ Hid (GrowI bkT base N0 (T 7) w 7 k hs wr)) (fun i _ _ _ _ => M - (intOf i).toNat)
  case atStart => exact ⟨0, _, rfl, by omega, Lib.hid (GrowI.start h'.out 7 h1'.out)⟩
  case round =>
    obtain ⟨k, hs, rfl, hk, hI⟩ := hrel
    have hcg2 := hI.out.cellg h'.out hcg
    by_cases hkM : k < M
    · have hki : (k : Int) < (M : Int) := by omega
      obtain ⟨x, hx⟩ : ∃ x, (T 7).2[k]? = some x := ⟨_, List.getElem?_eq_getElem (by rw [← hM'.out]; exact hkM)⟩
      obtain ⟨y, hy, _, _, _, _, hyx⟩ := hI.out.all k x hx
      obtain ⟨rfl, hst1⟩ := hyx (Nat.le_refl _)
      have hhd := hI.out.hdr
      rw [← hI.out.len] at hhd
      obtain ⟨hb, hcap, e1, ec, q0, q1, q2, qf⟩ := hdr_cells hhd hy
      have qf1 := qf 1 (by decide)
      rw [hva'.out] at e1
      injection e1 with e1 elen e3
      clear elen hhd qf
      subst e1 e3
      rw [hI.out.len, ← hM'.out] at ec
      obtain ⟨hown, hlong⟩ := hst1
      rw [hlong] at q1
      obtain ⟨len, hlen⟩ : ∃ z, z = y.len := ⟨_, rfl⟩
      obtain ⟨num, hnm⟩ : ∃ z, z = y.num := ⟨_, rfl⟩
      have hlenb : len ≤ 1000000 := by rw [hlen]; exact (h'.out.lst 7 y (List.mem_of_getElem? hx)).2
      have hn100 : num < numTop := by rw [hnm]; exact hnum'.out y (List.mem_of_getElem? hx)
      obtain ⟨la, lc, hsl, hlc, hform⟩ := hown.form
      rw [← hlen] at hsl
      rw [← hlen, ← hnm] at hown
      rw [← hlen] at hlc
      rw [hsl] at q0 hown hform
      rw [← hnm] at q2
      have hx' := Lib.hid hx
      have hsl' := Lib.hid hsl
      have hlen' := Lib.hid hlen
      have hnm' := Lib.hid hnm
      clear hx hsl hlong hlen hnm hyx hy hform
      obtain ⟨Wl, hWl⟩ : ∃ W, W = wr.alloc (.cells #[.slice la len lc, .slice none 0 0, .int .i64 (num : Int)] 151) := ⟨_, rfl⟩
      obtain ⟨hl, hhl⟩ : ∃ z, z = wr.heap.size := ⟨_, rfl⟩
      have hEl : Ext wr Wl := by rw [hWl]; exact (Ext.refl _).alloc _
      have hrl : Wl.heap[hl]? = some (.cells #[.slice la len lc, .slice none 0 0, .int .i64 (num : Int)] 151 (0, 0)) := by rw [hWl, hhl]; exact heap_alloc_new wr _
      have hlown : ∀ q, (Value.slice la len lc).ownBlock = some q → q < hl := fun q hq => by have := (hown.lt q hq).2; omega
      have hhbl : hb < hl := by
        rw [hhl]
        exact World.block_lt_of_cell? wr _ q0
      have hhbo : ∀ q, (Value.slice la len lc).ownBlock = some q → q ≠ hb := fun q hq e => by
        have h5 : y.sl ∈ sls (T 7) := List.mem_map_of_mem (List.mem_of_getElem? hx'.out)
        exact h'.out.seph 7 _ h5 hb (by rw [hva'.out]; rfl) (by rw [hsl'.out, ← e]; exact hq)
      have hbase : base ≤ Wl.heap.size := Nat.le_trans (Nat.le_trans h'.out.gb (Nat.le_trans (Nat.le_of_lt h'.out.gN) h'.out.big)) (Nat.le_trans hI.out.off.size hEl.size)
      have hownl := hown.ext hEl
      have r1 := hEl.cell q1
      have r1f : Wl.frozen? ⟨hb, k * 3 + 1, none⟩ = false := by rw [World.frozen?_of_block (w := wr) (Below.block hEl hb (World.block_lt_of_cell? wr _ q0))]; exact qf1
      have hsz : Hid (Wl.heap.size = hl + 1) := Lib.hid (by rw [hWl, hhl]; simp)
      have hWl' := Lib.hid hWl
      have hhl' := Lib.hid hhl
      have hown' := Lib.hid hownl
      have hlown' := Lib.hid hlown
      have hrl' := Lib.hid hrl
      have htab : Hid (∀ w2, OffB (fun q => (Value.slice la len lc).ownBlock = some q) Wl w2 → ∀ W, Ext w2 W → TabW W) := Lib.hid (fun w2 hO2 => tab_of h'.out.tab h'.out.base_le hI.out.off (fun q hq => h'.out.fpb 7 q hq) hEl hO2 (fun q hq => (hown.lt q hq).1))
      have hEl' := Lib.hid hEl
      have hhbo' := Lib.hid hhbo
      have hbase' := Lib.hid hbase
      have r1' := Lib.hid r1
      have r1f' := Lib.hid r1f
      clear hWl hhl hown hownl hlown hrl hEl hhbo hbase r1 r1f qf1
      have l0 : Wl.cell? ⟨hl, 0, none⟩ = some (.slice la len lc) := by rw [cell_of_row _ _ _ _ _ _ hrl'.out]; rfl
      go_upto_region 4 with fail
      rw [← hWl'.out, ← hhl'.out]
      go_wp2_with fail
      go_loopw [4, 5] (fun lv i w2 => ∃ (c : Nat) (va : Option Addr) (vc : Nat), i = .int .i64 c ∧ c ≤ 40 ∧ lv = .slice va (len + c) vc ∧ Hid (OwnC w2 base 102 3 (.slice va (len + c) vc) (len + c) (reps (mkChangeL num) (len + c))) ∧ Hid (OwnC w2 base 102 3 (.slice la len lc) len (reps (mkChangeL num) len)) ∧ Hid (OffB (fun q => (Value.slice la len lc).ownBlock = some q) Wl w2) ∧ Hid (∀ q, (Value.slice va (len + c) vc).ownBlock = some q → (Value.slice la len lc).ownBlock = some q ∨ Wl.heap.size ≤ q)) (fun _ i _ => 40 - (intOf i).toNat)
      case atStart => exact ⟨0, la, lc, rfl, by omega, rfl, Lib.hid hown'.out, Lib.hid hown'.out, Lib.hid (OffB.refl _), Lib.hid (fun q hq => .inl hq)⟩
      case round =>
        clear l0 q0 q1 q2 hcg2
        obtain ⟨c, va, vc, rfl, hc40, rfl, hlo, hso, hO2, hq2⟩ := hrel
        by_cases hlt : c < 40
        · have hlti : (c : Int) < 40 := by omega
          have hT : Hid (∀ W, Ext wr W → TabW W) := Lib.hid (htab.out _ hO2.out)
          have l2 : wr.cell? ⟨hl, 2, none⟩ = some (.int .i64 (num : Int)) := hO2.out.cell (by rw [cell_of_row _ _ _ _ _ _ hrl'.out]; rfl) (fun e => by have := hlown'.out hl e; omega)
          obtain ⟨s, hs2⟩ : ∃ s, s = wordB num := ⟨_, rfl⟩
          have hmark : ∀ W, Ext wr W → Calls Tryz.prog 125 #[.int .i64 (num : Int)] W fun e w' => e = .returned (.agg #[.string s, .string ⟨#[]⟩, .bool false]) ∧ Ext W w' := fun W hE => by rw [hs2]; exact markChange_any W num hn100 (fun W' hE' => hT.out W' (hE.trans hE'))
          have hrs : Hid (∀ m, reps (mkChangeL num) (m + 1) = reps (mkChangeL num) m ++ (#[.string s, .string ⟨#[]⟩, .bool false] : Array Value).toList) := Lib.hid (fun m => by rw [reps_succ, hs2]; rfl)
          have hfin : Hid (∀ w3 v' w4, Ext wr w3 → AppK w3 w4 base 102 3 (.slice va (len + c) vc) v' (len + c) (reps (mkChangeL num) (len + c)) (#[.string s, .string ⟨#[]⟩, .bool false] : Array Value).toList → OwnC w4 base 102 3 v' (len + (c + 1)) (reps (mkChangeL num) (len + (c + 1))) ∧ OwnC w4 base 102 3 (.slice la len lc) len (reps (mkChangeL num) len) ∧ OffB (fun q => (Value.slice la len lc).ownBlock = some q) Wl w4 ∧ ∀ q, v'.ownBlock = some q → (Value.slice la len lc).ownBlock = some q ∨ Wl.heap.size ≤ q) := Lib.hid (fun w3 v' w4 hE hA => by
            refine ⟨?_, hA.keep (hso.out.ext hE) (by omega), ?_, fun q hq => ?_⟩
            · rw [← Nat.add_assoc, hrs.out]; exact hA.own
            · have h6 := OffB.trans (hO2.out.mono (B' := fun q => (Value.slice la len lc).ownBlock = some q ∨ (Value.slice va (len + c) vc).ownBlock = some q) fun q hq => .inl hq) (OffB.trans (.of_ext hE) (hA.off.mono fun q hq => .inr hq))
              exact h6.past (fun q hq hB => by
                rcases hB with hB | hB
                · exact hB
                · rcases hq2.out q hB with h7 | h7
                  · exact h7
                  · omega)
            · rcases hA.at_ q hq with h7 | h7
              · exact hq2.out q h7
              · exact .inr (Nat.le_trans (Nat.le_trans hO2.out.size hE.size) h7))
          have hbase2 : Hid (∀ w3, Ext wr w3 → base ≤ w3.heap.size) := Lib.hid (fun w3 hE => Nat.le_trans hbase'.out (Nat.le_trans hO2.out.size hE.size))
          clear hs2
          go_wp2_with fail
          refine (hmark _ (by first | exact (Ext.refl _).drew | exact Ext.refl _)).mono ?_
          rintro e w3 ⟨rfl, hE3⟩
          have hlo3 := Lib.hid (hlo.out.ext hE3)
          have hb3 := hbase2.out w3 hE3
          go_wp2_with (first | (at_builtin; go_loud (refine wpList_append_k (by rfl) (.tmp 28) (.tmp 32) 64 102 (by rfl) Tryz.underlying64 elb_Change w3 base (len + c) _ (.slice va (len + c) vc) (by rfl) hlo3.out #[.string s, .string ⟨#[]⟩, .bool false] (by rfl) (by rfl) (by simp [Value.oneCell']) (by omega) (by omega) hb3 ?_); go_loud (intro v' w4 hA; obtain ⟨oa4, oc4, rfl, _⟩ := hA.own.form; obtain ⟨f1, f2, f3, f4⟩ := hfin.out w3 _ w4 hE3 hA; clear hA)) | fail)
          go_roundw
          case rel => exact ⟨c + 1, oa4, oc4, by go_num, by omega, rfl, Lib.hid f1, Lib.hid f2, Lib.hid f3, Lib.hid f4⟩
          case measure => simp [intOf]; omega
        · have hlti : ¬ (c : Int) < 40 := by omega
          obtain rfl : c = 40 := by omega
          have s1 := hO2.out.cell r1'.out (fun e => hhbo'.out hb e rfl)
          have s1f : wr.frozen? ⟨hb, k * 3 + 1, none⟩ = false := by rw [hO2.out.frozen r1'.out (fun e => hhbo'.out hb e rfl)]; exact r1f'.out
          have sg : wr.cell? ⟨g, 7, none⟩ = some (.slice (some ⟨hb, 0, none⟩) M hc) := hO2.out.cell (hEl'.out.cell (hI.out.cellg h'.out hcg)) (fun e => by
            have h5 : y.sl ∈ sls (T 7) := List.mem_map_of_mem (List.mem_of_getElem? hx'.out)
            exact h'.out.sepg 7 (.inr ⟨_, h5, by rw [hsl'.out]; exact e⟩))
          have hnext := Lib.hid (GrowI.next h'.out hI.out hx'.out (by rw [hva'.out, hM'.out]) (by rw [hsl'.out]; exact (OffB.of_ext hEl'.out).trans hO2.out) (.slice va (len + 40) vc) (by rw [hsl'.out, ← hlen'.out, ← hnm'.out]; exact hso.out) (by rw [← hlen'.out, ← hnm'.out]; exact hlo.out) (fun q hq => by
            rw [hsl'.out]
            rcases hq2.out q hq with h7 | h7
            · exact .inl h7
            · exact .inr (Nat.le_trans hEl'.out.size h7)))
          go_wp2_with fail
          go_roundw
          case rel => exact ⟨k + 1, _, by go_num, by omega, hnext⟩
          case measure => simp [intOf]; omega
    · have hki : ¬ (k : Int) < (M : Int) := by omega
      have hkM2 : k = M := by omega
      have hfin := Lib.hid (GrowI.fin h'.out (j := 7) (hs := hs) (by rw [← hM'.out, ← hkM2]; exact hI.out))
      have hnums : Hid (∀ y ∈ hs, y.num < numTop) := Lib.hid (fun y hy => by
        obtain ⟨i, hi⟩ := List.mem_iff_getElem?.1 hy
        obtain ⟨x, hx⟩ : ∃ x, (T 7).2[i]? = some x := ⟨_, List.getElem?_eq_getElem (by rw [← hI.out.len]; exact (List.getElem?_eq_some_iff.1 hi).1)⟩
        obtain ⟨y', hy', _, _, e3, _⟩ := hI.out.all i x hx
        rw [hi] at hy'
        injection hy' with hy'
        rw [hy', e3]
        exact hnum'.out x (List.mem_of_getElem? hx))
      have hlen := Lib.hid hI.out.len
      clear hkM2
      go_wp2_with fail
      go_end0
      exact ⟨rfl, hfin.out.1, hs, hnums.out, hlen.out, hfin.out.2⟩
end Go.Proofs.YthageoibkeebhaaGreatDoor

/- lookChange: all lists, and what is behind them, are looked at. No condition. -/
namespace Go.Proofs.YthageoibkeebhaaGreatDoor
open Go.RowKit
set_option maxRecDepth 100000
set_option maxHeartbeats 4000000
theorem lookChange_any {base N0 g n : Nat} {T : Nat → Kd} {st : Nat → Nat} {w : World} (h : BkI bkT base N0 g n T st w) (h2 : st 7 = 2) (hnum : ∀ x ∈ (T 7).2, x.num < numTop) (hm : (T 7).2.length ≤ 1000000) :
    Calls Tryz.prog 90 #[.pointer (some ⟨g, 0, none⟩)] w fun e w' => e = .returned (.bool true) ∧ Ext w w' := by
  obtain ⟨M, hM⟩ : ∃ m, m = (T 7).2.length := ⟨_, rfl⟩
  obtain ⟨ha, hc, hva⟩ : ∃ a c, (T 7).1 = .slice a M c := by
    obtain ⟨a, c, e, _⟩ := (h.hdr 7).form
    exact ⟨a, c, by rw [hM]; exact e⟩
  rw [← hM] at hm
  have hcg : w.cell? ⟨g, 7, none⟩ = some (.slice ha M hc) := by rw [cell_of_row _ _ _ _ _ _ h.row, ← hva]; rfl
  have hM' := Lib.hid hM
  have hnum' := Lib.hid hnum
  have h' := Lib.hid h
  have h2' := Lib.hid h2
  have hva' := Lib.hid hva
  clear hM hnum h h2 hva
  go_enter Tryz.func90, Tryz.ntmps90
  go_wp2_with fail
  go_loopw [3, 4, 5] (fun i _ _ wr => ∃ k : Nat, i = .int .i64 k ∧ k ≤ M ∧ Ext w wr) (fun i _ _ _ => M - (intOf i).toNat)
  case atStart => exact ⟨0, rfl, by omega, Ext.refl _⟩
  case round =>
    obtain ⟨k, rfl, hk, hE⟩ := hrel
    have hcg2 := hE.cell hcg
    by_cases hkM : k < M
    · have hki : (k : Int) < (M : Int) := by omega
      obtain ⟨y, hy⟩ : ∃ x, (T 7).2[k]? = some x := ⟨_, List.getElem?_eq_getElem (by rw [← hM'.out]; exact hkM)⟩
      have hI := h'.out.ext hE
      obtain ⟨hb, hcap, e1, ec, q0, q1, q2, _⟩ := hdr_cells (hI.hdr 7) hy
      rw [hva'.out] at e1
      injection e1 with e1 elen e3
      clear elen
      subst e1 e3
      rw [← hM'.out] at ec
      have hst := (hI.lst 7 y (List.mem_of_getElem? hy)).1
      rw [h2'.out] at hst
      obtain ⟨hown, hlong, _⟩ := hst
      have hlb := (hI.lst 7 y (List.mem_of_getElem? hy)).2
      have hn1 := hnum'.out y (List.mem_of_getElem? hy)
      obtain ⟨len, hlen⟩ : ∃ z, z = y.len := ⟨_, rfl⟩
      obtain ⟨num, hnm⟩ : ∃ z, z = y.num := ⟨_, rfl⟩
      obtain ⟨la, lc, hsl, hlc, _⟩ := hown.form
      obtain ⟨ga, gc, hgl, hgc, _⟩ := hlong.form
      rw [← hlen] at hsl hgl hlb
      rw [← hnm] at hn1
      have hr1 := hown.row
      have hr2 := hlong.row
      rw [hsl, ← hlen, ← hnm] at hr1
      rw [hgl, ← hlen, ← hnm] at hr2
      rw [hsl] at q0
      rw [hgl] at q1
      rw [← hnm] at q2
      have hr1' := Lib.hid hr1
      obtain ⟨gb, go, e4, hgc2, hrl⟩ := reps_range hr2 rfl (by omega)
      subst e4
      have hrl' := Lib.hid hrl
      clear hown hlong hlen hnm hsl hgl hr1 hr2 hI hrl hlc hgc hy
      obtain ⟨Wl, hWl⟩ : ∃ W, W = wr.alloc (.cells #[.slice la len lc, .slice (some ⟨gb, go, none⟩) (len + 40) gc, .int .i64 (num : Int)] 151) := ⟨_, rfl⟩
      obtain ⟨hl, hhl⟩ : ∃ z, z = wr.heap.size := ⟨_, rfl⟩
      have hEl : Ext wr Wl := by rw [hWl]; exact (Ext.refl _).alloc _
      have hrow : Wl.heap[hl]? = some (.cells #[.slice la len lc, .slice (some ⟨gb, go, none⟩) (len + 40) gc, .int .i64 (num : Int)] 151 (0, 0)) := by rw [hWl, hhl]; exact heap_alloc_new wr _
      have hL : Hid (∀ w', Ext Wl w' → w'.cell? ⟨hl, 0, none⟩ = some (.slice la len lc) ∧ w'.cell? ⟨hl, 1, none⟩ = some (.slice (some ⟨gb, go, none⟩) (len + 40) gc) ∧ w'.cell? ⟨hl, 2, none⟩ = some (.int .i64 (num : Int))) := Lib.hid (fun w' h => by
        have h1 := h.row hrow
        exact ⟨by rw [cell_of_row _ _ _ _ _ _ h1]; rfl, by rw [cell_of_row _ _ _ _ _ _ h1]; rfl, by rw [cell_of_row _ _ _ _ _ _ h1]; rfl⟩)
      obtain ⟨l0, l1, l2⟩ := hL.out Wl (Ext.refl _)
      have e40 : ((len + 40 : Nat) : Int) = (len : Int) + 40 := by omega
      have hw40 : IntKind.i64.wrap ((len : Int) + 40) = (len : Int) + 40 := by rw [IntKind.wrap_i64]; omega
      have hWl' := Lib.hid hWl
      have hhl' := Lib.hid hhl
      have hEl' := Lib.hid hEl
      clear hWl hhl hEl hrow
      go_upto_region 5 with fail
      rw [← hWl'.out, ← hhl'.out]
      go_wp2_with fail
      go_loopw [5] (fun i w2 => ∃ k2 : Nat, i = .int .i64 k2 ∧ k2 ≤ len + 40 ∧ Ext Wl w2) (fun i _ => len + 40 - (intOf i).toNat)
      case atStart => exact ⟨0, rfl, by omega, Ext.refl _⟩
      case round =>
        clear l0 l1 l2 q0 q1 q2 hcg2 hw40
        obtain ⟨k2, rfl, hk2, hE2⟩ := hrel
        obtain ⟨l0, l1, l2⟩ := hL.out _ hE2
        by_cases hlt : k2 < len + 40
        · have hlti : (k2 : Int) < (len : Int) + 40 := by omega
          have hT : Hid (∀ W, Ext wr W → TabW W) := Lib.hid (fun W hE4 => h'.out.tab W ((((hE.trans hEl'.out).trans hE2).trans hE4).mono h'.out.base_le))
          obtain ⟨s, hs2⟩ : ∃ s, s = wordB num := ⟨_, rfl⟩
          have his : Hid (∀ W, Ext wr W → Calls Tryz.prog 138 #[.agg #[.string s, .string ⟨#[]⟩, .bool false], .int .i64 (num : Int)] W fun e w' => e = .returned (.bool true) ∧ Ext W w') := Lib.hid (fun W hE => by rw [hs2]; exact isChange_any W num hn1 (fun W' hE' => hT.out W' (hE.trans hE')))
          have hmk : Hid (mkChangeL num = [.string s, .string ⟨#[]⟩, .bool false]) := Lib.hid (by rw [hs2]; rfl)
          have hg2 : wr.rangeAt gb (go + k2 * 3) (mkChangeL num) := fun i v hv => hE2.cell (hEl'.out.cell (hrl'.out k2 hlt i v hv))
          rw [hmk.out] at hg2
          clear hs2
          by_cases hin : k2 < len
          · have hini : (k2 : Int) < (len : Int) := by omega
            obtain ⟨ab, ao, e5, _, hra⟩ := reps_range hr1'.out rfl (by omega)
            subst e5
            have ha2 : wr.rangeAt ab (ao + k2 * 3) (mkChangeL num) := fun i v hv => hE2.cell (hEl'.out.cell (hra k2 hin i v hv))
            rw [hmk.out] at ha2
            clear hra
            go_upto_region 10 with fail
            refine bqRegion (Ext wr) (by kernel_rfl) (by kernel_rfl) (Ext.refl _).drew ?_
            iterate 1 (refine bqStep (fun K hK => ?_); go_simp; first | (refine hK _ ?_; clear hK K) | (refine ⟨_, fun _ _ => rfl, hK _ ?_⟩; clear hK K))
            refine bqCell (by rfl) 64 _ (by rfl) hl 1 (by rfl) _ (fun w' hw => (hL.out w' (hE2.trans hw)).2.1) _ Tryz.underlying64 rfl ?_
            iterate 2 (refine bqStep (fun K hK => ?_); go_simp; first | (refine hK _ ?_; clear hK K) | (refine ⟨_, fun _ _ => rfl, hK _ ?_⟩; clear hK K))
            refine bqMid (by rfl) 102 _ (by rfl) gb (go + k2 * 3) (by rfl) [.string s, .string ⟨#[]⟩, .bool false] _ (fun w' hw i v hv => hw.cell (hg2 i v hv)) Tryz.underlying102 rfl (by exact info_changeM) ?_
            iterate 1 (refine bqStep (fun K hK => ?_); go_simp; first | (refine hK _ ?_; clear hK K) | (refine ⟨_, fun _ _ => rfl, hK _ ?_⟩; clear hK K))
            refine bqCell (by rfl) 3 _ (by rfl) hl 2 (by rfl) _ (fun w' hw => (hL.out w' (hE2.trans hw)).2.2) _ Tryz.underlying3 rfl ?_
            refine bqStep (fun K hK => ?_); go_simp; refine ⟨_, fun w' hw => (his.out w' hw).mono (fun e w'' h => ⟨h.1, hw.trans h.2⟩), hK _ ?_⟩; clear hK K
            iterate 4 (refine bqStep (fun K hK => ?_); go_simp; first | (refine hK _ ?_; clear hK K) | (refine ⟨_, fun _ _ => rfl, hK _ ?_⟩; clear hK K))
            refine bqCell (by rfl) 64 _ (by rfl) hl 0 (by rfl) _ (fun w' hw => (hL.out w' (hE2.trans hw)).1) _ Tryz.underlying64 rfl ?_
            iterate 3 (refine bqStep (fun K hK => ?_); go_simp; first | (refine hK _ ?_; clear hK K) | (refine ⟨_, fun _ _ => rfl, hK _ ?_⟩; clear hK K))
            iterate 1 (refine bqStep (fun K hK => ?_); go_simp; first | (refine hK _ ?_; clear hK K) | (refine ⟨_, fun _ _ => rfl, hK _ ?_⟩; clear hK K))
            refine bqCell (by rfl) 64 _ (by rfl) hl 0 (by rfl) _ (fun w' hw => (hL.out w' (hE2.trans hw)).1) _ Tryz.underlying64 rfl ?_
            iterate 2 (refine bqStep (fun K hK => ?_); go_simp; first | (refine hK _ ?_; clear hK K) | (refine ⟨_, fun _ _ => rfl, hK _ ?_⟩; clear hK K))
            refine bqMid (by rfl) 102 _ (by rfl) ab (ao + k2 * 3) (by rfl) [.string s, .string ⟨#[]⟩, .bool false] _ (fun w' hw i v hv => hw.cell (ha2 i v hv)) Tryz.underlying102 rfl (by exact info_changeM) ?_
            iterate 1 (refine bqStep (fun K hK => ?_); go_simp; first | (refine hK _ ?_; clear hK K) | (refine ⟨_, fun _ _ => rfl, hK _ ?_⟩; clear hK K))
            refine bqCell (by rfl) 3 _ (by rfl) hl 2 (by rfl) _ (fun w' hw => (hL.out w' (hE2.trans hw)).2.2) _ Tryz.underlying3 rfl ?_
            refine bqStep (fun K hK => ?_); go_simp; refine ⟨_, fun w' hw => (his.out w' hw).mono (fun e w'' h => ⟨h.1, hw.trans h.2⟩), hK _ ?_⟩; clear hK K
            iterate 1 (refine bqStep (fun K hK => ?_); go_simp; first | (refine hK _ ?_; clear hK K) | (refine ⟨_, fun _ _ => rfl, hK _ ?_⟩; clear hK K))
            iterate 2 (refine bqStep (fun K hK => ?_); go_simp; first | (refine hK _ ?_; clear hK K) | (refine ⟨_, fun _ _ => rfl, hK _ ?_⟩; clear hK K))
            refine bqNil (fun w9 hE9 => ?_)
            try simp only [Act.put, List.setIfInBounds_toArray, List.set_cons_zero, List.set_cons_succ]
            go_wp2_with fail
            go_roundw
            case rel => exact ⟨k2 + 1, by go_num, by omega, hE2.trans hE9⟩
            case measure => simp [intOf]; omega
          · have hini : ¬ (k2 : Int) < (len : Int) := by omega
            have hind : decide ((k2 : Int) < (len : Int)) = false := decide_eq_false hini
            have hind2 : decide (k2 < len) = false := decide_eq_false hin
            go_upto_region 10 with fail
            refine bqRegion (Ext wr) (by kernel_rfl) (by kernel_rfl) (Ext.refl _).drew ?_
            iterate 1 (refine bqStep (fun K hK => ?_); go_simp; first | (refine hK _ ?_; clear hK K) | (refine ⟨_, fun _ _ => rfl, hK _ ?_⟩; clear hK K))
            refine bqCell (by rfl) 64 _ (by rfl) hl 1 (by rfl) _ (fun w' hw => (hL.out w' (hE2.trans hw)).2.1) _ Tryz.underlying64 rfl ?_
            iterate 2 (refine bqStep (fun K hK => ?_); go_simp; first | (refine hK _ ?_; clear hK K) | (refine ⟨_, fun _ _ => rfl, hK _ ?_⟩; clear hK K))
            refine bqMid (by rfl) 102 _ (by rfl) gb (go + k2 * 3) (by rfl) [.string s, .string ⟨#[]⟩, .bool false] _ (fun w' hw i v hv => hw.cell (hg2 i v hv)) Tryz.underlying102 rfl (by exact info_changeM) ?_
            iterate 1 (refine bqStep (fun K hK => ?_); go_simp; first | (refine hK _ ?_; clear hK K) | (refine ⟨_, fun _ _ => rfl, hK _ ?_⟩; clear hK K))
            refine bqCell (by rfl) 3 _ (by rfl) hl 2 (by rfl) _ (fun w' hw => (hL.out w' (hE2.trans hw)).2.2) _ Tryz.underlying3 rfl ?_
            refine bqStep (fun K hK => ?_); go_simp; refine ⟨_, fun w' hw => (his.out w' hw).mono (fun e w'' h => ⟨h.1, hw.trans h.2⟩), hK _ ?_⟩; clear hK K
            iterate 4 (refine bqStep (fun K hK => ?_); go_simp; first | (refine hK _ ?_; clear hK K) | (refine ⟨_, fun _ _ => rfl, hK _ ?_⟩; clear hK K))
            refine bqCell (by rfl) 64 _ (by rfl) hl 0 (by rfl) _ (fun w' hw => (hL.out w' (hE2.trans hw)).1) _ Tryz.underlying64 rfl ?_
            iterate 3 (refine bqStep (fun K hK => ?_); go_simp; first | (refine hK _ ?_; clear hK K) | (refine ⟨_, fun _ _ => rfl, hK _ ?_⟩; clear hK K))
            iterate 9 (refine bqSkip (by rfl) ?_; simp only [Act.put, List.setIfInBounds_toArray, List.set_cons_zero, List.set_cons_succ])
            iterate 2 (refine bqStep (fun K hK => ?_); go_simp; first | (refine hK _ ?_; clear hK K) | (refine ⟨_, fun _ _ => rfl, hK _ ?_⟩; clear hK K))
            refine bqNil (fun w9 hE9 => ?_)
            try simp only [Act.put, List.setIfInBounds_toArray, List.set_cons_zero, List.set_cons_succ]
            go_wp2_with fail
            go_roundw
            case rel => exact ⟨k2 + 1, by go_num, by omega, hE2.trans hE9⟩
            case measure => simp [intOf]; omega
        · have hlti : ¬ (k2 : Int) < (len : Int) + 40 := by omega
          have hEn := Lib.hid ((hE.trans hEl'.out).trans hE2)
          go_wp2_with fail
          go_roundw
          case rel => exact ⟨k + 1, by go_num, by omega, hEn.out⟩
          case measure => simp [intOf]; omega
    · have hki : ¬ (k : Int) < (M : Int) := by omega
      go_wp2_with fail
      go_ret
      exact ⟨rfl, hE⟩
end Go.Proofs.YthageoibkeebhaaGreatDoor

/- fillSaid: all lists are written over. No condition. -/
namespace Go.Proofs.YthageoibkeebhaaGreatDoor
open Go.RowKit
set_option maxRecDepth 100000
set_option maxHeartbeats 4000000
theorem fillSaid_one (n : Nat) : (mkSaidL n).toArray.all (·.oneCell') = true := by kernel_rfl
theorem fillSaid_any {base N0 g n : Nat} {T : Nat → Kd} {st : Nat → Nat} {w : World} (h : BkI bkT base N0 g n T st w) (h0 : st 11 = 0) (hnum : ∀ x ∈ (T 11).2, x.num < numTop) (hm : (T 11).2.length ≤ 1000000) :
    Calls Tryz.prog 68 #[.pointer (some ⟨g, 0, none⟩)] w fun e w' => e = .returned (.tuple #[]) ∧ Below base w w' ∧ BkI bkT base N0 g n T (upd st 11 1) w' := by
  obtain ⟨M, hM⟩ : ∃ m, m = (T 11).2.length := ⟨_, rfl⟩
  obtain ⟨ha, hc, hva⟩ : ∃ a c, (T 11).1 = .slice a M c := by
    obtain ⟨a, c, e, _⟩ := (h.hdr 11).form
    exact ⟨a, c, by rw [hM]; exact e⟩
  rw [← hM] at hm
  have hcg : w.cell? ⟨g, 11, none⟩ = some (.slice ha M hc) := by rw [cell_of_row _ _ _ _ _ _ h.row, ← hva]; rfl
  have hM' := Lib.hid hM
  have hnum' := Lib.hid hnum
  have h' := Lib.hid h
  have h0' := Lib.hid h0
  have hva' := Lib.hid hva
  clear hM hnum h h0 hva
  go_enter Tryz.func68, Tryz.ntmps68
  go_wp2_with fail
  go_loopw [2, 3, 4] (fun i _ _ wr => ∃ k : Nat, i = .int .i64 k ∧ k ≤ M ∧ Hid (FillI bkT base N0 (T 11) w 11 k wr)) (fun i _ _ _ => M - (intOf i).toNat)
  case atStart => exact ⟨0, rfl, by omega, Lib.hid (FillI.start h'.out 11 h0'.out)⟩
  case round =>
    obtain ⟨k, rfl, hk, hI⟩ := hrel
    have hcg2 := h'.out.cellg 11 hI.out.off hcg
    by_cases hkM : k < M
    · have hki : (k : Int) < (M : Int) := by omega
      obtain ⟨x, hx⟩ : ∃ x, (T 11).2[k]? = some x := ⟨_, List.getElem?_eq_getElem (by rw [← hM'.out]; exact hkM)⟩
      obtain ⟨hb, hcap, e1, ec, q0, q1, q2, _⟩ := hdr_cells (h'.out.hdr_off 11 hI.out.off) hx
      rw [hva'.out] at e1
      injection e1 with e1 elen e3
      clear elen
      subst e1 e3
      rw [← hM'.out] at ec
      obtain ⟨⟨xs, hown⟩, hlong⟩ := hI.out.old k x hx (Nat.le_refl _)
      rw [hlong] at q1
      obtain ⟨len, hlen⟩ : ∃ z, z = x.len := ⟨_, rfl⟩
      obtain ⟨num, hnm⟩ : ∃ z, z = x.num := ⟨_, rfl⟩
      have hlenb : len ≤ 1000000 := by rw [hlen]; exact (h'.out.lst 11 x (List.mem_of_getElem? hx)).2
      have hn100 : num < numTop := by rw [hnm]; exact hnum'.out x (List.mem_of_getElem? hx)
      obtain ⟨la, lc, hsl, hlc, hform⟩ := hown.form
      rw [← hlen] at hsl
      rw [← hlen] at hown hlc
      rw [hsl] at q0 hown hform
      rw [← hnm] at q2
      have hx' := Lib.hid hx
      have hsl' := Lib.hid hsl
      have hlong' := Lib.hid hlong
      have hlen' := Lib.hid hlen
      have hnm' := Lib.hid hnm
      clear hx hsl hlong hlen hnm
      obtain ⟨Wl, hWl⟩ : ∃ W, W = wr.alloc (.cells #[.slice la len lc, .slice none 0 0, .int .i64 (num : Int)] 127) := ⟨_, rfl⟩
      obtain ⟨hl, hhl⟩ : ∃ z, z = wr.heap.size := ⟨_, rfl⟩
      have hEl : Ext wr Wl := by rw [hWl]; exact (Ext.refl _).alloc _
      have hrl : Wl.heap[hl]? = some (.cells #[.slice la len lc, .slice none 0 0, .int .i64 (num : Int)] 127 (0, 0)) := by rw [hWl, hhl]; exact heap_alloc_new wr _
      have hlown : ∀ q, (Value.slice la len lc).ownBlock = some q → q ≠ hl := fun q hq e => by have := (hown.lt q hq).2; omega
      have hownl := hown.ext hEl
      have hWl' := Lib.hid hWl
      have hhl' := Lib.hid hhl
      have hown' := Lib.hid hownl
      have hlown' := Lib.hid hlown
      have hrl' := Lib.hid hrl
      have htab : Hid (∀ w2, OffB (fun q => (Value.slice la len lc).ownBlock = some q) Wl w2 → ∀ W, Ext w2 W → TabW W) := Lib.hid (fun w2 hO2 => tab_of h'.out.tab h'.out.base_le hI.out.off (fun q hq => h'.out.fpb 11 q (.inr hq)) hEl hO2 (fun q hq => (hown.lt q hq).1))
      have hEl' := Lib.hid hEl
      clear hWl hhl hown hownl hlown hrl hEl
      go_upto_region 4 with fail
      rw [← hWl'.out, ← hhl'.out]
      go_wp2_with fail
      go_loopw [4] (fun i w2 => ∃ k2 : Nat, i = .int .i64 k2 ∧ k2 ≤ len ∧ Hid (OwnC w2 base 87 5 (.slice la len lc) len (fillL (mkSaidL num) xs k2)) ∧ Hid (OffB (fun q => (Value.slice la len lc).ownBlock = some q) Wl w2)) (fun i _ => len - (intOf i).toNat)
      case atStart => exact ⟨0, rfl, by omega, Lib.hid (by rw [fillL_zero]; exact hown'.out), Lib.hid (OffB.refl _)⟩
      case round =>
        obtain ⟨k2, rfl, hk2, hown2, hO2⟩ := hrel
        have l0 : wr.cell? ⟨hl, 0, none⟩ = some (.slice la len lc) := hO2.out.cell (by rw [cell_of_row _ _ _ _ _ _ hrl'.out]; rfl) (fun e => hlown'.out hl e rfl)
        by_cases hlt : k2 < len
        · have hlti : (k2 : Int) < (len : Int) := by omega
          have hT : Hid (∀ W, Ext wr W → TabW W) := Lib.hid (htab.out _ hO2.out)
          obtain ⟨b, hb2⟩ : ∃ b, la = some ⟨b, 0, none⟩ := by
            rcases hform with e | e
            · injection e with _ e _
              omega
            · exact e
          subst hb2
          have hput := Lib.hid (fill_put hown2.out hlt (c := mkSaidL num) rfl)
          have hS : Hid (∀ w', OffB (fun q => (Value.slice (some ⟨b, 0, none⟩) len lc).ownBlock = some q) wr w' → w'.cell? ⟨hl, 0, none⟩ = some (.slice (some ⟨b, 0, none⟩) len lc) ∧ w'.cell? ⟨hl, 2, none⟩ = some (.int .i64 (num : Int))) := Lib.hid (fun w' hO => ⟨(hO2.out.trans hO).cell (by rw [cell_of_row _ _ _ _ _ _ hrl'.out]; rfl) (fun e => hlown'.out hl e rfl), (hO2.out.trans hO).cell (by rw [cell_of_row _ _ _ _ _ _ hrl'.out]; rfl) (fun e => hlown'.out hl e rfl)⟩)
          clear q0 q1 q2
          obtain ⟨C, hC⟩ : ∃ C, C = (mkSaidL num).toArray := ⟨_, rfl⟩
          have hmark : Hid (∀ W, Ext wr W → Calls Tryz.prog 129 #[.int .i64 (num : Int)] W fun e w' => e = .returned (.agg C) ∧ Ext W w') := Lib.hid (fun W hE => by rw [hC]; exact markSaid_any W num (Nat.lt_of_lt_of_le hn100 (by decide)))
          have hCl : C.toList = mkSaidL num := by rw [hC]
          have hCs : C.size = 5 := by rw [hC]; rfl
          have hC1 : Hid (∀ v ∈ C.toList, v.oneCell' = true) := Lib.hid (by rw [hC]; exact fun v hv => Array.all_eq_true_iff_forall_mem.1 (fillSaid_one num) v (by simpa using hv))
          have hput2 : Hid (∀ w', Ext wr w' → w'.there b (k2 * 5) C.toList.length ∧ OwnC (w'.setCells b (k2 * 5) C.toList) base 87 5 (.slice (some ⟨b, 0, none⟩) len lc) len (fillL (mkSaidL num) xs (k2 + 1)) ∧ OffB (fun q => (Value.slice (some ⟨b, 0, none⟩) len lc).ownBlock = some q) wr (w'.setCells b (k2 * 5) C.toList)) := Lib.hid (by rw [hCl]; exact hput.out)
          clear hC hCl hput
          go_upto_region 7 with fail
          go_region_held3 (fun w' => w'.cell? ⟨hl, 0, none⟩ = some (.slice (some ⟨b, 0, none⟩) len lc) ∧ w'.cell? ⟨hl, 2, none⟩ = some (.int .i64 (num : Int))) ((refine hS.out _ ?_; first | exact .of_ext (Ext.refl _).drew | exact .of_ext ((Ext.refl _).drew.trans hE3) | exact hst.2.2)) (first | (go_at_call 129; refine (hmark.out _ (by first | exact (Ext.refl _).drew | exact Ext.refl _)).mono ?_; rintro e w3 ⟨rfl, hE3⟩; have hst := hput2.out _ ((Ext.refl _).drew.trans hE3)) | (rw [run_storeCells_mid _ b (k2 * 5) C.toList hst.1 hC1.out]; go_simp) | fail)
          all_goals
            go_wp2_with fail
            go_roundw
            case rel => exact ⟨k2 + 1, by go_num, by omega, Lib.hid hst.2.1, Lib.hid (hO2.out.trans hst.2.2)⟩
            case measure => simp [intOf]; omega
        · have hlti : ¬ (k2 : Int) < (len : Int) := by omega
          have hke : k2 = len := by omega
          have hnext : Hid (FillI bkT base N0 (T 11) w 11 (k + 1) wr) := Lib.hid (FillI.next h'.out hI.out hx'.out (by rw [hsl'.out]; exact (OffB.of_ext hEl'.out).trans hO2.out) (by
            have h1 := hown2.out
            rw [hke, fill_end _ _ _ hown'.out.1] at h1
            refine ⟨?_, hlong'.out⟩
            rw [hsl'.out, ← hlen'.out, ← hnm'.out]
            exact h1))
          clear hke
          go_wp2_with fail
          go_roundw
          case rel => exact ⟨k + 1, by go_num, by omega, hnext⟩
          case measure => simp [intOf]; omega
    · have hki : ¬ (k : Int) < (M : Int) := by omega
      have hkM2 : k = M := by omega
      have hfin := Lib.hid (FillI.fin h'.out (j := 11) (by rw [← hM'.out, ← hkM2]; exact hI.out))
      clear hkM2
      go_wp2_with fail
      go_end0
      exact ⟨rfl, hfin.out⟩
end Go.Proofs.YthageoibkeebhaaGreatDoor

/- growSaid: more is put behind each list. No condition. -/
namespace Go.Proofs.YthageoibkeebhaaGreatDoor
open Go.RowKit
set_option maxRecDepth 100000
set_option maxHeartbeats 4000000
theorem elb_Said : ElemIs Tryz.prog 87 5 48 := by
  refine ElemIs.mk (z := .agg #[.int .u8 0, .int .u32 0, .int .i64 0, .bool false, .slice none 0 0]) (by kernel_rfl) (by rfl) (by decide)
theorem growSaid_any {base N0 g n : Nat} {T : Nat → Kd} {st : Nat → Nat} {w : World} (h : BkI bkT base N0 g n T st w) (h1 : st 11 = 1) (hnum : ∀ x ∈ (T 11).2, x.num < numTop) (hm : (T 11).2.length ≤ 1000000) :
    Calls Tryz.prog 81 #[.pointer (some ⟨g, 0, none⟩)] w fun e w' => e = .returned (.tuple #[]) ∧ Below base w w' ∧ ∃ hs, (∀ y ∈ hs, y.num < numTop) ∧ hs.length = (T 11).2.length ∧ BkI bkT base N0 g n (upd T 11 ((T 11).1, hs)) (upd st 11 2) w' := by
  obtain ⟨M, hM⟩ : ∃ m, m = (T 11).2.length := ⟨_, rfl⟩
  obtain ⟨ha, hc, hva⟩ : ∃ a c, (T 11).1 = .slice a M c := by
    obtain ⟨a, c, e, _⟩ := (h.hdr 11).form
    exact ⟨a, c, by rw [hM]; exact e⟩
  rw [← hM] at hm
  have hcg : w.cell? ⟨g, 11, none⟩ = some (.slice ha M hc) := by rw [cell_of_row _ _ _ _ _ _ h.row, ← hva]; rfl
  have hM' := Lib.hid hM
  have hnum' := Lib.hid hnum
  have h' := Lib.hid h
  have h1' := Lib.hid h1
  have hva' := Lib.hid hva
  clear hM hnum h h1 hva
  go_enter Tryz.func81, Tryz.ntmps81
  go_wp2_with fail
  go_loopw [2, 3, 4, 5] (fun i _ _ _ wr => ∃ (k : Nat) (hs : List Hd), i = .int .i64 k ∧ k ≤ M ∧ Hid (GrowI bkT base N0 (T 11) w 11 k hs wr)) (fun i _ _ _ _ => M - (intOf i).toNat)
  case atStart => exact ⟨0, _, rfl, by omega, Lib.hid (GrowI.start h'.out 11 h1'.out)⟩
  case round =>
    obtain ⟨k, hs, rfl, hk, hI⟩ := hrel
    have hcg2 := hI.out.cellg h'.out hcg
    by_cases hkM : k < M
    · have hki : (k : Int) < (M : Int) := by omega
      obtain ⟨x, hx⟩ : ∃ x, (T 11).2[k]? = some x := ⟨_, List.getElem?_eq_getElem (by rw [← hM'.out]; exact hkM)⟩
      obtain ⟨y, hy, _, _, _, _, hyx⟩ := hI.out.all k x hx
      obtain ⟨rfl, hst1⟩ := hyx (Nat.le_refl _)
      have hhd := hI.out.hdr
      rw [← hI.out.len] at hhd
      obtain ⟨hb, hcap, e1, ec, q0, q1, q2, qf⟩ := hdr_cells hhd hy
      have qf1 := qf 1 (by decide)
      rw [hva'.out] at e1
      injection e1 with e1 elen e3
      clear elen hhd qf
      subst e1 e3
      rw [hI.out.len, ← hM'.out] at ec
      obtain ⟨hown, hlong⟩ := hst1
      rw [hlong] at q1
      obtain ⟨len, hlen⟩ : ∃ z, z = y.len := ⟨_, rfl⟩
      obtain ⟨num, hnm⟩ : ∃ z, z = y.num := ⟨_, rfl⟩
      have hlenb : len ≤ 1000000 := by rw [hlen]; exact (h'.out.lst 11 y (List.mem_of_getElem? hx)).2
      have hn100 : num < numTop := by rw [hnm]; exact hnum'.out y (List.mem_of_getElem? hx)
      obtain ⟨la, lc, hsl, hlc, hform⟩ := hown.form
      rw [← hlen] at hsl
      rw [← hlen, ← hnm] at hown
      rw [← hlen] at hlc
      rw [hsl] at q0 hown hform
      rw [← hnm] at q2
      have hx' := Lib.hid hx
      have hsl' := Lib.hid hsl
      have hlen' := Lib.hid hlen
      have hnm' := Lib.hid hnm
      clear hx hsl hlong hlen hnm hyx hy hform
      obtain ⟨Wl, hWl⟩ : ∃ W, W = wr.alloc (.cells #[.slice la len lc, .slice none 0 0, .int .i64 (num : Int)] 127) := ⟨_, rfl⟩
      obtain ⟨hl, hhl⟩ : ∃ z, z = wr.heap.size := ⟨_, rfl⟩
      have hEl : Ext wr Wl := by rw [hWl]; exact (Ext.refl _).alloc _
      have hrl : Wl.heap[hl]? = some (.cells #[.slice la len lc, .slice none 0 0, .int .i64 (num : Int)] 127 (0, 0)) := by rw [hWl, hhl]; exact heap_alloc_new wr _
      have hlown : ∀ q, (Value.slice la len lc).ownBlock = some q → q < hl := fun q hq => by have := (hown.lt q hq).2; omega
      have hhbl : hb < hl := by
        rw [hhl]
        exact World.block_lt_of_cell? wr _ q0
      have hhbo : ∀ q, (Value.slice la len lc).ownBlock = some q → q ≠ hb := fun q hq e => by
        have h5 : y.sl ∈ sls (T 11) := List.mem_map_of_mem (List.mem_of_getElem? hx'.out)
        exact h'.out.seph 11 _ h5 hb (by rw [hva'.out]; rfl) (by rw [hsl'.out, ← e]; exact hq)
      have hbase : base ≤ Wl.heap.size := Nat.le_trans (Nat.le_trans h'.out.gb (Nat.le_trans (Nat.le_of_lt h'.out.gN) h'.out.big)) (Nat.le_trans hI.out.off.size hEl.size)
      have hownl := hown.ext hEl
      have r1 := hEl.cell q1
      have r1f : Wl.frozen? ⟨hb, k * 3 + 1, none⟩ = false := by rw [World.frozen?_of_block (w := wr) (Below.block hEl hb (World.block_lt_of_cell? wr _ q0))]; exact qf1
      have hsz : Hid (Wl.heap.size = hl + 1) := Lib.hid (by rw [hWl, hhl]; simp)
      have hWl' := Lib.hid hWl
      have hhl' := Lib.hid hhl
      have hown' := Lib.hid hownl
      have hlown' := Lib.hid hlown
      have hrl' := Lib.hid hrl
      have htab : Hid (∀ w2, OffB (fun q => (Value.slice la len lc).ownBlock = some q) Wl w2 → ∀ W, Ext w2 W → TabW W) := Lib.hid (fun w2 hO2 => tab_of h'.out.tab h'.out.base_le hI.out.off (fun q hq => h'.out.fpb 11 q hq) hEl hO2 (fun q hq => (hown.lt q hq).1))
      have hEl' := Lib.hid hEl
      have hhbo' := Lib.hid hhbo
      have hbase' := Lib.hid hbase
      have r1' := Lib.hid r1
      have r1f' := Lib.hid r1f
      clear hWl hhl hown hownl hlown hrl hEl hhbo hbase r1 r1f qf1
      have l0 : Wl.cell? ⟨hl, 0, none⟩ = some (.slice la len lc) := by rw [cell_of_row _ _ _ _ _ _ hrl'.out]; rfl
      go_upto_region 4 with fail
      rw [← hWl'.out, ← hhl'.out]
      go_wp2_with fail
      go_loopw [4, 5] (fun lv i w2 => ∃ (c : Nat) (va : Option Addr) (vc : Nat), i = .int .i64 c ∧ c ≤ 40 ∧ lv = .slice va (len + c) vc ∧ Hid (OwnC w2 base 87 5 (.slice va (len + c) vc) (len + c) (reps (mkSaidL num) (len + c))) ∧ Hid (OwnC w2 base 87 5 (.slice la len lc) len (reps (mkSaidL num) len)) ∧ Hid (OffB (fun q => (Value.slice la len lc).ownBlock = some q) Wl w2) ∧ Hid (∀ q, (Value.slice va (len + c) vc).ownBlock = some q → (Value.slice la len lc).ownBlock = some q ∨ Wl.heap.size ≤ q)) (fun _ i _ => 40 - (intOf i).toNat)
      case atStart => exact ⟨0, la, lc, rfl, by omega, rfl, Lib.hid hown'.out, Lib.hid hown'.out, Lib.hid (OffB.refl _), Lib.hid (fun q hq => .inl hq)⟩
      case round =>
        clear l0 q0 q1 q2 hcg2
        obtain ⟨c, va, vc, rfl, hc40, rfl, hlo, hso, hO2, hq2⟩ := hrel
        by_cases hlt : c < 40
        · have hlti : (c : Int) < 40 := by omega
          have hT : Hid (∀ W, Ext wr W → TabW W) := Lib.hid (htab.out _ hO2.out)
          have l2 : wr.cell? ⟨hl, 2, none⟩ = some (.int .i64 (num : Int)) := hO2.out.cell (by rw [cell_of_row _ _ _ _ _ _ hrl'.out]; rfl) (fun e => by have := hlown'.out hl e; omega)
          obtain ⟨s, hs2⟩ : ∃ s, s = (num : Int) := ⟨_, rfl⟩
          have hmark : ∀ W, Ext wr W → Calls Tryz.prog 129 #[.int .i64 (num : Int)] W fun e w' => e = .returned (.agg #[.int .u8 200, .int .u32 s, .int .i64 0, .bool false, .slice none 0 0]) ∧ Ext W w' := fun W hE => by rw [hs2]; exact markSaid_any W num (Nat.lt_of_lt_of_le hn100 (by decide))
          have hrs : Hid (∀ m, reps (mkSaidL num) (m + 1) = reps (mkSaidL num) m ++ (#[.int .u8 200, .int .u32 s, .int .i64 0, .bool false, .slice none 0 0] : Array Value).toList) := Lib.hid (fun m => by rw [reps_succ, hs2]; rfl)
          have hfin : Hid (∀ w3 v' w4, Ext wr w3 → AppK w3 w4 base 87 5 (.slice va (len + c) vc) v' (len + c) (reps (mkSaidL num) (len + c)) (#[.int .u8 200, .int .u32 s, .int .i64 0, .bool false, .slice none 0 0] : Array Value).toList → OwnC w4 base 87 5 v' (len + (c + 1)) (reps (mkSaidL num) (len + (c + 1))) ∧ OwnC w4 base 87 5 (.slice la len lc) len (reps (mkSaidL num) len) ∧ OffB (fun q => (Value.slice la len lc).ownBlock = some q) Wl w4 ∧ ∀ q, v'.ownBlock = some q → (Value.slice la len lc).ownBlock = some q ∨ Wl.heap.size ≤ q) := Lib.hid (fun w3 v' w4 hE hA => by
            refine ⟨?_, hA.keep (hso.out.ext hE) (by omega), ?_, fun q hq => ?_⟩
            · rw [← Nat.add_assoc, hrs.out]; exact hA.own
            · have h6 := OffB.trans (hO2.out.mono (B' := fun q => (Value.slice la len lc).ownBlock = some q ∨ (Value.slice va (len + c) vc).ownBlock = some q) fun q hq => .inl hq) (OffB.trans (.of_ext hE) (hA.off.mono fun q hq => .inr hq))
              exact h6.past (fun q hq hB => by
                rcases hB with hB | hB
                · exact hB
                · rcases hq2.out q hB with h7 | h7
                  · exact h7
                  · omega)
            · rcases hA.at_ q hq with h7 | h7
              · exact hq2.out q h7
              · exact .inr (Nat.le_trans (Nat.le_trans hO2.out.size hE.size) h7))
          have hbase2 : Hid (∀ w3, Ext wr w3 → base ≤ w3.heap.size) := Lib.hid (fun w3 hE => Nat.le_trans hbase'.out (Nat.le_trans hO2.out.size hE.size))
          clear hs2
          go_wp2_with fail
          refine (hmark _ (by first | exact (Ext.refl _).drew | exact Ext.refl _)).mono ?_
          rintro e w3 ⟨rfl, hE3⟩
          have hlo3 := Lib.hid (hlo.out.ext hE3)
          have hb3 := hbase2.out w3 hE3
          go_wp2_with (first | (at_builtin; go_loud (refine wpList_append_k (by rfl) (.tmp 28) (.tmp 32) 23 87 (by rfl) Tryz.underlying23 elb_Said w3 base (len + c) _ (.slice va (len + c) vc) (by rfl) hlo3.out #[.int .u8 200, .int .u32 s, .int .i64 0, .bool false, .slice none 0 0] (by rfl) (by rfl) (by simp [Value.oneCell']) (by omega) (by omega) hb3 ?_); go_loud (intro v' w4 hA; obtain ⟨oa4, oc4, rfl, _⟩ := hA.own.form; obtain ⟨f1, f2, f3, f4⟩ := hfin.out w3 _ w4 hE3 hA; clear hA)) | fail)
          go_roundw
          case rel => exact ⟨c + 1, oa4, oc4, by go_num, by omega, rfl, Lib.hid f1, Lib.hid f2, Lib.hid f3, Lib.hid f4⟩
          case measure => simp [intOf]; omega
        · have hlti : ¬ (c : Int) < 40 := by omega
          obtain rfl : c = 40 := by omega
          have s1 := hO2.out.cell r1'.out (fun e => hhbo'.out hb e rfl)
          have s1f : wr.frozen? ⟨hb, k * 3 + 1, none⟩ = false := by rw [hO2.out.frozen r1'.out (fun e => hhbo'.out hb e rfl)]; exact r1f'.out
          have sg : wr.cell? ⟨g, 11, none⟩ = some (.slice (some ⟨hb, 0, none⟩) M hc) := hO2.out.cell (hEl'.out.cell (hI.out.cellg h'.out hcg)) (fun e => by
            have h5 : y.sl ∈ sls (T 11) := List.mem_map_of_mem (List.mem_of_getElem? hx'.out)
            exact h'.out.sepg 11 (.inr ⟨_, h5, by rw [hsl'.out]; exact e⟩))
          have hnext := Lib.hid (GrowI.next h'.out hI.out hx'.out (by rw [hva'.out, hM'.out]) (by rw [hsl'.out]; exact (OffB.of_ext hEl'.out).trans hO2.out) (.slice va (len + 40) vc) (by rw [hsl'.out, ← hlen'.out, ← hnm'.out]; exact hso.out) (by rw [← hlen'.out, ← hnm'.out]; exact hlo.out) (fun q hq => by
            rw [hsl'.out]
            rcases hq2.out q hq with h7 | h7
            · exact .inl h7
            · exact .inr (Nat.le_trans hEl'.out.size h7)))
          go_wp2_with fail
          go_roundw
          case rel => exact ⟨k + 1, _, by go_num, by omega, hnext⟩
          case measure => simp [intOf]; omega
    · have hki : ¬ (k : Int) < (M : Int) := by omega
      have hkM2 : k = M := by omega
      have hfin := Lib.hid (GrowI.fin h'.out (j := 11) (hs := hs) (by rw [← hM'.out, ← hkM2]; exact hI.out))
      have hnums : Hid (∀ y ∈ hs, y.num < numTop) := Lib.hid (fun y hy => by
        obtain ⟨i, hi⟩ := List.mem_iff_getElem?.1 hy
        obtain ⟨x, hx⟩ : ∃ x, (T 11).2[i]? = some x := ⟨_, List.getElem?_eq_getElem (by rw [← hI.out.len]; exact (List.getElem?_eq_some_iff.1 hi).1)⟩
        obtain ⟨y', hy', _, _, e3, _⟩ := hI.out.all i x hx
        rw [hi] at hy'
        injection hy' with hy'
        rw [hy', e3]
        exact hnum'.out x (List.mem_of_getElem? hx))
      have hlen := Lib.hid hI.out.len
      clear hkM2
      go_wp2_with fail
      go_end0
      exact ⟨rfl, hfin.out.1, hs, hnums.out, hlen.out, hfin.out.2⟩
end Go.Proofs.YthageoibkeebhaaGreatDoor

/- lookSaid: all lists, and what is behind them, are looked at. No condition. -/
namespace Go.Proofs.YthageoibkeebhaaGreatDoor
open Go.RowKit
set_option maxRecDepth 100000
set_option maxHeartbeats 4000000
theorem lookSaid_any {base N0 g n : Nat} {T : Nat → Kd} {st : Nat → Nat} {w : World} (h : BkI bkT base N0 g n T st w) (h2 : st 11 = 2) (hnum : ∀ x ∈ (T 11).2, x.num < numTop) (hm : (T 11).2.length ≤ 1000000) :
    Calls Tryz.prog 94 #[.pointer (some ⟨g, 0, none⟩)] w fun e w' => e = .returned (.bool true) ∧ Ext w w' := by
  obtain ⟨M, hM⟩ : ∃ m, m = (T 11).2.length := ⟨_, rfl⟩
  obtain ⟨ha, hc, hva⟩ : ∃ a c, (T 11).1 = .slice a M c := by
    obtain ⟨a, c, e, _⟩ := (h.hdr 11).form
    exact ⟨a, c, by rw [hM]; exact e⟩
  rw [← hM] at hm
  have hcg : w.cell? ⟨g, 11, none⟩ = some (.slice ha M hc) := by rw [cell_of_row _ _ _ _ _ _ h.row, ← hva]; rfl
  have hM' := Lib.hid hM
  have hnum' := Lib.hid hnum
  have h' := Lib.hid h
  have h2' := Lib.hid h2
  have hva' := Lib.hid hva
  clear hM hnum h h2 hva
  go_enter Tryz.func94, Tryz.ntmps94
  go_wp2_with fail
  go_loopw [3, 4, 5] (fun i _ _ wr => ∃ k : Nat, i = .int .i64 k ∧ k ≤ M ∧ Ext w wr) (fun i _ _ _ => M - (intOf i).toNat)
  case atStart => exact ⟨0, rfl, by omega, Ext.refl _⟩
  case round =>
    obtain ⟨k, rfl, hk, hE⟩ := hrel
    have hcg2 := hE.cell hcg
    by_cases hkM : k < M
    · have hki : (k : Int) < (M : Int) := by omega
      obtain ⟨y, hy⟩ : ∃ x, (T 11).2[k]? = some x := ⟨_, List.getElem?_eq_getElem (by rw [← hM'.out]; exact hkM)⟩
      have hI := h'.out.ext hE
      obtain ⟨hb, hcap, e1, ec, q0, q1, q2, _⟩ := hdr_cells (hI.hdr 11) hy
      rw [hva'.out] at e1
      injection e1 with e1 elen e3
      clear elen
      subst e1 e3
      rw [← hM'.out] at ec
      have hst := (hI.lst 11 y (List.mem_of_getElem? hy)).1
      rw [h2'.out] at hst
      obtain ⟨hown, hlong, _⟩ := hst
      have hlb := (hI.lst 11 y (List.mem_of_getElem? hy)).2
      have hn1 := hnum'.out y (List.mem_of_getElem? hy)
      obtain ⟨len, hlen⟩ : ∃ z, z = y.len := ⟨_, rfl⟩
      obtain ⟨num, hnm⟩ : ∃ z, z = y.num := ⟨_, rfl⟩
      obtain ⟨la, lc, hsl, hlc, _⟩ := hown.form
      obtain ⟨ga, gc, hgl, hgc, _⟩ := hlong.form
      rw [← hlen] at hsl hgl hlb
      rw [← hnm] at hn1
      have hr1 := hown.row
      have hr2 := hlong.row
      rw [hsl, ← hlen, ← hnm] at hr1
      rw [hgl, ← hlen, ← hnm] at hr2
      rw [hsl] at q0
      rw [hgl] at q1
      rw [← hnm] at q2
      have hr1' := Lib.hid hr1
      obtain ⟨gb, go, e4, hgc2, hrl⟩ := reps_range hr2 rfl (by omega)
      subst e4
      have hrl' := Lib.hid hrl
      clear hown hlong hlen hnm hsl hgl hr1 hr2 hI hrl hlc hgc hy
      obtain ⟨Wl, hWl⟩ : ∃ W, W = wr.alloc (.cells #[.slice la len lc, .slice (some ⟨gb, go, none⟩) (len + 40) gc, .int .i64 (num : Int)] 127) := ⟨_, rfl⟩
      obtain ⟨hl, hhl⟩ : ∃ z, z = wr.heap.size := ⟨_, rfl⟩
      have hEl : Ext wr Wl := by rw [hWl]; exact (Ext.refl _).alloc _
      have hrow : Wl.heap[hl]? = some (.cells #[.slice la len lc, .slice (some ⟨gb, go, none⟩) (len + 40) gc, .int .i64 (num : Int)] 127 (0, 0)) := by rw [hWl, hhl]; exact heap_alloc_new wr _
      have hL : Hid (∀ w', Ext Wl w' → w'.cell? ⟨hl, 0, none⟩ = some (.slice la len lc) ∧ w'.cell? ⟨hl, 1, none⟩ = some (.slice (some ⟨gb, go, none⟩) (len + 40) gc) ∧ w'.cell? ⟨hl, 2, none⟩ = some (.int .i64 (num : Int))) := Lib.hid (fun w' h => by
        have h1 := h.row hrow
        exact ⟨by rw [cell_of_row _ _ _ _ _ _ h1]; rfl, by rw [cell_of_row _ _ _ _ _ _ h1]; rfl, by rw [cell_of_row _ _ _ _ _ _ h1]; rfl⟩)
      obtain ⟨l0, l1, l2⟩ := hL.out Wl (Ext.refl _)
      have e40 : ((len + 40 : Nat) : Int) = (len : Int) + 40 := by omega
      have hw40 : IntKind.i64.wrap ((len : Int) + 40) = (len : Int) + 40 := by rw [IntKind.wrap_i64]; omega
      have hWl' := Lib.hid hWl
      have hhl' := Lib.hid hhl
      have hEl' := Lib.hid hEl
      clear hWl hhl hEl hrow
      go_upto_region 5 with fail
      rw [← hWl'.out, ← hhl'.out]
      go_wp2_with fail
      go_loopw [5] (fun i w2 => ∃ k2 : Nat, i = .int .i64 k2 ∧ k2 ≤ len + 40 ∧ Ext Wl w2) (fun i _ => len + 40 - (intOf i).toNat)
      case atStart => exact ⟨0, rfl, by omega, Ext.refl _⟩
      case round =>
        clear l0 l1 l2 q0 q1 q2 hcg2 hw40
        obtain ⟨k2, rfl, hk2, hE2⟩ := hrel
        obtain ⟨l0, l1, l2⟩ := hL.out _ hE2
        by_cases hlt : k2 < len + 40
        · have hlti : (k2 : Int) < (len : Int) + 40 := by omega
          have hT : Hid (∀ W, Ext wr W → TabW W) := Lib.hid (fun W hE4 => h'.out.tab W ((((hE.trans hEl'.out).trans hE2).trans hE4).mono h'.out.base_le))
          obtain ⟨s, hs2⟩ : ∃ s, s = (num : Int) := ⟨_, rfl⟩
          have his : Hid (∀ W, Ext wr W → Calls Tryz.prog 142 #[.agg #[.int .u8 200, .int .u32 s, .int .i64 0, .bool false, .slice none 0 0], .int .i64 (num : Int)] W fun e w' => e = .returned (.bool true) ∧ Ext W w') := Lib.hid (fun W hE => by rw [hs2]; exact isSaid_any W num (Nat.lt_of_lt_of_le hn1 (by decide)))
          have hmk : Hid (mkSaidL num = [.int .u8 200, .int .u32 s, .int .i64 0, .bool false, .slice none 0 0]) := Lib.hid (by rw [hs2]; rfl)
          have hg2 : wr.rangeAt gb (go + k2 * 5) (mkSaidL num) := fun i v hv => hE2.cell (hEl'.out.cell (hrl'.out k2 hlt i v hv))
          rw [hmk.out] at hg2
          clear hs2
          by_cases hin : k2 < len
          · have hini : (k2 : Int) < (len : Int) := by omega
            obtain ⟨ab, ao, e5, _, hra⟩ := reps_range hr1'.out rfl (by omega)
            subst e5
            have ha2 : wr.rangeAt ab (ao + k2 * 5) (mkSaidL num) := fun i v hv => hE2.cell (hEl'.out.cell (hra k2 hin i v hv))
            rw [hmk.out] at ha2
            clear hra
            go_upto_region 10 with fail
            refine bqRegion (Ext wr) (by kernel_rfl) (by kernel_rfl) (Ext.refl _).drew ?_
            iterate 1 (refine bqStep (fun K hK => ?_); go_simp; first | (refine hK _ ?_; clear hK K) | (refine ⟨_, fun _ _ => rfl, hK _ ?_⟩; clear hK K))
            refine bqCell (by rfl) 23 _ (by rfl) hl 1 (by rfl) _ (fun w' hw => (hL.out w' (hE2.trans hw)).2.1) _ Tryz.underlying23 rfl ?_
            iterate 2 (refine bqStep (fun K hK => ?_); go_simp; first | (refine hK _ ?_; clear hK K) | (refine ⟨_, fun _ _ => rfl, hK _ ?_⟩; clear hK K))
            refine bqMid (by rfl) 87 _ (by rfl) gb (go + k2 * 5) (by rfl) [.int .u8 200, .int .u32 s, .int .i64 0, .bool false, .slice none 0 0] _ (fun w' hw i v hv => hw.cell (hg2 i v hv)) Tryz.underlying87 rfl (by exact info_saidM) ?_
            iterate 1 (refine bqStep (fun K hK => ?_); go_simp; first | (refine hK _ ?_; clear hK K) | (refine ⟨_, fun _ _ => rfl, hK _ ?_⟩; clear hK K))
            refine bqCell (by rfl) 3 _ (by rfl) hl 2 (by rfl) _ (fun w' hw => (hL.out w' (hE2.trans hw)).2.2) _ Tryz.underlying3 rfl ?_
            refine bqStep (fun K hK => ?_); go_simp; refine ⟨_, fun w' hw => (his.out w' hw).mono (fun e w'' h => ⟨h.1, hw.trans h.2⟩), hK _ ?_⟩; clear hK K
            iterate 4 (refine bqStep (fun K hK => ?_); go_simp; first | (refine hK _ ?_; clear hK K) | (refine ⟨_, fun _ _ => rfl, hK _ ?_⟩; clear hK K))
            refine bqCell (by rfl) 23 _ (by rfl) hl 0 (by rfl) _ (fun w' hw => (hL.out w' (hE2.trans hw)).1) _ Tryz.underlying23 rfl ?_
            iterate 3 (refine bqStep (fun K hK => ?_); go_simp; first | (refine hK _ ?_; clear hK K) | (refine ⟨_, fun _ _ => rfl, hK _ ?_⟩; clear hK K))
            iterate 1 (refine bqStep (fun K hK => ?_); go_simp; first | (refine hK _ ?_; clear hK K) | (refine ⟨_, fun _ _ => rfl, hK _ ?_⟩; clear hK K))
            refine bqCell (by rfl) 23 _ (by rfl) hl 0 (by rfl) _ (fun w' hw => (hL.out w' (hE2.trans hw)).1) _ Tryz.underlying23 rfl ?_
            iterate 2 (refine bqStep (fun K hK => ?_); go_simp; first | (refine hK _ ?_; clear hK K) | (refine ⟨_, fun _ _ => rfl, hK _ ?_⟩; clear hK K))
            refine bqMid (by rfl) 87 _ (by rfl) ab (ao + k2 * 5) (by rfl) [.int .u8 200, .int .u32 s, .int .i64 0, .bool false, .slice none 0 0] _ (fun w' hw i v hv => hw.cell (ha2 i v hv)) Tryz.underlying87 rfl (by exact info_saidM) ?_
            iterate 1 (refine bqStep (fun K hK => ?_); go_simp; first | (refine hK _ ?_; clear hK K) | (refine ⟨_, fun _ _ => rfl, hK _ ?_⟩; clear hK K))
            refine bqCell (by rfl) 3 _ (by rfl) hl 2 (by rfl) _ (fun w' hw => (hL.out w' (hE2.trans hw)).2.2) _ Tryz.underlying3 rfl ?_
            refine bqStep (fun K hK => ?_); go_simp; refine ⟨_, fun w' hw => (his.out w' hw).mono (fun e w'' h => ⟨h.1, hw.trans h.2⟩), hK _ ?_⟩; clear hK K
            iterate 1 (refine bqStep (fun K hK => ?_); go_simp; first | (refine hK _ ?_; clear hK K) | (refine ⟨_, fun _ _ => rfl, hK _ ?_⟩; clear hK K))
            iterate 2 (refine bqStep (fun K hK => ?_); go_simp; first | (refine hK _ ?_; clear hK K) | (refine ⟨_, fun _ _ => rfl, hK _ ?_⟩; clear hK K))
            refine bqNil (fun w9 hE9 => ?_)
            try simp only [Act.put, List.setIfInBounds_toArray, List.set_cons_zero, List.set_cons_succ]
            go_wp2_with fail
            go_roundw
            case rel => exact ⟨k2 + 1, by go_num, by omega, hE2.trans hE9⟩
            case measure => simp [intOf]; omega
          · have hini : ¬ (k2 : Int) < (len : Int) := by omega
            have hind : decide ((k2 : Int) < (len : Int)) = false := decide_eq_false hini
            have hind2 : decide (k2 < len) = false := decide_eq_false hin
            go_upto_region 10 with fail
            refine bqRegion (Ext wr) (by kernel_rfl) (by kernel_rfl) (Ext.refl _).drew ?_
            iterate 1 (refine bqStep (fun K hK => ?_); go_simp; first | (refine hK _ ?_; clear hK K) | (refine ⟨_, fun _ _ => rfl, hK _ ?_⟩; clear hK K))
            refine bqCell (by rfl) 23 _ (by rfl) hl 1 (by rfl) _ (fun w' hw => (hL.out w' (hE2.trans hw)).2.1) _ Tryz.underlying23 rfl ?_
            iterate 2 (refine bqStep (fun K hK => ?_); go_simp; first | (refine hK _ ?_; clear hK K) | (refine ⟨_, fun _ _ => rfl, hK _ ?_⟩; clear hK K))
            refine bqMid (by rfl) 87 _ (by rfl) gb (go + k2 * 5) (by rfl) [.int .u8 200, .int .u32 s, .int .i64 0, .bool false, .slice none 0 0] _ (fun w' hw i v hv => hw.cell (hg2 i v hv)) Tryz.underlying87 rfl (by exact info_saidM) ?_
            iterate 1 (refine bqStep (fun K hK => ?_); go_simp; first | (refine hK _ ?_; clear hK K) | (refine ⟨_, fun _ _ => rfl, hK _ ?_⟩; clear hK K))
            refine bqCell (by rfl) 3 _ (by rfl) hl 2 (by rfl) _ (fun w' hw => (hL.out w' (hE2.trans hw)).2.2) _ Tryz.underlying3 rfl ?_
            refine bqStep (fun K hK => ?_); go_simp; refine ⟨_, fun w' hw => (his.out w' hw).mono (fun e w'' h => ⟨h.1, hw.trans h.2⟩), hK _ ?_⟩; clear hK K
            iterate 4 (refine bqStep (fun K hK => ?_); go_simp; first | (refine hK _ ?_; clear hK K) | (refine ⟨_, fun _ _ => rfl, hK _ ?_⟩; clear hK K))
            refine bqCell (by rfl) 23 _ (by rfl) hl 0 (by rfl) _ (fun w' hw => (hL.out w' (hE2.trans hw)).1) _ Tryz.underlying23 rfl ?_
            iterate 3 (refine bqStep (fun K hK => ?_); go_simp; first | (refine hK _ ?_; clear hK K) | (refine ⟨_, fun _ _ => rfl, hK _ ?_⟩; clear hK K))
            iterate 9 (refine bqSkip (by rfl) ?_; simp only [Act.put, List.setIfInBounds_toArray, List.set_cons_zero, List.set_cons_succ])
            iterate 2 (refine bqStep (fun K hK => ?_); go_simp; first | (refine hK _ ?_; clear hK K) | (refine ⟨_, fun _ _ => rfl, hK _ ?_⟩; clear hK K))
            refine bqNil (fun w9 hE9 => ?_)
            try simp only [Act.put, List.setIfInBounds_toArray, List.set_cons_zero, List.set_cons_succ]
            go_wp2_with fail
            go_roundw
            case rel => exact ⟨k2 + 1, by go_num, by omega, hE2.trans hE9⟩
            case measure => simp [intOf]; omega
        · have hlti : ¬ (k2 : Int) < (len : Int) + 40 := by omega
          have hEn := Lib.hid ((hE.trans hEl'.out).trans hE2)
          go_wp2_with fail
          go_roundw
          case rel => exact ⟨k + 1, by go_num, by omega, hEn.out⟩
          case measure => simp [intOf]; omega
    · have hki : ¬ (k : Int) < (M : Int) := by omega
      go_wp2_with fail
      go_ret
      exact ⟨rfl, hE⟩
end Go.Proofs.YthageoibkeebhaaGreatDoor
