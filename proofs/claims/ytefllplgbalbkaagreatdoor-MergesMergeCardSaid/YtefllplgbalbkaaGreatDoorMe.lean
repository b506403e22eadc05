/- Entries in memory, SameEntries. No condition. -/
import Derived.Test.YtefllplgbalbkaaGreatDoorCmp
import Derived.Test.YtefllplgbalbkaaGreatDoorOwnC
import Derived.Test.YtefllplgbalbkaaGreatDoorRead2
import Derived.Test.YtefllplgbalbkaaGreatDoorHp1
import Derived.Test.YtefllplgbalbkaaGreatDoorBq
import Derived.BigQuiet
import Derived.Deep.CutRange
import Derived.Deep.RegionHeld3
namespace Go.Proofs.YtefllplgbalbkaaGreatDoor
open Go.RowKit
set_option maxRecDepth 100000
def mkRow (m : Mk) : List Value := [.string m.key, .int .u64 (m.seq : Int), .bool m.gone]
def enRow (e : En) : Array Value := #[.string e.mark.key, .int .u64 (e.mark.seq : Int), .bool e.mark.gone, .string e.val]
def enL (e : En) : List Value := [.string e.mark.key, .int .u64 (e.mark.seq : Int), .bool e.mark.gone, .string e.val]
theorem info_entry : (Tryz.prog.info? 69).map (·.size) = some 4 := by kernel_rfl
theorem info_mark : (Tryz.prog.info? 67).map (·.size) = some 3 := by kernel_rfl
theorem en_one (e : En) : (enRow e).all (·.oneCell') = true := by kernel_rfl
theorem en_all (x : En) : ∀ u ∈ (enRow x).toList, u.oneCell' = true := fun u hu => Array.all_eq_true_iff_forall_mem.1 (en_one x) u (by simpa using hu)
theorem enl_all (l : List En) : ∀ u ∈ l.flatMap enL, u.oneCell' = true := fun u hu => by
  obtain ⟨x, _, hx⟩ := List.mem_flatMap.1 hu
  exact en_all x u hx
theorem el_entry : ElemIs Tryz.prog 69 4 48 := by
  refine ElemIs.mk (z := .agg #[.string ⟨#[]⟩, .int .u64 0, .bool false, .string ⟨#[]⟩]) (by kernel_rfl) (by rfl) (by decide)
def En.small (x : En) : Prop := x.mark.key.size ≤ 140737488351232 ∧ x.val.size ≤ 140737488351232
theorem ens_range {w : World} {l : List En} {b off : Nat} (hd : ∀ i, i < l.length * 4 → w.cell? ⟨b, off + i, none⟩ = (l.flatMap enL)[i]?) {k : Nat} {x : En} (h : l[k]? = some x) : w.rangeAt b (off + k * 4) (enRow x).toList := fun r v hv => by
  have hr : r < 4 := (List.getElem?_eq_some_iff.1 hv).1
  have hk : k < l.length := (List.getElem?_eq_some_iff.1 h).1
  rw [Nat.add_assoc, hd (k * 4 + r) (by omega), flatMap_at enL 4 (by decide) (fun _ => rfl) l k x h r hr _ rfl]; exact hv
theorem mark_range {w : World} {b o : Nat} {x : En} (h : w.rangeAt b o (enRow x).toList) : w.rangeAt b o (mkRow x.mark) := fun r v hv => h r v (by
  have hr : r < 3 := (List.getElem?_eq_some_iff.1 hv).1
  rw [← hv]
  match r, hr with
  | 0, _ => rfl
  | 1, _ => rfl
  | 2, _ => rfl)
theorem run_bs_entry (x : En) (w : World) : (Instr.buildSlice 22 1 #[(0, .agg (enRow x))]).run Tryz.prog w = .ok (.slice (some ⟨w.heap.size, 0, none⟩) 1 1) (w.alloc (.cells (enRow x) 69)) := by kernel_rfl
theorem wpList_bs_entry {ops : Array Oper} {rest : List Oper} {o : Oper} {a : Act} {Q : Exit → Act → World → Prop} {w : World} (hgd : o.guard = none) (p : Operand) (ho : o.op = .buildSlice 22 1 #[(0, p)]) (r : En) (hp : a.eval p = .agg (enRow r))
    (h : wpList Tryz.prog ops Q rest (a.put o.dst (.slice (some ⟨w.heap.size, 0, none⟩) 1 1)) (w.alloc (.cells (enRow r) 69))) : wpList Tryz.prog ops Q (o :: rest) a w := by
  refine wpList_plain hgd fun K hK => ?_
  unfold Oper.wp execOp
  simp only [ho, hp, List.map_toArray, List.map_cons, List.map_nil, Sem.run_bind, Result.andThen_ok, run_bs_entry, Sem.run_pure]
  exact hK _ _ h
theorem okc_str {P : Program} {w : World} {n : Nat} {t : TypeId} {cs : List Value} (ht : P.underlying t = some .string) (h : OKC P w n t cs) : ∃ s : ByteArray, cs = [.string s] ∧ s.size ≤ 140737488351232 := by
  cases n with
  | zero => exact h.elim
  | succ n => unfold OKC at h; rw [ht] at h; exact h
theorem okc_bool {P : Program} {w : World} {n : Nat} {t : TypeId} {cs : List Value} (ht : P.underlying t = some .bool) (h : OKC P w n t cs) : ∃ b : Bool, cs = [.bool b] := by
  cases n with
  | zero => exact h.elim
  | succ n => unfold OKC at h; rw [ht] at h; exact h
theorem okc_mark {w : World} {n : Nat} {cs : List Value} (h : OKC Tryz.prog w n 67 cs) : ∃ m : Mk, cs = mkRow m ∧ m.key.size ≤ 140737488351232 ∧ m.seq < 18446744073709551616 := by
  have c3 : Tryz.prog.cellsOf 67 = 3 := by kernel_rfl
  cases n with
  | zero => exact h.elim
  | succ n =>
    unfold OKC at h
    rw [Tryz.underlying67] at h
    simp only [c3] at h
    obtain ⟨hl, hi⟩ := h
    match cs, hl with
    | [x, y, z], _ =>
      simp [show Tryz.prog.cellsOf 9 = 1 by kernel_rfl, show Tryz.prog.cellsOf 23 = 1 by kernel_rfl, show Tryz.prog.cellsOf 4 = 1 by kernel_rfl] at hi
      obtain ⟨a, ha, ha2⟩ := okc_str Tryz.underlying9 hi.1
      obtain ⟨s, hs, hs2⟩ := okc_int Tryz.underlying23 hi.2.1
      obtain ⟨g, hg⟩ := okc_bool Tryz.underlying4 hi.2.2
      obtain ⟨h0, h1⟩ := wf_u64 hs2
      obtain ⟨k, rfl⟩ := Int.eq_ofNat_of_zero_le h0
      simp at ha hs hg
      subst ha; subst hs; subst hg
      exact ⟨⟨a, k, g⟩, rfl, ha2, by simp only; omega⟩
def En.good (x : En) : Prop := x.small ∧ x.mark.seq < 18446744073709551616
theorem okc_entry {w : World} {n : Nat} {cs : List Value} (h : OKC Tryz.prog w n 69 cs) : ∃ x : En, cs = enL x ∧ x.good := by
  have c4 : Tryz.prog.cellsOf 69 = 4 := by kernel_rfl
  cases n with
  | zero => exact h.elim
  | succ n =>
    unfold OKC at h
    rw [Tryz.underlying69] at h
    simp only [c4] at h
    obtain ⟨hl, hi⟩ := h
    match cs, hl with
    | [x, y, z, v], _ =>
      simp [show Tryz.prog.cellsOf 67 = 3 by kernel_rfl, show Tryz.prog.cellsOf 9 = 1 by kernel_rfl] at hi
      obtain ⟨m, hm, hm2, hm3⟩ := okc_mark hi.1
      obtain ⟨b, hb, hb2⟩ := okc_str Tryz.underlying9 hi.2
      simp [mkRow] at hm hb
      obtain ⟨h1, h2, h3⟩ := hm
      subst h1; subst h2; subst h3; subst hb
      exact ⟨⟨m, b⟩, rfl, ⟨hm2, hb2⟩, hm3⟩
/-- Entries that lie in memory. -/
theorem okc_entries {w : World} {v : Value} (h : ∃ n, OKC Tryz.prog w n 22 [v]) : ∃ (l : List En) (a : Option Addr) (cap : Nat), v = .slice a l.length cap ∧ (∀ x ∈ l, x.good) ∧ RowIs w 4 v l.length (l.flatMap enL) ∧ l.length * 48 ≤ 140737488351232 := by
  obtain ⟨n, h⟩ := h
  cases n with
  | zero => exact h.elim
  | succ n =>
    obtain ⟨l, hg, hr, hby⟩ := OKC.row enL En.good 4 Tryz.underlying22 (by kernel_rfl) (by decide) (fun _ => rfl) (fun cs hc => okc_entry hc) h
    obtain ⟨a, cap, hv⟩ := hr.form
    rw [show Tryz.prog.bytesOf 69 = 48 by kernel_rfl] at hby
    exact ⟨l, a, cap, hv, hg, hr, hby⟩
def sameB (a b : Mk) : Bool := a.key.toList == b.key.toList && (a.seq == b.seq && a.gone == b.gone)
theorem same_iff {a b : Mk} : sameB a b = true ↔ a = b := by
  unfold sameB
  simp only [Bool.and_eq_true, beq_iff_eq]
  constructor
  · rintro ⟨h1, h2, h3⟩
    obtain ⟨ak, ai, ag⟩ := a
    obtain ⟨bk, bi, bg⟩ := b
    simp only at h1 h2 h3
    rw [ba_ext h1, h2, h3]
  · rintro rfl; exact ⟨rfl, rfl, rfl⟩
def sameEB (a b : En) : Bool := sameB a.mark b.mark && a.val.toList == b.val.toList
theorem sameE_iff {a b : En} : sameEB a b = true ↔ a = b := by
  unfold sameEB
  rw [Bool.and_eq_true, same_iff, beq_iff_eq]
  constructor
  · rintro ⟨h1, h2⟩
    obtain ⟨m, v⟩ := a; obtain ⟨m', v'⟩ := b
    simp only at h1 h2
    rw [h1, ba_ext h2]
  · rintro rfl; exact ⟨rfl, rfl⟩
instance : DecidableEq En := fun _ _ => decidable_of_iff _ sameE_iff
theorem wpQuiet_neq_en {ops : Array Oper} {C : World → Prop} {Q : Act → Prop} {o : Oper} {rest : List Oper} {a : Act} (hg : Region.wanted o (yielded ops a.tmps) = true) (x y : Operand) (ho : o.op = .binOp .neq 69 x y 69) (m n : En) (hx : a.eval x = .agg (enRow m)) (hy : a.eval y = .agg (enRow n))
    (k : wpQuiet Tryz.prog ops C Q rest (a.put o.dst (.bool (!sameEB m n)))) : wpQuiet Tryz.prog ops C Q (o :: rest) a := by
  refine wpQuiet_value _ hg (fun w _ => ?_) k
  unfold execOp
  simp only [ho, hx, hy, enRow]
  have hs : ((m.mark.seq : Int) = (n.mark.seq : Int)) ↔ m.mark.seq = n.mark.seq := by omega
  go_simp
  unfold sameEB sameB
  by_cases h1 : m.mark.key.toList = n.mark.key.toList <;> by_cases h2 : m.mark.seq = n.mark.seq <;> by_cases h3 : m.mark.gone = n.mark.gone <;> by_cases h4 : m.val.toList = n.val.toList <;> simp [h1, h2, h3, h4]
set_option maxRecDepth 100000 in
set_option maxHeartbeats 1000000 in
theorem same_any (w : World) (l l' : List En) (a a' : Option Addr) (cap cap' : Nat) (h1 : RowIs w 4 (.slice a l.length cap) l.length (l.flatMap enL)) (h2 : RowIs w 4 (.slice a' l'.length cap') l'.length (l'.flatMap enL)) :
    Calls Tryz.prog 18 #[.slice a l.length cap, .slice a' l'.length cap'] w fun e w' => e = .returned (.bool (decide (l = l'))) ∧ Ext w w' := by
  by_cases hn : l.length = l'.length
  · have hn' : (l.length : Int) = (l'.length : Int) := by omega
    have hnn := h1.2.1
    obtain ⟨n, hl1⟩ : ∃ n, n = l.length := ⟨_, rfl⟩
    have hl2 : n = l'.length := by omega
    rw [← hl1] at h1 hnn
    rw [← hl2] at h2
    rw [← hl1, ← hl2]
    have hq1 := Lib.hid hl1
    have hq2 := Lib.hid hl2
    clear hn hn' hl1 hl2
    obtain ⟨r, hr⟩ : ∃ r, r = decide (l = l') := ⟨_, rfl⟩
    have hr' := Lib.hid hr
    rw [← hr]
    clear hr
    go_enter Tryz.func18, Tryz.ntmps18
    go_wp2_with fail
    go_loopw [5] (fun i wr => ∃ k : Nat, k ≤ n ∧ i = .int .i64 k ∧ l.take k = l'.take k ∧ Ext w wr) (fun i _ => n - (intOf i).toNat)
    case atStart => exact ⟨0, by omega, rfl, rfl, Ext.refl _⟩
    case round =>
      obtain ⟨k, hk, rfl, heq, hE⟩ := hrel
      by_cases hlt : k < n
      · have hli : (k : Int) < (n : Int) := by omega
        obtain ⟨c, hc⟩ : ∃ c, l[k]? = some c := ⟨_, List.getElem?_eq_getElem (by rw [← hq1.out]; exact hlt)⟩
        obtain ⟨c', hc'⟩ : ∃ c, l'[k]? = some c := ⟨_, List.getElem?_eq_getElem (by rw [← hq2.out]; exact hlt)⟩
        obtain ⟨b, off, hat⟩ := (h1.ext hE).at
        obtain ⟨b', off', hat'⟩ := (h2.ext hE).at
        obtain ⟨rfl, _, hd⟩ := hat (by omega)
        obtain ⟨rfl, _, hd'⟩ := hat' (by omega)
        have p := ens_range (by rw [← hq1.out]; exact hd) hc
        have q := ens_range (by rw [← hq2.out]; exact hd') hc'
        clear hd hd' hat hat'
        have htk : l.take (k + 1) = l.take k ++ [c] := by rw [List.take_add_one, hc]; rfl
        have htk' : l'.take (k + 1) = l'.take k ++ [c'] := by rw [List.take_add_one, hc']; rfl
        have heq' := Lib.hid heq
        have htk2 := Lib.hid htk
        have htk3 := Lib.hid htk'
        have hcc := Lib.hid hc
        have hcc' := Lib.hid hc'
        clear heq htk htk' hc hc'
        go_upto_region 6 with fail
        refine wp_region_class (Ext wr) (by kernel_rfl) (by kernel_rfl) (Ext.refl _).drew ?_
        iterate 3 (refine wpQuiet_step (fun K hK => ?_); go_simp; first | (refine hK _ ?_; clear hK K) | (refine ⟨_, fun _ _ => rfl, hK _ ?_⟩; clear hK K))
        refine wpQuiet_load_mid (by rfl) 69 _ (by rfl) b (off + k * 4) (by rfl) _ _ (fun w' h r u hu => h.cell (p r u hu)) Tryz.underlying69 rfl (by exact info_entry) ?_
        iterate 3 (refine wpQuiet_step (fun K hK => ?_); go_simp; first | (refine hK _ ?_; clear hK K) | (refine ⟨_, fun _ _ => rfl, hK _ ?_⟩; clear hK K))
        refine wpQuiet_load_mid (by rfl) 69 _ (by rfl) b' (off' + k * 4) (by rfl) _ _ (fun w' h r u hu => h.cell (q r u hu)) Tryz.underlying69 rfl (by exact info_entry) ?_
        refine wpQuiet_neq_en (by rfl) (.tmp 20) (.tmp 24) (by rfl) c c' (by rfl) (by rfl) ?_
        refine wpQuiet_nil (fun w5 hE5 => ?_)
        simp only [Act.put, List.setIfInBounds_toArray, List.set_cons_zero, List.set_cons_succ]
        cases hse : sameEB c c'
        all_goals simp only [Bool.not_true, Bool.not_false]
        · have hne : r = false := by
            rw [hr'.out]
            refine decide_eq_false fun h => ?_
            subst h
            have := hcc.out.symm.trans hcc'.out
            injection this with this
            rw [sameE_iff.2 this] at hse
            exact Bool.noConfusion hse
          have hne' := Lib.hid hne
          clear hne
          go_wp2_with fail
          go_ret
          exact ⟨by rw [hne'.out]; rfl, hE.trans hE5⟩
        · have hcc2 := Lib.hid (sameE_iff.1 hse)
          go_wp2_with fail
          go_roundw
          case rel => first | exact ⟨k + 1, by omega, by go_num, by rw [htk2.out, htk3.out, heq'.out, hcc2.out], hE.trans hE5⟩ | exact ⟨_, _, _, _, _, _, _, _, _, _, _, _, _, ⟨k + 1, by omega, by go_num, by rw [htk2.out, htk3.out, heq'.out, hcc2.out], hE.trans hE5⟩, rfl⟩ | trace_state
          case measure => simp [intOf]; omega
      · have hli : ¬ (k : Int) < (n : Int) := by omega
        have hne : r = true := by
          rw [hr'.out]
          refine decide_eq_true ?_
          rw [List.take_of_length_le (by rw [← hq1.out]; omega), List.take_of_length_le (by rw [← hq2.out]; omega)] at heq
          exact heq
        have hne' := Lib.hid hne
        clear hne heq
        go_wp2_with fail
        go_ret
        exact ⟨by rw [hne'.out]; rfl, hE⟩
  · have hn' : ¬ (l.length : Int) = (l'.length : Int) := by omega
    rw [decide_eq_false (fun h => hn (congrArg List.length h))]
    clear h1 h2
    go_enter Tryz.func18, Tryz.ntmps18
    go_wp2_with fail
    go_ret
    exact ⟨rfl, Ext.refl _⟩
end Go.Proofs.YtefllplgbalbkaaGreatDoor
