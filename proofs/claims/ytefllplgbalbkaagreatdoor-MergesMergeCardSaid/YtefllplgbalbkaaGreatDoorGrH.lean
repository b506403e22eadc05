/- Several texts in one: Pm7 Rf4 LzM. No condition. -/
import Derived.Test.YtefllplgbalbkaaGreatDoorRf3
import Derived.Test.YtefllplgbalbkaaGreatDoorMg4
import Derived.Test.YtefllplgbalbkaaGreatDoorGrG
import Derived.Test.YtefllplgbalbkaaGreatDoorGrA
import Derived.Deep.CutRange
import Derived.Deep.CutBlock
import Derived.Deep.RegionHeld3
import Derived.Test.YtefllplgbalbkaaGreatDoorLzT
/- Merge, as the document has it: each put in its place; it is merges.Merge's. No condition. -/
namespace Go.Proofs.YtefllplgbalbkaaGreatDoor
def mgF (l : List En) : List En := l.foldl insL []
def mgS (ls : List (List En)) : List En := mgF ls.flatten
def mgOk (ls : List (List En)) : Bool := ls.all risesB && risesB (mgS ls)
def mgA (ls : List (List En)) : List En := if mgOk ls then mgS ls else []
def mgC (ls : List (List En)) : Int := if mgOk ls then 0 else 1
theorem mgF_snoc (l : List En) (x : En) : mgF (l ++ [x]) = insL (mgF l) x := by unfold mgF; rw [List.foldl_append]; rfl
theorem ins_perm (l : List En) (x : En) : (insL l x).Perm (l ++ [x]) := by
  unfold insL
  have h : (aheadL l x.mark ++ x :: restL l x.mark).Perm (x :: (aheadL l x.mark ++ restL l x.mark)) := List.perm_middle
  rw [ahead_rest] at h
  exact h.trans (List.perm_append_singleton x l).symm
theorem mgF_perm (l : List En) : (mgF l).Perm l := by
  have : ∀ (l a : List En), (l.foldl insL a).Perm (a ++ l) := by
    intro l
    induction l with
    | nil => intro a; simp
    | cons x l ih =>
      intro a
      rw [List.foldl_cons]
      refine (ih _).trans ?_
      refine ((ins_perm a x).append_right l).trans ?_
      rw [List.append_assoc]
      exact List.Perm.refl _
  have h := this l []
  rw [List.nil_append] at h
  exact h
theorem mgF_rises : ∀ (l : List En), (l.map En.mark).Nodup → Rises (mgF l) := by
  have : ∀ (l a : List En), Rises a → ((a ++ l).map En.mark).Nodup → Rises (l.foldl insL a) := by
    intro l
    induction l with
    | nil => intro a h _; exact h
    | cons x l ih =>
      intro a h hn
      rw [List.foldl_cons]
      rw [List.map_append, List.map_cons, List.nodup_append] at hn
      obtain ⟨h1, h2, h3⟩ := hn
      refine ih _ (ins_rises h fun e he hx => ?_) ?_
      · exact h3 _ (List.mem_map_of_mem he) _ (List.mem_cons_self ..) hx
      · have hp := ((ins_perm a x).append_right l).map En.mark
        rw [hp.nodup_iff, List.append_assoc, List.map_append, List.nodup_append]
        exact ⟨h1, h2, h3⟩
  intro l h
  exact this l [] List.Pairwise.nil (by simpa using h)
theorem rises_nodup {l : List En} (h : Rises l) : (l.map En.mark).Nodup := List.pairwise_map.2 (h.imp fun {a b} hab he => by
  rw [he, Mk.irrefl] at hab
  cases hab)
theorem mg_no {ls : List (List En)} (h : ¬ (ls.flatten.map En.mark).Nodup) : risesB (mgS ls) = false := not_rises (mgF_perm _) h
theorem mg_yes {ls : List (List En)} (h : risesB (mgS ls) = true) : (ls.flatten.map En.mark).Nodup :=
  (((mgF_perm ls.flatten).map En.mark).nodup_iff).1 (rises_nodup ((risesB_iff _).1 h))
/-- What Merge tells, of both ways. -/
theorem merged_same {ls : List (List En)} {out : List En} (h : MergedL ls out) : (risesB (mgS ls) = true → out = mgS ls) ∧ (risesB (mgS ls) = false → risesB out = false) := by
  refine ⟨fun hr => h.rises ((risesB_iff _).1 hr) (mgF_perm _).symm, fun hr => ?_⟩
  cases ho : risesB out with
  | false => rfl
  | true =>
    have h1 := rises_nodup ((risesB_iff out).1 ho)
    have h2 := ((h.perm.map En.mark).nodup_iff).1 h1
    have h3 := (risesB_iff _).2 (mgF_rises _ h2)
    unfold mgS at hr
    rw [hr] at h3
    cases h3
theorem mgF_len (l : List En) : (mgF l).length = l.length := (mgF_perm l).length_eq
/-- An element that is there already. -/
theorem mg_dup {ls : List (List En)} {a b : List En} {x e : En} (hs : ls.flatten = a ++ x :: b) (he : e ∈ mgF a) (hm : e.mark = x.mark) : mgOk ls = false := by
  unfold mgOk
  rw [mg_no, Bool.and_false]
  intro hn
  rw [hs, List.map_append, List.nodup_append] at hn
  exact hn.2.2 _ (List.mem_map_of_mem ((mgF_perm a).mem_iff.1 he)) _ (by rw [List.map_cons]; exact List.mem_cons_self ..) hm
theorem mg_bad {ls : List (List En)} {l : List En} (h : l ∈ ls) (hr : risesB l = false) : mgOk ls = false := by
  unfold mgOk
  rw [Bool.and_eq_false_iff]
  left
  rw [List.all_eq_false]
  exact ⟨l, h, by rw [hr]; simp⟩
theorem mg_fine {ls : List (List En)} (h : ∀ l ∈ ls, risesB l = true) (hr : Rises (mgS ls)) : mgOk ls = true := by
  unfold mgOk
  rw [(risesB_iff _).2 hr, Bool.and_true, List.all_eq_true]
  exact h
/-- The place. -/
theorem ahead_at {O : List En} {m : Mk} {j : Nat} (hj : j < (aheadL O m).length) : ∃ y, O[j]? = some y ∧ y.mark.ltB m = true := by
  obtain ⟨y, hy⟩ : ∃ y, (aheadL O m)[j]? = some y := ⟨_, List.getElem?_eq_getElem hj⟩
  refine ⟨y, ?_, ahead_lt (List.mem_of_getElem? hy)⟩
  have h : (aheadL O m ++ restL O m)[j]? = some y := by rw [List.getElem?_append_left hj]; exact hy
  rwa [ahead_rest] at h
theorem ahead_end {O : List En} (hs : Rises O) {m : Mk} {y : En} (hy : O[(aheadL O m).length]? = some y) : y.mark.ltB m = false ∧ y ∈ O ∧ restL O m = y :: (restL O m).tail := by
  have h := ahead_rest O m
  have h1 : (aheadL O m ++ restL O m)[(aheadL O m).length]? = some y := by rw [h]; exact hy
  rw [List.getElem?_append_right (Nat.le_refl _), Nat.sub_self] at h1
  cases hr : restL O m with
  | nil => rw [hr] at h1; cases h1
  | cons z t =>
    rw [hr] at h1
    injection h1 with h1
    subst h1
    exact ⟨rest_ge hs (by rw [hr]; exact List.mem_cons_self ..), List.mem_of_getElem? hy, rfl⟩
theorem ahead_le (O : List En) (m : Mk) : (aheadL O m).length ≤ O.length := (List.takeWhile_sublist _).length_le
theorem ahead_take (O : List En) (m : Mk) : O.take (aheadL O m).length = aheadL O m := by
  conv => lhs; rw [← ahead_rest O m]
  rw [List.take_left']
  rw [ahead_rest]
theorem ahead_drop (O : List En) (m : Mk) : O.drop (aheadL O m).length = restL O m := by
  conv => lhs; rw [← ahead_rest O m]
  rw [List.drop_left']
  rw [ahead_rest]
/-- None has the mark, if none stands at the place that has it. -/
theorem none_has {O : List En} (hs : Rises O) {m : Mk} (h : ∀ y, O[(aheadL O m).length]? = some y → y.mark ≠ m) : ∀ e ∈ O, e.mark ≠ m := fun e he hm => by
  obtain ⟨r, hr⟩ := rest_first hs he hm
  refine h e ?_ hm
  conv => lhs; rw [← ahead_rest O m]
  rw [List.getElem?_append_right (by rw [ahead_rest]; exact Nat.le_refl _), ahead_rest, Nat.sub_self, hr]
  rfl
end Go.Proofs.YtefllplgbalbkaaGreatDoor

/- The document's answer: Merge. No condition. -/
namespace Go.Proofs.YtefllplgbalbkaaGreatDoor
open Go.RowKit
set_option maxRecDepth 100000
set_option maxHeartbeats 4000000
def MergeU (w : World) (ls : List (List En)) (e : Ending) (w' : World) : Prop := ∃ a n cap, e = .returned (.tuple #[.slice a n cap, .int .i64 (mgC ls)]) ∧ n = (mgA ls).length ∧ OwnC w' w.heap.size 69 4 (.slice a n cap) n ((mgA ls).flatMap enL) ∧ Ext w w'
theorem merge_u (w : World) (ls : List Ls) (a : Option Addr) (cap n : Nat) (hnl : n = ls.length) (hR : RowIs w 1 (.slice a n cap) n (ls.map (·.1))) (hls : ∀ p ∈ ls, LsOk w p) (hn : n ≤ 1000) (hT : (ls.map (·.2)).flatten.length ≤ 1000000) : Calls Tryz.prog 23 #[.slice a n cap] w (MergeU w (ls.map (·.2))) := by
  subst hnl
  refine (merge_any w ls a cap hR hls hn hT).mono fun e w' h => ?_
  obtain ⟨hE, h1, h2⟩ := h
  have hall : (ls.map (·.2)).all risesB = ls.all fun p => risesB p.2 := by rw [List.all_map]; rfl
  unfold MergeU mgA mgC
  have no : mgOk (ls.map (·.2)) = false → e = .returned (.tuple #[.slice none 0 0, .int .i64 1]) → ∃ a n cap, e = .returned (.tuple #[.slice a n cap, .int .i64 (if mgOk (ls.map (·.2)) = true then 0 else 1)]) ∧ n = (if mgOk (ls.map (·.2)) = true then mgS (ls.map (·.2)) else []).length ∧ OwnC w' w.heap.size 69 4 (.slice a n cap) n ((if mgOk (ls.map (·.2)) = true then mgS (ls.map (·.2)) else []).flatMap enL) ∧ Ext w w' := fun h0 he => by
    rw [h0]
    exact ⟨none, 0, 0, he, rfl, OwnC.nil _ _ _ _, hE⟩
  cases hr : ls.all fun p => risesB p.2 with
  | false => exact no (by unfold mgOk; rw [hall, hr, Bool.false_and]) (h1 hr)
  | true =>
    obtain ⟨out, hm, h3, h4⟩ := h2 hr
    obtain ⟨k1, k2⟩ := merged_same hm
    cases hs : risesB (mgS (ls.map (·.2))) with
    | false => exact no (by unfold mgOk; rw [hs, Bool.and_false]) (h3 (k2 hs))
    | true =>
      have hok : mgOk (ls.map (·.2)) = true := by unfold mgOk; rw [hall, hr, hs]; rfl
      have ho := k1 hs
      rw [ho] at h4
      obtain ⟨a, cap, h5, h6⟩ := h4 hs
      rw [hok]
      exact ⟨a, _, cap, h5, rfl, h6, hE⟩
theorem wpQuiet_eql_mk {ops : Array Oper} {C : World → Prop} {Q : Act → Prop} {o : Oper} {rest : List Oper} {a : Act} (hg : Region.wanted o (yielded ops a.tmps) = true) (x y : Operand) (ho : o.op = .binOp .eql 67 x y 67) (m n : Mk) (hx : a.eval x = .agg (mkRow m).toArray) (hy : a.eval y = .agg (mkRow n).toArray)
    (k : Bq (wpQuiet Tryz.prog ops C Q rest (a.put o.dst (.bool (sameB m n))))) : Bq (wpQuiet Tryz.prog ops C Q (o :: rest) a) := by
  refine bqValue _ hg (fun w _ => ?_) k
  unfold execOp
  simp only [ho, hx, hy, mkRow]
  have hs : ((m.seq : Int) = (n.seq : Int)) ↔ m.seq = n.seq := by omega
  go_simp
  unfold sameB
  by_cases h1 : m.key.toList = n.key.toList <;> by_cases h2 : m.seq = n.seq <;> by_cases h3 : m.gone = n.gone <;> simp [h1, h2, h3]
theorem step_append_cs {P : Program} {ops : Array Oper} {o : Oper} {a : Act} {K : Act → World → Prop} {Q : Exit → Act → World → Prop} {E : Prop} (hg : Region.wanted o (yielded ops a.tmps) = true) (s x : Operand) (t e : TypeId)
    (ho : o.op = .call { callee := .builtin .append, args := #[s, x], argTypes := #[t, t] }) (ht : P.underlying t = some (.slice e)) {size bytes : Nat} (hel : ElemIs P e size bytes)
    (w : World) (base n : Nat) (xs : List Value) (v : Value) (hs : a.eval s = v) (hown : OwnC w base e size v n xs) (xv : Value) (m : Nat) (news : List Value)
    (hx : a.eval x = xv) (hr : RowIs w size xv m news) (h1 : ∀ u ∈ news, u.oneCell' = true) (hn : n + m < 9223372036854775807) (hb : (n + m) * bytes ≤ 140737488355328) (hbase : base ≤ w.heap.size)
    (h : ∀ v' w', OwnC w' base e size v' (n + m) (xs ++ news) → Below base w w' → K (a.put o.dst v') w') : if Region.wanted o (yielded ops a.tmps) = true then Oper.wp P o a w K Q else E := by
  rw [if_pos hg]
  exact wp_append_cs s x t e ho ht hel w base n xs v hs hown xv m news hx hr h1 hn hb hbase h
theorem row1_of {w : World} {g : Nat} {x : En} (h : w.heap[g]? = some (.cells (enRow x) 69 (0, 0))) : RowIs w 4 (.slice (some ⟨g, 0, none⟩) 1 1) 1 (enRow x).toList :=
  OwnC.row (base := 0) (e := 69) ⟨rfl, .inr ⟨g, 1, enRow x, rfl, Nat.zero_le _, h, Nat.le_refl _, by unfold maxLen; omega, Nat.le_refl _, rfl⟩⟩
def headB (O : List En) (x : En) : Bool := match O[(aheadL O x.mark).length]? with
  | some y => sameB y.mark x.mark
  | none => false
theorem mergeR_any (w : World) (ls : List Ls) (a : Option Addr) (cap n : Nat) (hnl : n = ls.length) (hR : RowIs w 1 (.slice a n cap) n (ls.map (·.1))) (hls : ∀ p ∈ ls, LsOk w p ∧ p.fits) (hn : n ≤ 20) (hT : totL ls ≤ 10000) : Calls Tryz.prog 24 #[.slice a n cap] w (MergeU w (ls.map (·.2))) := by
  obtain ⟨A, hA⟩ : ∃ A, A = ls.map (·.2) := ⟨_, rfl⟩
  rw [← hA]
  have hn' := Lib.hid hnl
  have hR' := Lib.hid hR
  have hls' := Lib.hid hls
  have hA' := Lib.hid hA
  have hAl : Hid (n = A.length) := Lib.hid (by rw [hA, List.length_map]; exact hnl)
  have hT' : Hid (A.flatten.length ≤ 10000) := Lib.hid (by rw [hA]; exact hT)
  clear hnl hR hls hA hT
  go_enter Tryz.func24, Tryz.ntmps24
  go_wp2_with fail
  go_loopw [4, 5, 6, 7, 8] (fun out i _ _ _ wr => ∃ (k m : Nat) (oa : Option Addr) (oc : Nat) (O : List En), i = .int .i64 k ∧ k ≤ n ∧ out = .slice oa m oc ∧ Hid (m = O.length) ∧ Hid (O = mgF (A.take k).flatten) ∧ Hid (Rises O) ∧ Hid (∀ l ∈ A.take k, risesB l = true) ∧ Hid (OwnC wr w.heap.size 69 4 (.slice oa m oc) m (O.flatMap enL)) ∧ Ext w wr) (fun _ i _ _ _ _ => n - (intOf i).toNat)
  case atStart => exact ⟨0, 0, none, 0, [], rfl, by omega, rfl, Lib.hid rfl, Lib.hid rfl, Lib.hid .nil, Lib.hid (fun _ h => (nomatch h)), Lib.hid (OwnC.nil _ _ _ _), Ext.refl _⟩
  case round =>
    obtain ⟨k, m, oa, oc, O, rfl, hk, rfl, hm, hO, hOr, hal, hown, hE⟩ := hrel
    by_cases hlt : k < n
    · have hli : (k : Int) < (n : Int) := by omega
      obtain ⟨p, hp⟩ : ∃ p, ls[k]? = some p := ⟨_, List.getElem?_eq_getElem (by rw [← hn'.out]; exact hlt)⟩
      have hpA : A[k]? = some p.2 := by rw [hA'.out, List.getElem?_map, hp]; rfl
      obtain ⟨hlo, hfit⟩ := hls'.out p (List.mem_of_getElem? hp)
      obtain ⟨pa, pc, hp1, hpr⟩ := hlo
      obtain ⟨b, off, hat⟩ := (hR'.out).at
      obtain ⟨rfl, _, hd⟩ := hat (by omega)
      obtain ⟨L, hL⟩ : ∃ L, L = p.2.length := ⟨_, rfl⟩
      obtain ⟨q, hq⟩ : ∃ q, q = p.2 := ⟨_, rfl⟩
      rw [← hq] at hL hpr hpA
      have hc0 : Hid (∀ W, Ext w W → W.cell? ⟨b, off + k, none⟩ = some (.slice pa L pc)) := Lib.hid (fun W h => h.cell (by rw [hd k (by omega), List.getElem?_map, hp, hL, hq, ← hp1]; rfl))
      have hpr2 : Hid (RowIs w 4 (.slice pa L pc) L (q.flatMap enL)) := Lib.hid (by rw [hp1, ← hq, ← hL] at hpr; exact hpr)
      have hsm : Hid (∀ x ∈ q, x.small) := Lib.hid (fun x hx => (hfit.1 x (by rw [← hq]; exact hx)).1)
      have hri : Hid (∀ W, Ext w W → Calls Tryz.prog 31 #[.slice pa L pc] W fun e w' => e = .returned (.bool (risesB q)) ∧ Ext W w') := Lib.hid (fun W h => by
        have := risesR_any W q pa pc hsm.out (by have := hpr2.out.ext h; rwa [hL] at this)
        rwa [← hL] at this)
      have hsmA : Hid (∀ y ∈ A.flatten, y.small) := Lib.hid (fun y hy => by
        rw [hA'.out] at hy
        obtain ⟨l, hl, hy⟩ := List.mem_flatten.1 hy
        obtain ⟨p', hp', rfl⟩ := List.mem_map.1 hl
        exact ((hls'.out p' hp').2.1 y hy).1)
      have hqm : q ∈ A := List.mem_of_getElem? hpA
      have hbadr : Hid (risesB q = false → mgOk A = false) := Lib.hid (fun h => mg_bad hqm h)
      have htk : Hid (A.take (k + 1) = A.take k ++ [q]) := Lib.hid (by rw [List.take_add_one, hpA]; rfl)
      have hsplit : Hid (∀ d x, q[d]? = some x → ∃ r, A.flatten = ((A.take k).flatten ++ q.take d) ++ x :: r) := Lib.hid (fun d x hx => by
        obtain ⟨k1, k2⟩ := List.getElem?_eq_some_iff.1 hpA
        obtain ⟨d1, d2⟩ := List.getElem?_eq_some_iff.1 hx
        refine ⟨q.drop (d + 1) ++ (A.drop (k + 1)).flatten, ?_⟩
        conv => lhs; rw [← List.take_append_drop k A, List.drop_eq_getElem_cons k1, k2]
        rw [List.flatten_append, List.flatten_cons]
        conv => lhs; rw [← List.take_append_drop d q, List.drop_eq_getElem_cons d1, d2]
        simp only [List.append_assoc, List.cons_append])
      have hc1 := hc0.out wr hE
      have hL' := Lib.hid hL
      have hLb : L ≤ 2932031007403 := by rw [hL, hq]; have := hfit.2; omega
      clear hat hd hp hfit hp1 hpr hq hqm hpA hL
      go_wp2_with fail
      refine (hri.out wr hE).mono ?_
      rintro e w2 ⟨rfl, hE2⟩
      have hEw := hE.trans hE2
      have hown2 := Lib.hid (hown.out.ext hE2)
      clear hc1 hown hE hE2 hri
      cases hrq : risesB q with
      | false =>
        have hno := Lib.hid (hbadr.out hrq)
        go_wp2_with fail
        refine bodyPost_ret (v := .tuple #[.slice none 0 0, .int .i64 1]) (by simp [results, Tryz.results24, go_sem]) rfl ?_
        refine ⟨none, 0, 0, by unfold mgC; rw [hno.out]; rfl, by unfold mgA; rw [hno.out]; rfl, ?_, hEw⟩
        unfold mgA
        rw [hno.out]
        exact OwnC.nil _ _ _ _
      | true =>
        have hal2 : Hid (∀ l ∈ A.take (k + 1), risesB l = true) := Lib.hid (fun l hl => by
          rw [htk.out] at hl
          rcases List.mem_append.1 hl with hl | hl
          · exact hal.out l hl
          · rw [List.mem_singleton.1 hl]; exact hrq)
        clear hrq hbadr hal
        go_wp2_with fail
        go_loopw [4, 6, 7, 8] (fun out j _ _ wr => ∃ (d m : Nat) (oa : Option Addr) (oc : Nat) (O : List En), j = .int .i64 d ∧ d ≤ L ∧ out = .slice oa m oc ∧ Hid (m = O.length) ∧ Hid (O = mgF ((A.take k).flatten ++ q.take d)) ∧ Hid (Rises O) ∧ Hid (OwnC wr w.heap.size 69 4 (.slice oa m oc) m (O.flatMap enL)) ∧ Ext w wr) (fun _ j _ _ _ => L - (intOf j).toNat)
        case atStart => exact ⟨0, m, oa, oc, O, rfl, by omega, rfl, hm, Lib.hid (by rw [List.take_zero, List.append_nil]; exact hO.out), hOr, hown2, hEw⟩
        case round =>
          obtain ⟨d, m, oa, oc, O, rfl, hd, rfl, hm, hO, hOr, hown, hE⟩ := hrel
          have hc1 := hc0.out wr hE
          by_cases hdl : d < L
          · have hdi : (d : Int) < (L : Int) := by omega
            obtain ⟨x, hx⟩ : ∃ x, q[d]? = some x := ⟨_, List.getElem?_eq_getElem (by rw [← hL'.out]; exact hdl)⟩
            obtain ⟨r, hr⟩ := hsplit.out d x hx
            have hbd : m + 1 ≤ 10000 := by
              have h1 := hT'.out
              rw [hr, List.length_append, List.length_cons] at h1
              rw [hm.out, hO.out, mgF_len]
              omega
            have hOs : Hid (∀ y ∈ O, y.small) := Lib.hid (fun y hy => by
              rw [hO.out] at hy
              refine hsmA.out y ?_
              rw [hr]
              exact List.mem_append_left _ ((mgF_perm _).mem_iff.1 hy))
            have hsx := (hsm.out x (List.mem_of_getElem? hx)).1
            obtain ⟨lb, lo, hat⟩ := hpr2.out.at
            obtain ⟨rfl, _, hdx⟩ := hat (by omega)
            obtain ⟨V, hV⟩ : ∃ V, Hid (wr = V) := ⟨wr, Lib.hid rfl⟩
            have hEV : Ext w V := by rw [← hV.out]; exact hE
            have hownV : Hid (OwnC V w.heap.size 69 4 (.slice oa m oc) m (O.flatMap enL)) := Lib.hid (by rw [← hV.out]; exact hown.out)
            have hcV : Hid (∀ W, Ext V W → W.cell? ⟨b, off + k, none⟩ = some (.slice (some ⟨lb, lo, none⟩) L pc)) := Lib.hid (fun W h => hc0.out W (hEV.trans h))
            have hxV : Hid (∀ W, Ext V W → W.rangeAt lb (lo + d * 4) (enRow x).toList) := Lib.hid (fun W h r u hu => (hEV.trans h).cell (ens_range (by rw [← hL'.out]; exact hdx) hx r u hu))
            have hlc : L ≤ pc := by assumption
            obtain ⟨P, hP⟩ : ∃ P, P = (aheadL O x.mark).length := ⟨_, rfl⟩
            have hPm : P ≤ m := by rw [hP, hm.out]; exact ahead_le _ _
            have hP' := Lib.hid hP
            have hx' := Lib.hid hx
            have hr' := Lib.hid hr
            clear hP hx hr hat hdx hown hE
            go_upto_block 4 with fail
            clear hc1
            go_cut [7] from 30 to 52 (fun t wx => t = .int .i64 (P : Int) ∧ Ext V wx)
            case first =>
              go_wp2_with fail
              go_loopw [7] (fun t wr => ∃ j : Nat, t = .int .i64 j ∧ j ≤ P ∧ Ext V wr) (fun t _ => m - (intOf t).toNat)
              case atStart => exact ⟨0, rfl, by omega, by rw [hV.out]; exact Ext.refl _⟩
              case round =>
                obtain ⟨j, rfl, hj, hEj⟩ := hrel
                by_cases hjm : j < m
                · have hji : (j : Int) < (m : Int) := by omega
                  obtain ⟨y, hy⟩ : ∃ y, O[j]? = some y := ⟨_, List.getElem?_eq_getElem (by rw [← hm.out]; exact hjm)⟩
                  obtain ⟨ob, oo, hat⟩ := (hownV.out.ext hEj).row.at
                  obtain ⟨rfl, _, hdy⟩ := hat (by omega)
                  have p := mark_range (ens_range (by rw [← hm.out]; exact hdy) hy)
                  have q := mark_range (hxV.out wr hEj)
                  have c1 := hcV.out wr hEj
                  have hsy := (hOs.out y (List.mem_of_getElem? hy)).1
                  have hy' := Lib.hid hy
                  clear hat hdy hy
                  go_upto_region 11 with fail
                  refine bqRegion (Ext wr) (by kernel_rfl) (by kernel_rfl) (Ext.refl _).drew ?_
                  iterate 9 (refine bqStep (fun K hK => ?_); go_simp; first | (refine hK _ ?_; clear hK K) | (refine ⟨_, fun _ _ => rfl, hK _ ?_⟩; clear hK K))
                  refine bqMid (by rfl) 67 _ (by rfl) ob (oo + j * 4) (by rfl) _ _ (fun w' h r u hu => h.cell (p r u hu)) Tryz.underlying67 rfl (by exact info_mark) ?_
                  simp only [Act.put, List.setIfInBounds_toArray, List.set_cons_zero, List.set_cons_succ]
                  iterate 3 (refine bqStep (fun K hK => ?_); go_simp; first | (refine hK _ ?_; clear hK K) | (refine ⟨_, fun _ _ => rfl, hK _ ?_⟩; clear hK K))
                  refine bqCell (by rfl) 22 _ (by rfl) b (off + k) (by rfl) _ (fun w' h => h.cell c1) _ Tryz.underlying22 rfl ?_
                  simp only [Act.put, List.setIfInBounds_toArray, List.set_cons_zero, List.set_cons_succ]
                  iterate 3 (refine bqStep (fun K hK => ?_); go_simp; first | (refine hK _ ?_; clear hK K) | (refine ⟨_, fun _ _ => rfl, hK _ ?_⟩; clear hK K))
                  refine bqMid (by rfl) 67 _ (by rfl) lb (lo + d * 4) (by rfl) _ _ (fun w' h r u hu => h.cell (q r u hu)) Tryz.underlying67 rfl (by exact info_mark) ?_
                  simp only [Act.put, List.setIfInBounds_toArray, List.set_cons_zero, List.set_cons_succ, mkRow]
                  refine bqStep (fun K hK => ?_)
                  go_simp
                  refine ⟨_, fun w' hw => calls_ext hw (cmpR_any w' y.mark x.mark hsy hsx), hK _ ?_⟩
                  clear hK K
                  iterate 2 (refine bqStep (fun K hK => ?_); go_simp; first | (refine hK _ ?_; clear hK K) | (refine ⟨_, fun _ _ => rfl, hK _ ?_⟩; clear hK K))
                  refine bqNil (fun w5 hE5 => ?_)
                  have hE6 := hEj.trans hE5
                  clear p q c1
                  cases hlt2 : y.mark.ltB x.mark with
                  | true =>
                    have hc : cmpM y.mark x.mark < 0 := cmpM_neg.2 hlt2
                    have hd0 : decide (cmpM y.mark x.mark < 0) = true := decide_eq_true hc
                    have hjP : j + 1 ≤ P := by
                      rcases Nat.lt_or_ge j P with h | h
                      · exact h
                      · have h1 := hy'.out
                        rw [show j = (aheadL O x.mark).length by rw [← hP'.out]; omega] at h1
                        rw [(ahead_end hOr.out h1).1] at hlt2
                        cases hlt2
                    clear hlt2
                    go_wp2_with fail
                    go_roundw
                    case rel => exact ⟨j + 1, by go_num, hjP, hE6⟩
                    case measure => simp [intOf]; omega
                  | false =>
                    have hc : ¬ cmpM y.mark x.mark < 0 := fun h => by rw [cmpM_neg.1 h] at hlt2; cases hlt2
                    have hd0 : decide (cmpM y.mark x.mark < 0) = false := decide_eq_false hc
                    have hjP : j = P := by
                      rcases Nat.lt_or_ge j P with h | h
                      · obtain ⟨z, hz, hzl⟩ := ahead_at (O := O) (m := x.mark) (j := j) (by rw [← hP'.out]; exact h)
                        rw [hy'.out] at hz
                        injection hz with hz
                        rw [hz, hzl] at hlt2
                        cases hlt2
                      · omega
                    have hjP' := Lib.hid hjP
                    clear hlt2 hjP
                    go_wp2_with fail
                    go_meet
                    exact ⟨by rw [hjP'.out], hE6⟩
                · have hji : ¬ (j : Int) < (m : Int) := by omega
                  have hjP : Hid (j = P) := Lib.hid (by omega)
                  go_upto_region 11 with fail
                  refine bqRegion (Ext wr) (by kernel_rfl) (by kernel_rfl) (Ext.refl _).drew ?_
                  iterate 5 (refine bqStep (fun K hK => ?_); go_simp; first | (refine hK _ ?_; clear hK K) | (refine ⟨_, fun _ _ => rfl, hK _ ?_⟩; clear hK K))
                  iterate 15 (refine bqSkip (by rfl) ?_; simp only [Act.put, List.setIfInBounds_toArray, List.set_cons_zero, List.set_cons_succ])
                  iterate 1 (refine bqStep (fun K hK => ?_); go_simp; first | (refine hK _ ?_; clear hK K) | (refine ⟨_, fun _ _ => rfl, hK _ ?_⟩; clear hK K))
                  refine bqNil (fun w5 hE5 => ?_)
                  go_wp2_with fail
                  go_meet
                  exact ⟨by rw [hjP.out], hEj.trans hE5⟩
            case rest =>
              obtain ⟨rfl, hE7⟩ := hcut
              obtain ⟨B, hB⟩ : ∃ B, B = headB O x := ⟨_, rfl⟩
              have hB' := Lib.hid hB
              clear hB
              obtain ⟨U, hU⟩ : ∃ U, Hid (wc = U) := ⟨wc, Lib.hid rfl⟩
              have hEU : Ext V U := by rw [← hU.out]; exact hE7
              clear hE7
              go_upto_region 13 with fail
              go_cut [72] from 53 to 71 (fun t wx => t = .bool B ∧ Ext U wx)
              case first =>
                have hEc : Ext V wc := by rw [hU.out]; exact hEU
                have hUc : Ext U wc := by rw [hU.out]; exact Ext.refl _
                by_cases hjm : P < m
                · have hji : (P : Int) < (m : Int) := by omega
                  obtain ⟨y, hy⟩ : ∃ y, O[P]? = some y := ⟨_, List.getElem?_eq_getElem (by rw [← hm.out]; exact hjm)⟩
                  have hBe : Hid (B = sameB y.mark x.mark) := Lib.hid (by rw [hB'.out]; unfold headB; rw [← hP'.out, hy])
                  obtain ⟨ob, oo, hat⟩ := (hownV.out.ext hEc).row.at
                  obtain ⟨rfl, _, hdy⟩ := hat (by omega)
                  have p := mark_range (ens_range (by rw [← hm.out]; exact hdy) hy)
                  have q := mark_range (hxV.out wc hEc)
                  have c1 := hcV.out wc hEc
                  clear hat hdy hy
                  refine bqRegion (Ext wc) (by kernel_rfl) (by kernel_rfl) (Ext.refl _).drew ?_
                  iterate 9 (refine bqStep (fun K hK => ?_); go_simp; first | (refine hK _ ?_; clear hK K) | (refine ⟨_, fun _ _ => rfl, hK _ ?_⟩; clear hK K))
                  refine bqMid (by rfl) 67 _ (by rfl) ob (oo + P * 4) (by rfl) _ _ (fun w' h r u hu => h.cell (p r u hu)) Tryz.underlying67 rfl (by exact info_mark) ?_
                  simp only [Act.put, List.setIfInBounds_toArray, List.set_cons_zero, List.set_cons_succ]
                  iterate 3 (refine bqStep (fun K hK => ?_); go_simp; first | (refine hK _ ?_; clear hK K) | (refine ⟨_, fun _ _ => rfl, hK _ ?_⟩; clear hK K))
                  refine bqCell (by rfl) 22 _ (by rfl) b (off + k) (by rfl) _ (fun w' h => h.cell c1) _ Tryz.underlying22 rfl ?_
                  simp only [Act.put, List.setIfInBounds_toArray, List.set_cons_zero, List.set_cons_succ]
                  iterate 3 (refine bqStep (fun K hK => ?_); go_simp; first | (refine hK _ ?_; clear hK K) | (refine ⟨_, fun _ _ => rfl, hK _ ?_⟩; clear hK K))
                  refine bqMid (by rfl) 67 _ (by rfl) lb (lo + d * 4) (by rfl) _ _ (fun w' h r u hu => h.cell (q r u hu)) Tryz.underlying67 rfl (by exact info_mark) ?_
                  simp only [Act.put, List.setIfInBounds_toArray, List.set_cons_zero, List.set_cons_succ]
                  refine wpQuiet_eql_mk (by rfl) (.tmp 62) (.tmp 70) (by rfl) y.mark x.mark (by rfl) (by rfl) ?_
                  simp only [Act.put, List.setIfInBounds_toArray, List.set_cons_zero, List.set_cons_succ]
                  iterate 1 (refine bqStep (fun K hK => ?_); go_simp; first | (refine hK _ ?_; clear hK K) | (refine ⟨_, fun _ _ => rfl, hK _ ?_⟩; clear hK K))
                  refine bqNil (fun w5 hE5 => ?_)
                  clear p q c1
                  go_wp2_with fail
                  go_meet
                  exact ⟨by rw [hBe.out], hUc.trans hE5⟩
                · have hji : ¬ (P : Int) < (m : Int) := by omega
                  have hBe : Hid (B = false) := Lib.hid (by rw [hB'.out]; unfold headB; rw [List.getElem?_eq_none (by rw [← hP'.out, ← hm.out]; omega)])
                  refine bqRegion (Ext wc) (by kernel_rfl) (by kernel_rfl) (Ext.refl _).drew ?_
                  iterate 5 (refine bqStep (fun K hK => ?_); go_simp; first | (refine hK _ ?_; clear hK K) | (refine ⟨_, fun _ _ => rfl, hK _ ?_⟩; clear hK K))
                  iterate 14 (refine bqSkip (by rfl) ?_; simp only [Act.put, List.setIfInBounds_toArray, List.set_cons_zero, List.set_cons_succ])
                  iterate 1 (refine bqStep (fun K hK => ?_); go_simp; first | (refine hK _ ?_; clear hK K) | (refine ⟨_, fun _ _ => rfl, hK _ ?_⟩; clear hK K))
                  refine bqNil (fun w5 hE5 => ?_)
                  go_wp2_with fail
                  go_meet
                  exact ⟨by rw [hBe.out], hUc.trans hE5⟩
              case rest =>
                obtain ⟨rfl, hE8⟩ := hcut
                cases hb : B with
                | true =>
                  have hno : Hid (mgOk A = false) := Lib.hid (by
                    have h1 := hb
                    rw [hB'.out] at h1
                    unfold headB at h1
                    cases hy : O[(aheadL O x.mark).length]? with
                    | none => rw [hy] at h1; cases h1
                    | some y =>
                      rw [hy] at h1
                      exact mg_dup hr'.out (e := y) (by rw [← hO.out]; exact List.mem_of_getElem? hy) (same_iff.1 h1))
                  have hEx : Ext w wc := (hEV.trans hEU).trans hE8
                  clear hb
                  go_wp2_with fail
                  refine bodyPost_ret (v := .tuple #[.slice none 0 0, .int .i64 1]) (by simp [results, Tryz.results24, go_sem]) rfl ?_
                  refine ⟨none, 0, 0, by unfold mgC; rw [hno.out]; rfl, by unfold mgA; rw [hno.out]; rfl, ?_, hEx⟩
                  unfold mgA
                  rw [hno.out]
                  exact OwnC.nil _ _ _ _
                | false =>
                  have hEx : Ext w wc := (hEV.trans hEU).trans hE8
                  have hVc : Ext V wc := hEU.trans hE8
                  have hnew : Hid (Rises (insL O x)) := Lib.hid (ins_rises hOr.out (none_has hOr.out (fun y hy he => by
                    rw [hB'.out] at hb
                    unfold headB at hb
                    rw [hy] at hb
                    have h2 := (same_iff (a := y.mark) (b := x.mark)).2 he
                    have h3 : sameB y.mark x.mark = false := hb
                    rw [h2] at h3
                    cases h3)))
                  clear hb
                  obtain ⟨Y, hY⟩ : ∃ Y, Hid (wc = Y) := ⟨wc, Lib.hid rfl⟩
                  have hEY : Ext w Y := by rw [← hY.out]; exact hEx
                  have hVY : Ext V Y := by rw [← hY.out]; exact hVc
                  have hownY := Lib.hid (hownV.out.ext hVY)
                  have hmc : m ≤ oc := by
                    obtain ⟨_, _, e, h, _⟩ := hownY.out.form
                    injection e with _ _ e
                    omega
                  have hPc : P ≤ oc := by omega
                  have hsl : Hid (∀ W, Ext Y W → SlIs W (.slice oa m oc) O) := Lib.hid (fun W h => ⟨oa, oc, by rw [← hm.out], by rw [← hm.out]; exact (hownY.out.ext h).row⟩)
                  have hTk : Hid (∀ W, Ext Y W → RowIs W 4 (.slice oa P oc) P ((aheadL O x.mark).flatMap enL)) := Lib.hid (fun W h => by
                    obtain ⟨a', c', e, h2⟩ := (hsl.out W h).take hm.out hPm
                    have h3 := ahead_take O x.mark
                    rw [← hP'.out] at h3
                    rw [h3, ← hP'.out] at h2
                    exact h2)
                  have hDr : Hid (∀ W, Ext Y W → RowIs W 4 (.slice (tailAddr oa oc P 4) (m - P) (oc - P)) (m - P) ((restL O x.mark).flatMap enL)) := Lib.hid (fun W h => by
                    obtain ⟨a', c', e, h2⟩ := (hsl.out W h).drop hm.out P
                    have h3 := ahead_drop O x.mark
                    rw [← hP'.out] at h3
                    have h4 : (O.drop P).length = m - P := by rw [List.length_drop, ← hm.out]
                    rw [h4, h3] at h2
                    exact h2)
                  have hS : Hid (∀ W, Ext Y W → W.cell? ⟨b, off + k, none⟩ = some (.slice (some ⟨lb, lo, none⟩) L pc) ∧ W.cell? ⟨lb, lo + d * 4, none⟩ = some (.string x.mark.key) ∧ W.cell? ⟨lb, lo + d * 4 + 1, none⟩ = some (.int .u64 (x.mark.seq : Int)) ∧ W.cell? ⟨lb, lo + d * 4 + 2, none⟩ = some (.bool x.mark.gone) ∧ W.cell? ⟨lb, lo + d * 4 + 3, none⟩ = some (.string x.val)) := Lib.hid (fun W h => by
                    have h1 := hxV.out W (hVY.trans h)
                    refine ⟨hcV.out W (hVY.trans h), ?_, h1 1 _ rfl, h1 2 _ rfl, h1 3 _ rfl⟩
                    have h2 := h1 0 (.string x.mark.key) rfl
                    simpa using h2)
                  go_upto_region 16 with fail
                  go_cut [8] from 73 to 86 (fun v wx => ∃ a1 c1, v = .slice a1 (P + 1) c1 ∧ Hid (OwnC wx Y.heap.size 69 4 (.slice a1 (P + 1) c1) (P + 1) ((aheadL O x.mark ++ [x]).flatMap enL)) ∧ Ext Y wx)
                  case first =>
                    rw [hY.out]
                    go_region_held3 (fun w' => w'.cell? ⟨b, off + k, none⟩ = some (.slice (some ⟨lb, lo, none⟩) L pc) ∧ w'.cell? ⟨lb, lo + d * 4, none⟩ = some (.string x.mark.key) ∧ w'.cell? ⟨lb, lo + d * 4 + 1, none⟩ = some (.int .u64 (x.mark.seq : Int)) ∧ w'.cell? ⟨lb, lo + d * 4 + 2, none⟩ = some (.bool x.mark.gone) ∧ w'.cell? ⟨lb, lo + d * 4 + 3, none⟩ = some (.string x.val)) ((refine hS.out _ ?_; first | exact (Ext.refl _).drew | exact (Ext.refl _).drew.alloc _ | exact ((Ext.refl _).alloc _).drew | assumption | exact Ext.alloc (by assumption) _)) (first | ((refine step_append_cs rfl (.tmp 73) (.tmp 76) 22 69 rfl Tryz.underlying22 el_entry _ _ 0 [] (.slice none 0 0) (by rfl) (OwnC.nil _ _ _ _) (.slice oa P oc) P _ (by rfl) (hTk.out _ (by first | exact (Ext.refl _).drew | exact (Ext.refl _).drew.alloc _)) (enl_all _) (by omega) (by omega) (Nat.le_refl _) ?_); (intro v1 w1 hown1 hb1; rw [Nat.zero_add, List.nil_append] at hown1; have hZ1 : Ext Y w1 := (by first | exact (Ext.refl Y).drew.trans hb1 | exact ((Ext.refl Y).drew.alloc _).trans hb1); have ho1 := Lib.hid (own_mono hown1 (base := Y.heap.size) (by first | exact ((Ext.refl Y).drew).size | exact ((Ext.refl Y).drew.alloc _).size)); have hs1 := hZ1.size; have hb1' := Lib.hid hb1; clear hown1 hb1; obtain ⟨a1, c1, rfl, hq1⟩ := ho1.out.form; clear hq1)) | ((refine step_append_c rfl (.tmp 77) (.tmp 85) 22 69 rfl Tryz.underlying22 el_entry w1 Y.heap.size P _ (.slice a1 P c1) (by rfl) ho1.out (enRow x) (by rfl) (by rfl) (en_all x) (by omega) (by omega) hs1 ?_); (intro v2 w6 hA; have ho6 := Lib.hid hA.own; have hZ6 : Ext Y w6 := Below.trans hZ1 hA.below; clear hA; obtain ⟨a2, c2, rfl, hq2⟩ := ho6.out.form; clear hq2)) | ((refine step_append_cs rfl (.tmp 77) (.tmp 85) 22 69 rfl Tryz.underlying22 el_entry w1 Y.heap.size P _ (.slice a1 P c1) (by rfl) ho1.out (.slice (some ⟨Y.drew.heap.size, 0, none⟩) 1 1) 1 (enRow x).toList (by rfl) (row1_of (Ext.row hb1'.out (heap_alloc_new Y.drew _))) (en_all x) (by omega) (by omega) hs1 ?_); (intro v2 w6 ho5 hb6; have ho6 := Lib.hid ho5; have hZ6 : Ext Y w6 := Below.trans hZ1 hb6; clear ho5 hb6; obtain ⟨a2, c2, rfl, hq2⟩ := ho6.out.form; clear hq2)) | fail)
                    all_goals
                      go_wp2_with fail
                      go_meet
                      exact ⟨a2, c2, rfl, Lib.hid (by rw [List.flatMap_append]; exact ho6.out), hZ6⟩
                  case rest =>
                    obtain ⟨a1, c1, rfl, ho1, hZ1⟩ := hcut
                    have hdr := Lib.hid (hDr.out wc hZ1)
                    have hs1 := hZ1.size
                    have hin : Hid (insL O x = (aheadL O x.mark ++ [x]) ++ restL O x.mark) := Lib.hid (by unfold insL; simp)
                    have hO2 : Hid (insL O x = mgF ((A.take k).flatten ++ q.take (d + 1))) := Lib.hid (by rw [List.take_add_one, hx'.out, ← List.append_assoc]; show _ = mgF (_ ++ [x]); rw [mgF_snoc, ← hO.out])
                    have hm2 : Hid (m + 1 = (insL O x).length) := Lib.hid (by rw [ins_length, ← hm.out])
                    have hwY := hEY.size
                    by_cases hck : oc = P
                    · have hdr2 : Hid (RowIs wc 4 (.slice oa 0 0) 0 ((restL O x.mark).flatMap enL)) := Lib.hid (by
                        have h := hdr.out
                        rw [show m - P = 0 by omega, show oc - P = 0 by omega] at h
                        unfold tailAddr at h
                        rw [if_pos hck] at h
                        exact h)
                      have hmP : oc + 1 + 0 = m + 1 := by omega
                      have hmP' := Lib.hid hmP
                      subst hck
                      clear hmP hdr hDr hTk hS hsl
                      go_wp2_with (first | (refine wpList_append_cs (by rfl) (.tmp 87) (.tmp 90) 22 69 (by rfl) Tryz.underlying22 el_entry wc Y.heap.size (oc + 1) _ (.slice a1 (oc + 1) c1) (by rfl) ho1.out (.slice oa 0 0) 0 _ (by rfl) hdr2.out (enl_all _) (by omega) (by omega) hs1 ?_; go_loud (intro v2 w6 ho5 hb6; rw [hmP'.out, ← List.flatMap_append, ← hin.out] at ho5; have ho6 := Lib.hid (own_mono ho5 hwY); have hZ6 : Ext w w6 := hEY.trans (Below.trans hZ1 hb6); clear ho5 hb6; obtain ⟨a2, c2, rfl, hq2⟩ := ho6.out.form; clear hq2)) | fail)
                      go_roundw
                      case rel => exact ⟨d + 1, m + 1, a2, c2, insL O x, by go_num, by omega, rfl, hm2, hO2, hnew, ho6, hZ6⟩
                      case measure => simp [intOf]; omega
                    · have hta : tailAddr oa oc P 4 = Option.map (fun x => x.add (P * 4)) oa := by unfold tailAddr; rw [if_neg hck]
                      have hdr2 := hdr.out
                      rw [hta] at hdr2
                      have hdr3 := Lib.hid hdr2
                      have hmP' : Hid (P + 1 + (m - P) = m + 1) := Lib.hid (by omega)
                      clear hta hdr2 hdr hDr hTk hS hsl
                      go_wp2_with (first | (refine wpList_append_cs (by rfl) (.tmp 87) (.tmp 90) 22 69 (by rfl) Tryz.underlying22 el_entry wc Y.heap.size (P + 1) _ (.slice a1 (P + 1) c1) (by rfl) ho1.out (.slice (Option.map (fun x => x.add (P * 4)) oa) (m - P) (oc - P)) (m - P) _ (by rfl) hdr3.out (enl_all _) (by omega) (by omega) hs1 ?_; go_loud (intro v2 w6 ho5 hb6; rw [hmP'.out, ← List.flatMap_append, ← hin.out] at ho5; have ho6 := Lib.hid (own_mono ho5 hwY); have hZ6 : Ext w w6 := hEY.trans (Below.trans hZ1 hb6); clear ho5 hb6; obtain ⟨a2, c2, rfl, hq2⟩ := ho6.out.form; clear hq2)) | fail)
                      go_roundw
                      case rel => exact ⟨d + 1, m + 1, a2, c2, insL O x, by go_num, by omega, rfl, hm2, hO2, hnew, ho6, hZ6⟩
                      case measure => simp [intOf]; omega
          · have hdi : ¬ (d : Int) < (L : Int) := by omega
            have hdL : d = L := by omega
            have hO2 : Hid (O = mgF (A.take (k + 1)).flatten) := Lib.hid (by
              rw [htk.out, List.flatten_append, List.flatten_singleton, hO.out, hdL, hL'.out, List.take_length])
            clear hdL
            go_wp2_with fail
            go_roundw
            case rel => exact ⟨k + 1, m, oa, oc, O, by go_num, by omega, rfl, hm, hO2, hOr, hal2, hown, hE⟩
            case measure => simp [intOf]; omega
    · have hli : ¬ (k : Int) < (n : Int) := by omega
      have hkn : k = n := by omega
      have htA : A.take k = A := by rw [hkn, hAl.out, List.take_length]
      have hOm : O = mgS A := by have h := hO.out; rw [htA] at h; exact h
      have hok : Hid (mgOk A = true) := Lib.hid (mg_fine (fun l hl => hal.out l (by rw [htA]; exact hl)) (by rw [← hOm]; exact hOr.out))
      have hAe : Hid (mgA A = O) := Lib.hid (by unfold mgA; rw [hok.out, if_pos rfl, hOm])
      clear hkn htA hOm
      go_wp2_with fail
      refine bodyPost_ret (v := .tuple #[.slice oa m oc, .int .i64 0]) (by simp [results, Tryz.results24, go_sem]) rfl ?_
      refine ⟨oa, m, oc, by unfold mgC; rw [hok.out]; rfl, ?_, ?_, hE⟩
      · rw [hAe.out]; exact hm.out
      · rw [hAe.out]; exact hown.out
end Go.Proofs.YtefllplgbalbkaaGreatDoor

/- MergesMerge: the walk. No condition. -/
namespace Go.Proofs.YtefllplgbalbkaaGreatDoor
open Go.RowKit
set_option maxRecDepth 100000
set_option maxHeartbeats 4000000
theorem mgA_len (ls : List (List En)) : (mgA ls).length ≤ ls.flatten.length := by
  unfold mgA
  split
  · unfold mgS; rw [mgF_len]; exact Nat.le_refl _
  · exact Nat.zero_le _
theorem len_le_flat {ls : List (List En)} {l : List En} (h : l ∈ ls) : l.length ≤ ls.flatten.length := by
  induction ls with
  | nil => cases h
  | cons a ls ih =>
    rw [List.flatten_cons, List.length_append]
    rcases List.mem_cons.1 h with rfl | h
    · omega
    · have := ih h; omega
theorem mergesMerge_walk (w : World) (v0 : Value) (o0 : ∃ n, OKC Tryz.prog w n 58 [v0]) :
    Calls Tryz.prog 5 #[v0] w fun e w' => e = .returned (.bool true) ∧ Ext w w' := by
  obtain ⟨ls, a, cap, rfl, hg, h1, hby⟩ := okc_grids o0
  obtain ⟨n, hn⟩ : ∃ n, n = ls.length := ⟨_, rfl⟩
  rw [← hn] at h1 hby ⊢
  have hn' := Lib.hid hn
  have hR' := Lib.hid h1
  have hg' := Lib.hid hg
  clear o0 hg h1 hn
  go_enter Tryz.func5, Tryz.ntmps5
  by_cases hn20 : 20 < n
  · have hni : (20 : Int) < (n : Int) := by omega
    go_wp2_with fail
    go_ret
    exact ⟨rfl, Ext.refl _⟩
  have hni : ¬ (20 : Int) < (n : Int) := by omega
  go_wp2_with fail
  refine (gsize_any w ls a cap n hn'.out hR'.out hg'.out (by omega)).mono ?_
  rintro e w1 ⟨⟨r, rfl, hr⟩, hE1⟩
  by_cases hr1 : 10000 < r
  · have hri : (10000 : Int) < (r : Int) := by omega
    go_wp2_with fail
    go_ret
    exact ⟨rfl, hE1⟩
  have hri : ¬ (10000 : Int) < (r : Int) := by omega
  have hT := Lib.hid (hr (by omega))
  obtain ⟨A, hA⟩ : ∃ A, A = ls.map (·.2) := ⟨_, rfl⟩
  have hTA : Hid (A.flatten.length ≤ 10000) := Lib.hid (by rw [hA]; exact hT.out)
  have hA' := Lib.hid hA
  have hls2 : Hid (∀ W, Ext w W → ∀ p ∈ ls, LsOk W p ∧ p.2.length ≤ 50000) := Lib.hid (fun W h p hp => ⟨(hg'.out p hp).1.ext h, by
    have := len_le_flat (ls := A) (l := p.2) (by rw [hA]; exact List.mem_map_of_mem hp)
    have := hTA.out
    omega⟩)
  clear hr hr1 hA
  go_wp2_with fail
  refine (twinG_any w1 ls a cap n hn'.out (hR'.out.ext hE1) (hls2.out w1 hE1) (by omega)).mono ?_
  rintro e w2 ⟨ta, tc, ts, rfl, hl, hTw, hE2⟩
  have htl : Hid (n = ts.length) := Lib.hid (by have := congrArg List.length hl.out; rw [List.length_map, List.length_map] at this; have := hn'.out; omega)
  have hlA : Hid (ts.map Tw.l = A) := Lib.hid (by rw [hl.out, hA'.out])
  -- the twins, as lists
  have hmg : Hid (∀ W, Ext w2 W → Calls Tryz.prog 23 #[.slice ta n tc] W (MergeU W A)) := Lib.hid (fun W h => by
    have hk := hTw.out.ext h
    have hm1 : (ts.map fun t => ((t.v, t.l) : Ls)).map (·.1) = ts.map Tw.v := by rw [List.map_map]; rfl
    have hm2 : (ts.map fun t => ((t.v, t.l) : Ls)).map (·.2) = A := by rw [List.map_map]; exact hlA.out
    have := merge_u W (ts.map fun t => ((t.v, t.l) : Ls)) ta tc n (by rw [List.length_map]; exact htl.out) (by rw [hm1]; have h3 := hk.own.row; rwa [← htl.out] at h3) (fun p hp => by
      obtain ⟨t, ht, rfl⟩ := List.mem_map.1 hp
      obtain ⟨k1, k2⟩ := hk.each t ht
      exact ⟨_, t.cap, by show t.v = _; unfold Tw.v; rw [k1], by
        show RowIs W 4 t.v t.l.length _
        have h3 := (k2.own k1).row
        unfold Tw.v
        rw [← k1]
        exact h3⟩) (by omega) (by rw [hm2]; have := hTA.out; omega)
    rw [hm2] at this
    exact this)
  go_wp2_with fail
  refine (hmg.out w2 (Ext.refl _)).mono ?_
  rintro e w3 ⟨aa, an, ac, rfl, han, hAo, hE3⟩
  have hA3 := Lib.hid hAo
  have han' := Lib.hid han
  clear hAo han
  go_wp2_with fail
  refine (hmg.out w3 hE3).mono ?_
  rintro e w4 ⟨ba, bn, bc, rfl, hbn, hBo, hE4⟩
  have hB4 := Lib.hid hBo
  have hbn' := Lib.hid hbn
  have hE14 := ((hE1.trans hE2).trans hE3).trans hE4
  clear hBo hbn
  have hrf : Hid (Calls Tryz.prog 24 #[.slice a n cap] w4 (MergeU w4 A)) := Lib.hid (by
    have := mergeR_any w4 ls a cap n hn'.out (hR'.out.ext hE14) (fun p hp => ⟨(hg'.out p hp).1.ext hE14, (hg'.out p hp).2⟩) (by omega) hT.out
    rw [← hA'.out] at this
    exact this)
  go_wp2_with fail
  refine hrf.out.mono ?_
  rintro e w5 ⟨ca, cn, cc, rfl, hcn, hCo, hE5⟩
  have hE15 := hE14.trans hE5
  have hA5 := Lib.hid ((hA3.out.ext hE4).ext hE5)
  have hB5 := Lib.hid (hB4.out.ext hE5)
  have hT5 := Lib.hid (((hTw.out.ext hE3).ext hE4).ext hE5)
  have hC5 := Lib.hid hCo
  have hcn' := Lib.hid hcn
  have rw_of : Hid (∀ (W : World) (b' : Nat) (v : Option Addr) (m c : Nat), m = (mgA A).length → OwnC W b' 69 4 (.slice v m c) m ((mgA A).flatMap enL) → SlIs W (.slice v m c) (mgA A)) := Lib.hid (fun W b' v m c hm h => by subst hm; exact ⟨v, c, rfl, h.row⟩)
  clear hCo hcn
  go_wp2_with fail
  refine (same_ok w5 _ _ _ _ (rw_of.out w5 _ _ _ _ han'.out hA5.out) (rw_of.out w5 _ _ _ _ hcn'.out hC5.out)).mono ?_
  rintro e w6 ⟨rfl, hE6⟩
  rw [decide_eq_true (rfl : mgA A = mgA A)]
  have hB6 := Lib.hid (hB5.out.ext hE6)
  have hC6 := Lib.hid (hC5.out.ext hE6)
  go_wp2_with fail
  refine (same_ok w6 _ _ _ _ (rw_of.out w6 _ _ _ _ hbn'.out hB6.out) (rw_of.out w6 _ _ _ _ hcn'.out hC6.out)).mono ?_
  rintro e w7 ⟨rfl, hE7⟩
  rw [decide_eq_true (rfl : mgA A = mgA A)]
  have hE57 := hE6.trans hE7
  have hT7 := Lib.hid (hT5.out.ext hE57)
  have hw7 := hE15.trans hE57
  go_wp2_with fail
  refine (leftG_any w7 ls ts _ ta tc a cap n hn'.out (hR'.out.ext hw7) (hls2.out w7 hw7) (by omega) hl.out hT7.out).mono ?_
  rintro e w8 ⟨rfl, hE8⟩
  have hE58 := hE57.trans hE8
  -- the book
  have s1 := hE1.size
  have s2 := hE2.size
  have s3 := hE3.size
  have s4 := hE4.size
  have s5 := hE5.size
  have s8 := hE58.size
  obtain ⟨W9, hW9⟩ : ∃ W, W = w8.alloc (.cells (bkRow 0 fun _ => (.slice none 0 0, [])) 46) := ⟨_, rfl⟩
  have hE9 : Ext w5 W9 := by rw [hW9]; exact hE58.alloc _
  have hBk := Lib.hid (BkS.start (base := w.heap.size) (g := w8.heap.size) (w := W9) (by rw [hW9]; exact heap_alloc_new w8 _) (by omega))
  have hx : Ext w W9 := hE15.trans hE9
  obtain ⟨g, hgg⟩ : ∃ g, g = w8.heap.size := ⟨_, rfl⟩
  have hT9 := Lib.hid ((hT5.out.ext hE9).mono s1)
  have hA9 := Lib.hid ((hA5.out.ext hE9).bmono (base := w.heap.size) (by omega))
  have hB9 := Lib.hid ((hB5.out.ext hE9).bmono (base := w.heap.size) (by omega))
  have gT : Hid ((∀ q, (Value.slice ta n tc).ownBlock = some q → q < g) ∧ ∀ t ∈ ts, t.b < g) := Lib.hid ⟨fun q hq => by have := hT5.out.own.lt q hq; omega, fun t ht => by have := twE_lt (hT5.out.each t ht).2; omega⟩
  have gA := Lib.hid (fun q hq => show q < g by have := hA5.out.lt q hq; omega)
  have gB := Lib.hid (fun q hq => show q < g by have := hB5.out.lt q hq; omega)
  have sT : Hid (∀ t ∈ ts, t.b < w2.heap.size) := Lib.hid (fun t ht => (twE_lt (hTw.out.each t ht).2).2)
  have sA : Hid (∀ v ∈ (ts.map Tw.v).reverse ++ ([] : List Value), Sep (.slice aa an ac) v) := Lib.hid (fun v hv q hq hq' => by
    rw [List.append_nil] at hv
    obtain ⟨t, ht, rfl⟩ := List.mem_map.1 (List.mem_reverse.1 hv)
    have h1 := sT.out t ht
    have h2 := (hA3.out.lt q hq).1
    have h3 : t.b = q := by simpa [Value.ownBlock, Tw.v] using hq'
    omega)
  have sB : Hid (∀ v ∈ (.slice aa an ac) :: ((ts.map Tw.v).reverse ++ ([] : List Value)), Sep (.slice ba bn bc) v) := Lib.hid (fun v hv => by
    rcases List.mem_cons.1 hv with rfl | hv
    · exact sep_of hA3.out hB4.out (Nat.le_refl _)
    · intro q hq hq'
      rw [List.append_nil] at hv
      obtain ⟨t, ht, rfl⟩ := List.mem_map.1 (List.mem_reverse.1 hv)
      have h1 := sT.out t ht
      have h2 := (hB4.out.lt q hq).1
      have h3 : t.b = q := by simpa [Value.ownBlock, Tw.v] using hq'
      omega)
  have htlen : Hid (∀ t ∈ ts, t.l.length ≤ 50000) := Lib.hid (fun t ht => by
    have := len_le_flat (ls := A) (l := t.l) (by rw [← hlA.out]; exact List.mem_map_of_mem ht)
    have := hTA.out
    omega)
  have hal : an ≤ 10000 := by have := mgA_len A; rw [han'.out]; have := hTA.out; omega
  have hbl : bn ≤ 10000 := by have := mgA_len A; rw [hbn'.out]; have := hTA.out; omega
  have hW9' := Lib.hid hW9
  rw [← hgg] at hBk
  have hgg' := Lib.hid hgg
  clear hE1 hE2 hE3 hE4 hE14 hE5 hE15 hA5 hB5 hT5 hC5 hB6 hC6 hT7 hE6 hE7 hw7 hE57 hE8 hE58 hTw hmg hrf hA3 han' hB4 hbn' hcn' rw_of s1 s2 s3 s4 s5 s8 hW9 hE9 hgg sT
  have hW9f : W9 = w8.alloc (.cells #[.int .i64 0, .slice none 0 0, .slice none 0 0, .slice none 0 0, .slice none 0 0, .slice none 0 0, .slice none 0 0, .slice none 0 0, .slice none 0 0, .slice none 0 0, .slice none 0 0, .slice none 0 0, .slice none 0 0, .slice none 0 0] 46) := hW9'.out
  have hW9g := Lib.hid hW9f
  clear hW9f
  go_wp2_with fail
  rw [← hW9g.out, ← hgg'.out]
  refine (bookG_any hBk.out ts ta tc n htl.out (by omega) (by omega) hT9.out htlen.out gT.out (fun t ht v hv => nomatch hv)).mono ?_
  rintro e u1 ⟨rfl, hb1, hO1, hS1⟩
  have hA1 := Lib.hid (hA9.out.offB hO1 (fun q hq hB => by have := gA.out q hq; omega))
  have hB1 := Lib.hid (hB9.out.offB hO1 (fun q hq hB => by have := gB.out q hq; omega))
  have hx1 := Below.trans hx hb1
  have hS1' := Lib.hid hS1
  clear hBk hT9 hA9 hB9 hx hb1 hO1 hS1
  go_wp2_with fail
  refine (bookE_any hS1'.out (by omega) aa an ac _ hA1.out (by omega) gA.out sA.out).mono ?_
  rintro e u2 ⟨rfl, hb2, hO2, hS2⟩
  have hB2 := Lib.hid (hB1.out.offB hO2 (fun q hq hB => by have := gB.out q hq; omega))
  have hx2 := Below.trans hx1 hb2
  have hS2' := Lib.hid hS2
  clear hS1' hA1 hB1 hx1 hb2 hO2 hS2
  go_wp2_with fail
  refine (bookE_any hS2'.out (by omega) ba bn bc _ hB2.out (by omega) gB.out sB.out).mono ?_
  rintro e u3 ⟨rfl, hb3, hO3, hS3⟩
  have hx3 := Below.trans hx2 hb3
  have hS3' := Lib.hid hS3
  clear hS2' hB2 hx2 hb3 hO3 hS3
  go_wp2_with fail
  refine (bookA_any hS3'.out (by omega)).mono ?_
  rintro e u4 ⟨rfl, hb4⟩
  have hx4 := Below.trans hx3 hb4
  go_wp2_with fail
  go_ret
  exact ⟨rfl, hx4⟩
end Go.Proofs.YtefllplgbalbkaaGreatDoor
