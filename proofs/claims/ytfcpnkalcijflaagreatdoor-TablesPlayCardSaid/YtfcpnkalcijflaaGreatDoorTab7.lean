/- A table's Put. No condition. -/
import Derived.Test.YtfcpnkalcijflaaGreatDoorTab6
import Derived.Deep.CutRange
namespace Go.Proofs.YtfcpnkalcijflaaGreatDoor
open Go.RowKit
def sameB (a b : Mk) : Bool := a.key.toList == b.key.toList && (a.seq == b.seq && a.gone == b.gone)
theorem same_iff {a b : Mk} : sameB a b = true ↔ a = b := by
  unfold sameB
  simp only [Bool.and_eq_true, beq_iff_eq]
  constructor
  · rintro ⟨h1, h2, h3⟩
    obtain ⟨ak, ai, ag⟩ := a
    obtain ⟨bk, bi, bg⟩ := b
    simp only at h1 h2 h3
    rw [ba_ext h1, h2, h3]
  · rintro rfl; exact ⟨rfl, rfl, rfl⟩
def thereB (l : List En) (m : Mk) : Bool := l.any fun e => sameB e.mark m
/-- What Put answers, and what is there behind it. -/
def putC (l : List En) (x : En) (tall : Int) : Int := if okB x tall then if thereB l x.mark then 8 else if 4096 ≤ l.length then 6 else 0 else 1
def putL (l : List En) (x : En) (tall : Int) : List En := if okB x tall then if thereB l x.mark then l else if 4096 ≤ l.length then l else insL l x else l
def PutE (w : World) (tb hd : Nat) (ns : List Nd) (x : En) (tall : Int) (e : Ending) (w' : World) : Prop := ∃ ns', e = .returned (.int .i64 (putC (ns.map Nd.e) x tall)) ∧ SkAt w' tb hd ns' ∧ ns'.map Nd.e = putL (ns.map Nd.e) x tall ∧ (∀ k, skB tb hd ns' k → skB tb hd ns k ∨ w.heap.size ≤ k) ∧ OffB (skB tb hd ns) w w'
theorem wpList_store_arr {ops : Array Oper} {rest : List Oper} {o : Oper} {a : Act} {Q : Exit → Act → World → Prop} (hgd : o.guard = none) (p y : Operand) (ho : o.op = .store 62 p y) (w : World) (f : Nat → Option Addr)
    (hx : a.eval p = .pointer (some ⟨w.heap.size, 0, none⟩)) (hy : a.eval y = .agg (arrRow f)) (h : wpList Tryz.prog ops Q rest (a.put o.dst undef) (w.alloc (.cells (arrRow f) 62))) :
    wpList Tryz.prog ops Q (o :: rest) a (w.alloc (.cells #[.pointer none, .pointer none, .pointer none, .pointer none, .pointer none, .pointer none, .pointer none, .pointer none] 62)) :=
  wpList_store_whole hgd 62 p y ho w _ (arrRow f) w.heap.size hx rfl hy info_arr rfl (arr_one f) h
theorem lastRow_arr (l : List Nd) : lastRow l = arrRow (lastAt l) := rfl
theorem en_mark {w : World} {b : Nat} {e : En} (h : w.heap[b]? = some (.cells (enRow e) 49 (0, 0))) : w.rangeAt b 0 (mkRow e.mark) := fun r v hv => by
  have hr : r < 3 := (List.getElem?_eq_some_iff.1 hv).1
  rw [Nat.zero_add, cell_of_row _ _ r _ 49 (0, 0) h, ← hv]
  obtain rfl | rfl | rfl : r = 0 ∨ r = 1 ∨ r = 2 := by omega
  all_goals rfl
theorem run_eql_mark (a b : Mk) (w : World) : (binOp .eql 47 (.agg #[.string a.key, .int .u64 (a.seq : Int), .bool a.gone]) (.agg #[.string b.key, .int .u64 (b.seq : Int), .bool b.gone])).run Tryz.prog w = .ok (.bool (sameB a b)) w := by
  have hs : ((a.seq : Int) == (b.seq : Int)) = (a.seq == b.seq) := by rw [Bool.eq_iff_iff, beq_iff_eq, beq_iff_eq]; omega
  unfold sameB
  cases h1 : a.key.toList == b.key.toList <;> cases h2 : a.seq == b.seq <;> cases h3 : a.gone == b.gone
  all_goals
    rw [h2] at hs
    go_simp
theorem wpQuiet_eql_mark {ops : Array Oper} {C : World → Prop} {Q : Act → Prop} {o : Oper} {rest : List Oper} {a : Act} (hg : Region.wanted o (yielded ops a.tmps) = true) (x y : Operand) (ho : o.op = .binOp .eql 47 x y 47) (m n : Mk) (hx : a.eval x = .agg (mkRow m).toArray) (hy : a.eval y = .agg (mkRow n).toArray)
    (k : wpQuiet Tryz.prog ops C Q rest (a.put o.dst (.bool (sameB m n)))) : wpQuiet Tryz.prog ops C Q (o :: rest) a := by
  refine wpQuiet_value _ hg (fun w _ => ?_) k
  unfold execOp
  simp only [ho, hx, hy, mkRow]
  have hs : ((m.seq : Int) = (n.seq : Int)) ↔ m.seq = n.seq := by omega
  go_simp
  unfold sameB
  by_cases h1 : m.key.toList = n.key.toList <;> by_cases h2 : m.seq = n.seq <;> by_cases h3 : m.gone = n.gone <;> simp [h1, h2, h3]
theorem there_rest {w : World} {tb hd : Nat} {ns : List Nd} (hS : SkAt w tb hd ns) (m : Mk) : thereB (ns.map Nd.e) m = match restN ns m with | [] => false | n :: _ => sameB n.e.mark m := by
  cases hth : thereB (ns.map Nd.e) m with
  | true =>
    obtain ⟨e, he, hm⟩ := List.any_eq_true.1 hth
    obtain ⟨r, hr⟩ := rest_first hS.rises he (same_iff.1 hm)
    rw [← restN_map] at hr
    cases hn : restN ns m with
    | nil => rw [hn] at hr; cases hr
    | cons n r' =>
      rw [hn] at hr
      injection hr with h1 _
      show true = sameB n.e.mark m
      rw [h1, hm]
  | false =>
    cases hn : restN ns m with
    | nil => rfl
    | cons n r =>
      have h1 : n ∈ ns := by
        have : n ∈ aheadN ns m ++ restN ns m := List.mem_append.2 (.inr (by rw [hn]; exact List.mem_cons_self ..))
        rw [aheadN_rest] at this; exact this
      have := List.any_eq_false.1 hth n.e (List.mem_map_of_mem h1)
      simpa using Eq.symm (by simpa using this : sameB n.e.mark m = false)
theorem put_same {w w' : World} {tb hd : Nat} {ns : List Nd} {x : En} {tall : Int} {e : Ending} (hS : SkAt w' tb hd ns) (hE : Ext w w') (he : e = .returned (.int .i64 (putC (ns.map Nd.e) x tall))) (hl : putL (ns.map Nd.e) x tall = ns.map Nd.e) : PutE w tb hd ns x tall e w' :=
  ⟨ns, he, hS, hl.symm, fun _ hk => .inl hk, .of_ext hE⟩
theorem en_range {w : World} {b : Nat} {e : En} (h : w.heap[b]? = some (.cells (enRow e) 49 (0, 0))) : w.rangeAt b 0 (enRow e).toList := fun r v hv => by
  rw [Nat.zero_add, cell_of_row _ _ r _ 49 (0, 0) h, ← hv]; simp
theorem run_build_tow (e : En) (w : World) : (Instr.build 64 #[(0, .agg (enRow e))]).run Tryz.prog w = .ok (.agg (twRow e (fun _ => none))) w := by kernel_rfl
theorem wpList_build_tow {ops : Array Oper} {rest : List Oper} {o : Oper} {a : Act} {Q : Exit → Act → World → Prop} {w : World} (hgd : o.guard = none) (p : Operand) (ho : o.op = .build 64 #[(0, p)]) (e : En) (hp : a.eval p = .agg (enRow e))
    (h : wpList Tryz.prog ops Q rest (a.put o.dst (.agg (twRow e (fun _ => none)))) w) : wpList Tryz.prog ops Q (o :: rest) a w := by
  refine wpList_plain hgd fun K hK => ?_
  unfold Oper.wp execOp
  simp only [ho, hp, List.map_toArray, List.map_cons, List.map_nil, Sem.run_bind, Result.andThen_ok, run_build_tow, Sem.run_pure]
  exact hK _ _ h
/-- A tower that nothing leads to. -/
theorem Chain.insert0 {w : World} {p r : List Nd} {b : Nat} {e : En} (hc : Chain w (p ++ r)) (hT : TwAt w b e (fun _ => none)) : Chain w (p ++ ⟨b, e, 0⟩ :: r) := by
  refine Chain.front (w := w) hc ⟨hT.congr (fun k _ => by unfold links; simp), hc.right⟩ (fun _ _ => rfl) (fun x _ s h _ => ?_)
  have h0 : hit h ⟨b, e, 0⟩ = false := by unfold hit; simp
  unfold links
  split
  · unfold nextAt
    rw [List.find?_append, List.find?_append, List.find?_cons, h0]
  · rfl
/-- The blocks that Put may turn but for the table's own. -/
def putD (hd : Nat) (ns : List Nd) (nb k : Nat) : Prop := k = hd ∨ (∃ n ∈ ns, n.blk = k) ∨ k = nb
theorem put_nodup {tb hd nb k : Nat} {ns p r : List Nd} {e : En} (h : (tb :: hd :: ns.map Nd.blk).Nodup) (hp : headN hd :: ns = p ++ r) (hn : ∀ j ∈ hd :: ns.map Nd.blk, j < nb) : ((p ++ (⟨nb, e, k⟩ : Nd) :: r).map Nd.blk).Nodup := by
  have h1 : ((p ++ r).map Nd.blk).Nodup := by rw [← hp]; exact (List.nodup_cons.1 h).2
  have h2 : ∀ j ∈ (p ++ r).map Nd.blk, j < nb := by rw [← hp]; exact hn
  rw [List.map_append] at h1 h2
  rw [List.map_append, List.map_cons]
  obtain ⟨a, b, c⟩ := List.nodup_append.1 h1
  refine List.nodup_append.2 ⟨a, List.nodup_cons.2 ⟨fun hj => ?_, b⟩, fun x hx y hy => ?_⟩
  · have := h2 nb (List.mem_append.2 (.inr hj)); omega
  · rcases List.mem_cons.1 hy with rfl | hy
    · have := h2 x (List.mem_append.2 (.inl hx)); omega
    · exact c x hx y hy
theorem put_ne {p q r : List Nd} {l n : Nd} (h : ((p ++ l :: (q ++ n :: r)).map Nd.blk).Nodup) : l.blk ≠ n.blk := by
  rw [List.map_append, List.map_cons] at h
  have h1 := (List.nodup_cons.1 (List.nodup_append.1 h).2.1).1
  intro hb
  exact h1 (by rw [hb]; simp)
theorem tab_cells {w : World} {tb hd : Nat} {a b : Int} (h : w.heap[tb]? = some (.cells #[.pointer (some ⟨hd, 0, none⟩), .int .i64 a, .int .i64 b] 66 (0, 0))) : w.cell? ⟨tb, 0, none⟩ = some (.pointer (some ⟨hd, 0, none⟩)) ∧ w.cell? ⟨tb, 1, none⟩ = some (.int .i64 a) ∧ w.cell? ⟨tb, 2, none⟩ = some (.int .i64 b) ∧ ∀ o, w.frozen? ⟨tb, o, none⟩ = false := by
  refine ⟨?_, ?_, ?_, fun o => ?_⟩
  · rw [cell_of_row _ _ 0 _ 66 (0, 0) h]; rfl
  · rw [cell_of_row _ _ 1 _ 66 (0, 0) h]; rfl
  · rw [cell_of_row _ _ 2 _ 66 (0, 0) h]; rfl
  · unfold World.frozen?; rw [h]; simp
theorem tab_put {w : World} {tb hd : Nat} {a b : Int} (h : w.heap[tb]? = some (.cells #[.pointer (some ⟨hd, 0, none⟩), .int .i64 a, .int .i64 b] 66 (0, 0))) (c d : Int) : ((w.setCell ⟨tb, 1, none⟩ (.int .i64 c)).setCell ⟨tb, 2, none⟩ (.int .i64 d)).heap[tb]? = some (.cells #[.pointer (some ⟨hd, 0, none⟩), .int .i64 c, .int .i64 d] 66 (0, 0)) := by
  have h1 : (w.setCell ⟨tb, 1, none⟩ (.int .i64 c)).heap[tb]? = some (.cells #[.pointer (some ⟨hd, 0, none⟩), .int .i64 c, .int .i64 b] 66 (0, 0)) := by
    rw [setCell_eq_setRow _ _ _ _ _ _ _ h, setRow_heap _ _ _ _ _ _ h]; rfl
  rw [setCell_eq_setRow _ _ _ _ _ _ _ h1, setRow_heap _ _ _ _ _ _ h1]; rfl
theorem put_final {w W5 wr : World} {tb hd nb tall : Nat} {ns : List Nd} {x : En} (hS : SkAt w tb hd ns) (hE : Ext w W5) (hnb : w.heap.size ≤ nb)
    (hC : Chain wr ((headN hd :: aheadN ns x.mark) ++ ⟨nb, x, tall⟩ :: restN ns x.mark)) (hO : OffB (putD hd ns nb) W5 wr)
    (hTb : wr.heap[tb]? = some (.cells #[.pointer (some ⟨hd, 0, none⟩), .int .i64 (ns.length : Int), .int .i64 (sizeL ns : Int)] 66 (0, 0))) (ht1 : 1 ≤ tall) (ht8 : tall ≤ 8) (hfit : x.mark.key.size + x.val.size ≤ 288) (hth : thereB (ns.map Nd.e) x.mark = false)
    (hpc : putC (ns.map Nd.e) x (tall : Int) = 0) (hpl : putL (ns.map Nd.e) x (tall : Int) = insL (ns.map Nd.e) x) :
    PutE w tb hd ns x (tall : Int) (.returned (.int .i64 0)) ((wr.setCell ⟨tb, 1, none⟩ (.int .i64 ((ns.length : Int) + 1))).setCell ⟨tb, 2, none⟩ (.int .i64 ((sizeL ns : Int) + ((x.mark.key.size : Int) + (x.val.size : Int))))).drew := by
  have hmem : ∀ n, n ∈ aheadN ns x.mark ++ restN ns x.mark → n ∈ ns := fun n hn => by rw [aheadN_rest] at hn; exact hn
  have hlt : ∀ k, skB tb hd ns k → k < w.heap.size := fun k hk => hS.lt hk
  have hlen : (aheadN ns x.mark ++ (⟨nb, x, tall⟩ : Nd) :: restN ns x.mark).length = ns.length + 1 := by
    have := congrArg List.length (aheadN_rest ns x.mark)
    rw [List.length_append] at this ⊢; simp only [List.length_cons]; omega
  have hsz : sizeL (aheadN ns x.mark ++ (⟨nb, x, tall⟩ : Nd) :: restN ns x.mark) = sizeL ns + (x.mark.key.size + x.val.size) := by
    have h1 := congrArg sizeL (aheadN_rest ns x.mark)
    rw [sizeL_append] at h1 ⊢
    simp only [sizeL]; omega
  have hme : (aheadN ns x.mark ++ (⟨nb, x, tall⟩ : Nd) :: restN ns x.mark).map Nd.e = insL (ns.map Nd.e) x := by
    rw [List.map_append, List.map_cons, aheadN_map, restN_map]; rfl
  have htn : ∀ n ∈ ns, n.blk ≠ tb := fun n hn h => by
    have h0 := (List.nodup_cons.1 hS.nd).1
    exact h0 (by rw [← h]; exact List.mem_cons_of_mem _ (List.mem_map_of_mem hn))
  have hth2 : hd ≠ tb := fun h => (List.nodup_cons.1 hS.nd).1 (by rw [← h]; exact List.mem_cons_self ..)
  have htb : tb < w.heap.size := hlt tb (.inl rfl)
  have hoT : OffB (fun k => k = tb) wr ((wr.setCell ⟨tb, 1, none⟩ (.int .i64 ((ns.length : Int) + 1))).setCell ⟨tb, 2, none⟩ (.int .i64 ((sizeL ns : Int) + ((x.mark.key.size : Int) + (x.val.size : Int))))).drew :=
    (OffB.setCell (B := fun k => k = tb) (OffB.setCell (B := fun k => k = tb) (OffB.refl wr) rfl _) rfl _).drew
  refine ⟨aheadN ns x.mark ++ ⟨nb, x, tall⟩ :: restN ns x.mark, by rw [hpc], ⟨?_, ?_, ?_, ?_, ?_, ?_⟩, by rw [hpl, hme], ?_, ?_⟩
  · have := tab_put hTb ((ns.length : Int) + 1) ((sizeL ns : Int) + ((x.mark.key.size : Int) + (x.val.size : Int)))
    rw [hlen, hsz, show ((ns.length + 1 : Nat) : Int) = (ns.length : Int) + 1 by simp, show ((sizeL ns + (x.mark.key.size + x.val.size) : Nat) : Int) = (sizeL ns : Int) + ((x.mark.key.size : Int) + (x.val.size : Int)) by simp]
    exact this
  · have hc2 := hC.off hoT (fun n hn => ?_)
    · simpa using hc2
    · rcases List.mem_append.1 hn with hn | hn
      · rcases List.mem_cons.1 hn with rfl | hn
        · exact hth2
        · exact htn n (hmem n (List.mem_append.2 (.inl hn)))
      · rcases List.mem_cons.1 hn with rfl | hn
        · simp only; omega
        · exact htn n (hmem n (List.mem_append.2 (.inr hn)))
  · have h1 := put_nodup (tb := tb) (hd := hd) (nb := nb) (k := tall) (e := x) (ns := ns) (p := headN hd :: aheadN ns x.mark) (r := restN ns x.mark) hS.nd (by rw [List.cons_append, aheadN_rest]) (fun j hj => by
      have : j < w.heap.size := hlt j (by rcases List.mem_cons.1 hj with rfl | hj; exact .inr (.inl rfl); obtain ⟨n, hn, hn2⟩ := List.mem_map.1 hj; exact .inr (.inr ⟨n, hn, hn2⟩))
      omega)
    refine List.nodup_cons.2 ⟨fun hj => ?_, by simpa [headN] using h1⟩
    rcases List.mem_cons.1 hj with h | h
    · exact hth2 h.symm
    · obtain ⟨n, hn, hn2⟩ := List.mem_map.1 h
      rcases List.mem_append.1 hn with hn | hn
      · exact htn n (hmem n (List.mem_append.2 (.inl hn))) hn2
      · rcases List.mem_cons.1 hn with rfl | hn
        · simp only at hn2; omega
        · exact htn n (hmem n (List.mem_append.2 (.inr hn))) hn2
  · intro n hn
    rcases List.mem_append.1 hn with hn | hn
    · exact hS.tall n (hmem n (List.mem_append.2 (.inl hn)))
    · rcases List.mem_cons.1 hn with rfl | hn
      · exact ⟨ht1, ht8⟩
      · exact hS.tall n (hmem n (List.mem_append.2 (.inr hn)))
  · rw [hme]
    refine ins_rises hS.rises (fun e he hm => ?_)
    have := List.any_eq_false.1 hth e he
    exact this (same_iff.2 hm)
  · intro n hn
    rcases List.mem_append.1 hn with hn | hn
    · exact hS.fit n (hmem n (List.mem_append.2 (.inl hn)))
    · rcases List.mem_cons.1 hn with rfl | hn
      · exact hfit
      · exact hS.fit n (hmem n (List.mem_append.2 (.inr hn)))
  · intro k hk
    rcases hk with h | h | ⟨n, hn, h⟩
    · exact .inl (.inl h)
    · exact .inl (.inr (.inl h))
    · rcases List.mem_append.1 hn with hn | hn
      · exact .inl (.inr (.inr ⟨n, hmem n (List.mem_append.2 (.inl hn)), h⟩))
      · rcases List.mem_cons.1 hn with rfl | hn
        · simp only at h; exact .inr (by omega)
        · exact .inl (.inr (.inr ⟨n, hmem n (List.mem_append.2 (.inr hn)), h⟩))
  · have h1 : OffB (fun k => skB tb hd ns k ∨ k = nb) W5 wr := hO.past (fun k _ hk => by
      rcases hk with h | ⟨n, hn, h⟩ | h
      · exact .inl (.inr (.inl h))
      · exact .inl (.inr (.inr ⟨n, hn, h⟩))
      · exact .inr h)
    have h2 := hoT.past (B' := fun k => skB tb hd ns k ∨ k = nb) (fun k _ hk => .inl (.inl hk))
    have h3 : OffB (fun k => skB tb hd ns k ∨ k = nb) w _ := (OffB.of_ext hE).trans (h1.trans h2)
    exact h3.past (fun k hk hk2 => by rcases hk2 with h | h; exact h; omega)
end Go.Proofs.YtfcpnkalcijflaaGreatDoor
