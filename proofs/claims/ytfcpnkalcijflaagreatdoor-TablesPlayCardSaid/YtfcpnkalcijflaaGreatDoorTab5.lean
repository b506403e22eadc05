/- A table's From. No condition. -/
import Derived.Test.YtfcpnkalcijflaaGreatDoorTab4
namespace Go.Proofs.YtfcpnkalcijflaaGreatDoor
open Go.RowKit
theorem el_entry : ElemIs Tryz.prog 49 4 48 := by
  refine ElemIs.mk (z := .agg #[.string ⟨#[]⟩, .int .u64 0, .bool false, .string ⟨#[]⟩]) (by kernel_rfl) (by kernel_rfl) (by decide)
def enL (e : En) : List Value := (enRow e).toList
theorem run_bs_en (e : En) (w : World) : (Instr.buildSlice 27 1 #[(0, .agg (enRow e))]).run Tryz.prog w = .ok (.slice (some ⟨w.heap.size, 0, none⟩) 1 1) (w.alloc (.cells (enRow e) 49)) := by kernel_rfl
theorem wpList_bs_en {ops : Array Oper} {rest : List Oper} {o : Oper} {a : Act} {Q : Exit → Act → World → Prop} {w : World} (hgd : o.guard = none) (p : Operand) (ho : o.op = .buildSlice 27 1 #[(0, p)]) (e : En) (hp : a.eval p = .agg (enRow e))
    (h : wpList Tryz.prog ops Q rest (a.put o.dst (.slice (some ⟨w.heap.size, 0, none⟩) 1 1)) (w.alloc (.cells (enRow e) 49))) : wpList Tryz.prog ops Q (o :: rest) a w := by
  refine wpList_plain hgd fun K hK => ?_
  unfold Oper.wp execOp
  simp only [ho, hp, List.map_toArray, List.map_cons, List.map_nil, Sem.run_bind, Result.andThen_ok, run_bs_en, Sem.run_pure]
  exact hK _ _ h
/-- What From tells: the entries from a mark on, so many at most, in memory of the call's own. -/
def FromE (l : List En) (w : World) (e : Ending) (w' : World) : Prop := ∃ a cap, e = .returned (.slice a l.length cap) ∧ l.length ≤ cap ∧ w'.ownsRow w.heap.size 49 4 (.slice a l.length cap) l.length (l.flatMap enL) ∧ Ext w w'
theorem own_slice {w : World} {base : Nat} {e : TypeId} {size : Nat} {v : Value} {n : Nat} {xs : List Value} (h : w.ownsRow base e size v n xs) : ∃ a cap, v = .slice a n cap ∧ n ≤ cap := by
  obtain ⟨_, ⟨h1, h0⟩ | ⟨g, cap, cur, rfl, hb, _, hc, hm, _⟩⟩ := h
  · exact ⟨none, 0, by rw [h1, h0], by omega⟩
  · exact ⟨_, cap, rfl, hc⟩
theorem own_ext {w w' : World} {base : Nat} {e : TypeId} {size : Nat} {v : Value} {n : Nat} {xs : List Value} (h : w.ownsRow base e size v n xs) (he : Ext w w') : w'.ownsRow base e size v n xs :=
  h.kept (row := none) ⟨Below.os he, Below.tape he, Below.output he, Below.size he, fun k hk _ => Below.block he k hk⟩ (by cases v.ownBlock <;> simp)
theorem chain_rest {w : World} {tb hd : Nat} {ns : List Nd} (hS : SkAt w tb hd ns) {m : Mk} {j : Nat} {n : Nd} {r : List Nd} (h : (restN ns m).drop j = n :: r) : hit 0 n = true ∧ TwAt w n.blk n.e (links n r) ∧ links n r 0 = nextAt r 0 := by
  have h1 : n ∈ ns := by
    have h2 : n ∈ restN ns m := List.mem_of_mem_drop (by rw [h]; exact List.mem_cons_self ..)
    have : n ∈ aheadN ns m ++ restN ns m := List.mem_append.2 (.inr h2)
    rw [aheadN_rest] at this; exact this
  have ht := (hS.tall n h1).1
  refine ⟨by unfold hit; simp; omega, ?_, by unfold links; rw [if_pos (by omega)]⟩
  have hc := hS.chain
  have h5 : headN hd :: ns = (headN hd :: aheadN ns m ++ (restN ns m).take j) ++ n :: r := by
    rw [← h, List.append_assoc, List.take_append_drop, List.cons_append, aheadN_rest]
  rw [h5] at hc
  exact hc.at
set_option maxRecDepth 100000 in
set_option maxHeartbeats 1000000 in
theorem from_any (w : World) (tb hd : Nat) (ns : List Nd) (m : Mk) (most : Int) (hS : SkAt w tb hd ns) (hlen : ns.length ≤ 4096) : Calls Tryz.prog 10 #[.pointer (some ⟨tb, 0, none⟩), .agg #[.string m.key, .int .u64 (m.seq : Int), .bool m.gone], .int .i64 most] w (FromE ((restL (ns.map Nd.e) m).take most.toNat) w) := by
  obtain ⟨W, hW⟩ : ∃ W, W = w.alloc (.cells #[.string m.key, .int .u64 (m.seq : Int), .bool m.gone] 47) := ⟨_, rfl⟩
  have hE : Ext w W := by rw [hW]; exact (Ext.refl _).alloc _
  have hM : MkAt W w.heap.size m := by rw [hW]; exact heap_alloc_new w _
  have hSW := hS.ext hE
  have hrg := hM.range
  have hrg' := hrg
  rw [hW] at hrg'
  have hW' := Lib.hid hW
  have hrl : (restN ns m).length ≤ 4096 := by
    have := congrArg List.length (aheadN_rest ns m)
    rw [List.length_append] at this; omega
  obtain ⟨rs, hrs⟩ : ∃ rs, rs = restN ns m := ⟨_, rfl⟩
  rw [← hrs] at hrl
  have hrs' := Lib.hid hrs
  clear hW hrs
  go_enter Tryz.func10, Tryz.ntmps10
  go_wp2_with (first | (refine wpList_load_mid (by rfl) 47 (.tmp 4) (by rfl) w.heap.size 0 (by rfl) (mkRow m) _ hrg' Tryz.underlying47 rfl (by exact info_mark) ?_) | fail)
  rw [← hW'.out]
  clear hW' hrg'
  refine (fromp_any W tb hd ns m hSW).mono ?_
  rw [← hrs'.out]
  rintro e w1 ⟨rfl, hE1⟩
  have hE2 := hE.trans hE1
  go_wp2_with fail
  go_loopg [6, 7] rs.length (fun g out n wr => ∃ j : Nat, g = rs.length - j ∧ j ≤ rs.length ∧ j ≤ most.toNat ∧ n = .pointer (nextAt (rs.drop j) 0) ∧ wr.ownsRow w.heap.size 49 4 out j (((rs.take j).map Nd.e).flatMap enL) ∧ Ext w wr)
  case atStart => exact ⟨0, by omega, by omega, by omega, by simp, World.ownsRow_nil _ _ _ _, hE2⟩
  case round =>
    obtain ⟨j, rfl, hj, hjm, rfl, hown, hX⟩ := hrel
    have hSr := hS.ext hX
    obtain ⟨oa, ocap, rfl, hoc⟩ := own_slice hown
    cases hd2 : rs.drop j with
    | nil =>
      have hjl : j = rs.length := by have := congrArg List.length hd2; simp at this; omega
      have hfin : (restL (ns.map Nd.e) m).take most.toNat = (rs.take j).map Nd.e := by
        rw [← restN_map, ← hrs'.out, ← List.map_take, List.take_of_length_le (by omega), List.take_of_length_le (by omega)]
      have hfin' := Lib.hid hfin
      have hjl' := Lib.hid hjl
      rw [show nextAt [] 0 = none from rfl]
      clear hfin hjl hd2
      go_wp2_with fail
      go_ret
      rw [hfin'.out]
      have hl : ((rs.take j).map Nd.e).length = j := by simp; omega
      refine ⟨oa, ocap, ?_, by rw [hl]; exact hoc, by rw [hl]; exact hown, hX⟩
      rw [hl]; rfl
    | cons n r =>
      by_cases hjm2 : (j : Int) < most
      · obtain ⟨hh, hT, hli⟩ := chain_rest hSr (m := m) (j := j) (n := n) (r := r) (by rw [← hrs'.out]; exact hd2)
        have hen := hT.entry
        have hlater : ∀ w2, Ext w w2 → w2.cell? ⟨n.blk, 4, none⟩ = some (.pointer (nextAt r 0)) := fun w2 he => by
          obtain ⟨_, hT2, hli2⟩ := chain_rest (hS.ext he) (m := m) (j := j) (n := n) (r := r) (by rw [← hrs'.out]; exact hd2)
          have hc4 := hT2.cells.2.2.2.2.1 0 (by omega)
          rw [hli2] at hc4; exact hc4
        have hlater' := Lib.hid hlater
        clear hlater
        rw [nextAt_hit hh]
        unfold Nd.addr
        have hd2' := Lib.hid hd2
        have hb2 := hX.size
        clear hd2 hT hli
        go_wp2_with (first | (refine wpList_load_mid (by rfl) 49 (.tmp 27) (by rfl) n.blk 0 (by rfl) (enRow n.e).toList _ hen Tryz.underlying49 rfl (by exact info_entry) ?_) | (refine wpList_bs_en (by rfl) (.tmp 28) (by rfl) n.e (by rfl) ?_) | (at_builtin; refine wpList_append_lit (by rfl) (.tmp 24) (.tmp 29) 27 49 (by rfl) Tryz.underlying27 el_entry wr w.heap.size j _ (.slice oa j ocap) (by rfl) hown (enRow n.e) (by rfl) (by rfl) (fun u hu => Array.all_eq_true_iff_forall_mem.1 (en_one n.e) u (by simpa using hu)) (by omega) (by omega) hb2 ?_; go_loud (intro v' w2 hown2 hbel; have hX2 : Ext w w2 := Below.trans hX hbel; have hc5 := hlater'.out w2 hX2)) | fail)
        have hd2 := hd2'.out
        have hjl : j < rs.length := by have := congrArg List.length hd2; simp at this; omega
        have hd3 : rs.drop (j + 1) = r := by rw [← List.drop_drop, hd2]; rfl
        have htk : rs.take (j + 1) = rs.take j ++ [n] := by
          rw [List.take_add_one]
          have : rs[j]? = some n := by
            have h9 := congrArg (·[0]?) hd2
            simpa using h9
          rw [this]; rfl
        go_roundg (rs.length - (j + 1))
        case measure => omega
        case rel =>
          refine ⟨j + 1, rfl, by omega, by omega, by rw [hd3], ?_, hX2⟩
          rw [htk, List.map_append, List.flatMap_append]
          simpa [enL] using hown2
      · have hfin : (restL (ns.map Nd.e) m).take most.toNat = (rs.take j).map Nd.e := by
          rw [← restN_map, ← hrs'.out, ← List.map_take, show most.toNat = j by omega]
        have hfin' := Lib.hid hfin
        obtain ⟨hh, _, _⟩ := chain_rest hSr (m := m) (j := j) (n := n) (r := r) (by rw [← hrs'.out]; exact hd2)
        rw [nextAt_hit hh]
        unfold Nd.addr
        clear hfin hd2
        go_wp2_with fail
        go_ret
        rw [hfin'.out]
        have hl : ((rs.take j).map Nd.e).length = j := by simp; omega
        refine ⟨oa, ocap, ?_, by rw [hl]; exact hoc, by rw [hl]; exact hown, hX⟩
        rw [hl]; rfl
end Go.Proofs.YtfcpnkalcijflaaGreatDoor
