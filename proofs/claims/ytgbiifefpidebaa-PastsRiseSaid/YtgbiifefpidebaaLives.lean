/- The chapter's past. No condition. -/
import Derived.Test.YtgbiifefpidebaaSmI
namespace Go.Proofs.Ytgbiifefpidebaa
open Go.RowKit
set_option maxRecDepth 100000
set_option maxHeartbeats 4000000
def zA : Ak := ⟨0, ⟨#[]⟩, ⟨#[]⟩, ⟨#[]⟩, false, ⟨#[]⟩, 0, []⟩
def pA (k : ByteArray) : Ak := ⟨1, k, ⟨#[]⟩, ⟨#[]⟩, false, ⟨#[]⟩, 0, []⟩
theorem put_any (w : World) (k : ByteArray) : Calls Try.prog 16 #[.string k] w fun e w' => e = .returned (.agg #[.int .u8 1, .string k, .string ⟨#[]⟩, .string ⟨#[]⟩, .bool false, .string ⟨#[]⟩, .int .i64 0, .slice none 0 0]) ∧ Ext w w' := by
  go_enter Try.func16, Try.ntmps16
  go_wp2_with fail
  have hE : Ext w (w.alloc (.cells ((pA k).row (.slice none 0 0)) 32)) := (Ext.refl _).alloc _
  have hset := heap_alloc_new w (.cells ((pA k).row (.slice none 0 0)) 32)
  obtain ⟨b0, b1, b2, b3, b4, b5, b6, b7⟩ := ask_cells8 hset
  simp only [pA, Ak.row] at hE b0 b1 b2 b3 b4 b5 b6 b7
  generalize w.alloc _ = W at *
  exact bodyPost_ret (v := .agg #[.int .u8 1, .string k, .string ⟨#[]⟩, .string ⟨#[]⟩, .bool false, .string ⟨#[]⟩, .int .i64 0, .slice none 0 0]) (by simp [results, Try.results16, go_sem, b0, b1, b2, b3, b4, b5, b6, b7]) rfl ⟨rfl, hE⟩
def lv1 : Ev := ⟨3, 1, 0, 0, zA, none, 0, 0, 0, false, [], none, 0, 0⟩
def lv2 : Ev := ⟨5, 1, 1, 1, pA ⟨#[97]⟩, none, 0, 0, 0, false, [], none, 0, 1⟩
def lv3 : Ev := ⟨5, 1, 1, 2, pA ⟨#[98]⟩, none, 0, 0, 0, false, [], none, 0, 2⟩
def lv4 : Ev := ⟨3, 2, 0, 0, zA, none, 0, 0, 0, false, [], none, 0, 1⟩
def lv5 : Ev := ⟨5, 2, 1, 2, pA ⟨#[99]⟩, none, 0, 0, 0, false, [], none, 0, 2⟩
def lv6 : Ev := ⟨2, 1, 1, 1, zA, none, 0, 1, 0, false, [], none, 0, 1⟩
def lvL : List Ev := [lv1, lv2, lv3, lv4, lv5]
theorem sm_chs (w : World) : ChsAt w [] none 0 := ⟨RowIs.nil _ _ _ _ (fun _ => rfl), by decide, fun _ h => by cases h⟩
theorem sm_rps (w : World) : RpsAt w [] none 0 := ⟨RowIs.nil _ _ _ _ (fun _ => rfl), by decide, fun _ h => by cases h⟩
theorem lv_good (w : World) : ∀ x ∈ lvL, x.good w := by
  intro x hx
  unfold lvL at hx
  simp only [List.mem_cons, List.not_mem_nil, or_false] at hx
  rcases hx with rfl | rfl | rfl | rfl | rfl
  all_goals exact ⟨⟨by decide, by decide⟩, ⟨by decide, by decide⟩, ⟨by decide, by decide⟩, ⟨by decide, by decide⟩, sm_chs w, ⟨⟨by decide, by decide⟩, by decide, by decide, by decide, by decide, by decide, by decide⟩, ⟨by decide, by decide⟩, sm_rps w, ⟨by decide, by decide⟩⟩
theorem lv6_good (w : World) : ∀ x ∈ [lv6], x.good w := by
  intro x hx
  obtain rfl := List.mem_singleton.1 hx
  exact ⟨⟨by decide, by decide⟩, ⟨by decide, by decide⟩, ⟨by decide, by decide⟩, ⟨by decide, by decide⟩, sm_chs w, ⟨⟨by decide, by decide⟩, by decide, by decide, by decide, by decide, by decide, by decide⟩, ⟨by decide, by decide⟩, sm_rps w, ⟨by decide, by decide⟩⟩
theorem may1 : lv1.mayB = true := by kernel_rfl
theorem may2 : lv2.mayB = true := by kernel_rfl
theorem may3 : lv3.mayB = true := by kernel_rfl
theorem may4 : lv4.mayB = true := by kernel_rfl
theorem may5 : lv5.mayB = true := by kernel_rfl
theorem ckS_3 {s : Cks} {x : Ev} (hm : x.mayB = true) (hk : x.kind = 3) (he : s.ep < x.ep) : ckS s x = some ⟨s.wt, s.la, x.ep⟩ := by
  unfold ckS
  rw [if_neg (by rw [hm]; decide), if_neg (by omega), if_neg (by omega), if_pos hk, if_neg (by omega)]
theorem ckS_5 {s : Cks} {x : Ev} (hm : x.mayB = true) (h1 : x.kind ≠ 1) (h2 : x.kind ≠ 2) (h3 : x.kind ≠ 3) : ckS s x = some s := by
  unfold ckS
  rw [if_neg (by rw [hm]; decide), if_neg h1, if_neg h2, if_neg h3]
theorem lv_ck : (ckL lvL).isSome = true := by
  have h : ckL lvL = some ⟨fun _ => 0, fun _ => 0, 2⟩ := by
    unfold ckL lvL
    rw [List.foldlM_cons, ckS_3 may1 rfl (by decide)]
    simp only [Option.bind_eq_bind, Option.bind_some]
    rw [List.foldlM_cons, ckS_5 may2 (by decide) (by decide) (by decide)]
    simp only [Option.bind_eq_bind, Option.bind_some]
    rw [List.foldlM_cons, ckS_5 may3 (by decide) (by decide) (by decide)]
    simp only [Option.bind_eq_bind, Option.bind_some]
    rw [List.foldlM_cons, ckS_3 may4 rfl (by decide)]
    simp only [Option.bind_eq_bind, Option.bind_some]
    rw [List.foldlM_cons, ckS_5 may5 (by decide) (by decide) (by decide)]
    rfl
  rw [h]; rfl
theorem lv6_ck : (ckL [lv6]).isSome = false := by
  have h : ckL [lv6] = none := by
    unfold ckL
    rw [List.foldlM_cons]
    have : ckS ⟨fun _ => 0, fun _ => 0, 0⟩ lv6 = none := by
      unfold ckS
      split
      · rfl
      · rw [if_neg (by decide), if_pos (by decide), if_neg (by decide)]
    rw [this]; rfl
  rw [h]; rfl
theorem lv_log : logP lvL = [lv2.strip, lv5.strip] := by
  rfl
theorem run_b3 (a b : Int) (w : World) : (Instr.build 40 #[(0, .int .u8 3), (1, .int .u32 a), (7, .int .u64 b)]).run Try.prog w = .ok (.agg (Ev.row ⟨3, a, 0, 0, zA, none, 0, 0, 0, false, [], none, 0, b⟩)) w := by kernel_rfl
theorem run_b1 (w : World) : (Instr.build 40 #[(0, .int .u8 3), (1, .int .u32 1)]).run Try.prog w = .ok (.agg lv1.row) w := by kernel_rfl
theorem run_b5 (a b c : Int) (k : ByteArray) (w : World) : (Instr.build 40 #[(0, .int .u8 5), (1, .int .u32 a), (2, .int .u8 1), (3, .int .u32 b), (7, .int .u64 c), (4, .agg #[.int .u8 1, .string k, .string ⟨#[]⟩, .string ⟨#[]⟩, .bool false, .string ⟨#[]⟩, .int .i64 0, .slice none 0 0])]).run Try.prog w = .ok (.agg (Ev.row ⟨5, a, 1, b, pA k, none, 0, 0, 0, false, [], none, 0, c⟩)) w := by kernel_rfl
theorem run_b6 (w : World) : (Instr.build 40 #[(0, .int .u8 2), (1, .int .u32 1), (2, .int .u8 1), (3, .int .u32 1), (7, .int .u64 1), (5, .int .u8 1)]).run Try.prog w = .ok (.agg lv6.row) w := by kernel_rfl
def lvC : Array Value := (lvL.flatMap Ev.cells).toArray
theorem run_bs5 (w : World) : (Instr.buildSlice 22 5 #[(0, .agg lv1.row), (1, .agg lv2.row), (2, .agg lv3.row), (3, .agg lv4.row), (4, .agg lv5.row)]).run Try.prog w = .ok (.slice (some ⟨w.heap.size, 0, none⟩) 5 5) (w.alloc (.cells lvC 40)) := by kernel_rfl
theorem run_bs6 (w : World) : (Instr.buildSlice 22 1 #[(0, .agg lv6.row)]).run Try.prog w = .ok (.slice (some ⟨w.heap.size, 0, none⟩) 1 1) (w.alloc (.cells lv6.row 40)) := by kernel_rfl
theorem lvC_lit : lvC = #[.int .u8 3, .int .u32 1, .int .u8 0, .int .u32 0, .int .u8 0, .string ⟨#[]⟩, .string ⟨#[]⟩, .string ⟨#[]⟩, .bool false, .string ⟨#[]⟩, .int .i64 0, .slice none 0 0, .int .u8 0, .int .i64 0, .bool false, .slice none 0 0, .int .u64 0, .int .u8 5, .int .u32 1, .int .u8 1, .int .u32 1, .int .u8 1, .string ⟨#[97]⟩, .string ⟨#[]⟩, .string ⟨#[]⟩, .bool false, .string ⟨#[]⟩, .int .i64 0, .slice none 0 0, .int .u8 0, .int .i64 0, .bool false, .slice none 0 0, .int .u64 1, .int .u8 5, .int .u32 1, .int .u8 1, .int .u32 2, .int .u8 1, .string ⟨#[98]⟩, .string ⟨#[]⟩, .string ⟨#[]⟩, .bool false, .string ⟨#[]⟩, .int .i64 0, .slice none 0 0, .int .u8 0, .int .i64 0, .bool false, .slice none 0 0, .int .u64 2, .int .u8 3, .int .u32 2, .int .u8 0, .int .u32 0, .int .u8 0, .string ⟨#[]⟩, .string ⟨#[]⟩, .string ⟨#[]⟩, .bool false, .string ⟨#[]⟩, .int .i64 0, .slice none 0 0, .int .u8 0, .int .i64 0, .bool false, .slice none 0 0, .int .u64 1, .int .u8 5, .int .u32 2, .int .u8 1, .int .u32 2, .int .u8 1, .string ⟨#[99]⟩, .string ⟨#[]⟩, .string ⟨#[]⟩, .bool false, .string ⟨#[]⟩, .int .i64 0, .slice none 0 0, .int .u8 0, .int .i64 0, .bool false, .slice none 0 0, .int .u64 2] := by rfl
theorem lv_calls (w3 : World) : Calls Try.prog 11 #[.slice (some ⟨w3.heap.size, 0, none⟩) 5 5] (w3.alloc (.cells #[.int .u8 3, .int .u32 1, .int .u8 0, .int .u32 0, .int .u8 0, .string ⟨#[]⟩, .string ⟨#[]⟩, .string ⟨#[]⟩, .bool false, .string ⟨#[]⟩, .int .i64 0, .slice none 0 0, .int .u8 0, .int .i64 0, .bool false, .slice none 0 0, .int .u64 0, .int .u8 5, .int .u32 1, .int .u8 1, .int .u32 1, .int .u8 1, .string ⟨#[97]⟩, .string ⟨#[]⟩, .string ⟨#[]⟩, .bool false, .string ⟨#[]⟩, .int .i64 0, .slice none 0 0, .int .u8 0, .int .i64 0, .bool false, .slice none 0 0, .int .u64 1, .int .u8 5, .int .u32 1, .int .u8 1, .int .u32 2, .int .u8 1, .string ⟨#[98]⟩, .string ⟨#[]⟩, .string ⟨#[]⟩, .bool false, .string ⟨#[]⟩, .int .i64 0, .slice none 0 0, .int .u8 0, .int .i64 0, .bool false, .slice none 0 0, .int .u64 2, .int .u8 3, .int .u32 2, .int .u8 0, .int .u32 0, .int .u8 0, .string ⟨#[]⟩, .string ⟨#[]⟩, .string ⟨#[]⟩, .bool false, .string ⟨#[]⟩, .int .i64 0, .slice none 0 0, .int .u8 0, .int .i64 0, .bool false, .slice none 0 0, .int .u64 1, .int .u8 5, .int .u32 2, .int .u8 1, .int .u32 2, .int .u8 1, .string ⟨#[99]⟩, .string ⟨#[]⟩, .string ⟨#[]⟩, .bool false, .string ⟨#[]⟩, .int .i64 0, .slice none 0 0, .int .u8 0, .int .i64 0, .bool false, .slice none 0 0, .int .u64 2] 40)) (LogE (w3.alloc (.cells lvC 40)) lvL) := by
  rw [← lvC_lit]
  exact log_any _ lvL _ 5 (RowIs.lit w3 17 5 lvC 40 (0, 0) (by kernel_rfl) (by decide)) (by decide) (lv_good _) lv_ck
theorem two_of {os : List Ev} {x y : Ev} (h : os.map Ev.strip = [x, y]) : ∃ u v, os = [u, v] ∧ u.strip = x ∧ v.strip = y := by
  have hl := congrArg List.length h
  rw [List.length_map] at hl
  rcases os with _ | ⟨u, _ | ⟨v, _ | ⟨z, t⟩⟩⟩
  · exact absurd hl (by simp only [List.length_cons, List.length_nil]; decide)
  · exact absurd hl (by simp only [List.length_cons, List.length_nil]; decide)
  · have h1 := congrArg (·[0]?) h
    have h2 := congrArg (·[1]?) h
    exact ⟨u, v, rfl, Option.some.inj h1, Option.some.inj h2⟩
  · exact absurd hl (by simp only [List.length_cons, List.length_nil]; omega)
theorem two_cells {w : World} {u v : Ev} {a : Option Addr} (hr : RowIs w 11 (.slice a 2 2) 2 ([u, v].flatMap Ev.itc)) : ∃ b off, a = some ⟨b, off, none⟩ ∧ w.cell? ⟨b, off + 4, none⟩ = some (.string u.ask.key) ∧ w.cell? ⟨b, off + 15, none⟩ = some (.string v.ask.key) := by
  obtain ⟨b, off, hat⟩ := hr.at
  obtain ⟨rfl, _, hd⟩ := hat (by decide)
  exact ⟨b, off, rfl, hd 4 (by decide), hd 15 (by decide)⟩
theorem key2 {u : Ev} (h : u.strip = lv2.strip) : u.ask.key = ⟨#[97]⟩ := by
  have h1 : u.strip.ask.key = lv2.strip.ask.key := by rw [h]
  exact h1
theorem key5 {u : Ev} (h : u.strip = lv5.strip) : u.ask.key = ⟨#[99]⟩ := by
  have h1 : u.strip.ask.key = lv5.strip.ask.key := by rw [h]
  exact h1
theorem lv_two {w : World} {os : List Ev} {a : Option Addr} {w' : World} (h : LogR w lvL os a w') : os.length = 2 ∧ ∃ b off, a = some ⟨b, off, none⟩ ∧ w'.cell? ⟨b, off + 4, none⟩ = some (.string ⟨#[97]⟩) ∧ w'.cell? ⟨b, off + 15, none⟩ = some (.string ⟨#[99]⟩) := by
  have h1 := h.same
  rw [lv_log] at h1
  obtain ⟨u, v, rfl, hu, hv⟩ := two_of h1
  obtain ⟨b, off, ha, hx, hy⟩ := two_cells h.row
  rw [key2 hu] at hx
  rw [key5 hv] at hy
  exact ⟨rfl, b, off, ha, hx, hy⟩
theorem lives_any (w : World) : Calls Try.prog 9 #[] w fun e w' => e = .returned (.bool true) ∧ Ext w w' := by
  go_enter Try.func9, Try.ntmps9
  go_wp2_with fail
  refine (put_any _ _).mono ?_
  rintro e w1 ⟨rfl, hE1⟩
  go_wp2_with fail
  refine (put_any _ _).mono ?_
  rintro e w2 ⟨rfl, hE2⟩
  go_wp2_with fail
  refine (put_any _ _).mono ?_
  rintro e w3 ⟨rfl, hE3⟩
  go_wp2_with fail
  refine (lv_calls w3).mono ?_
  rintro e w4 ⟨os, a, rfl, hR⟩
  have hE4 : Ext w w4 := (hE1.trans (hE2.trans hE3)).trans (((Ext.refl w3).alloc _).trans hR.ext)
  obtain ⟨h2, b, off, rfl, ca, cb⟩ := lv_two hR
  rw [h2]
  clear hE1 hE2 hE3 hR h2
  have hck0 : Calls Try.prog 8 #[.slice none 0 0] w4 fun e w' => e = .returned (.bool true) ∧ Ext w4 w' := pcheck_any w4 [] none 0 (RowIs.nil _ _ _ _ (fun _ => rfl)) (by decide) (fun _ h => by cases h)
  have hck0' := Lib.hid hck0
  clear hck0
  go_wp2_with fail
  refine hck0'.out.mono ?_
  rintro e w5 ⟨rfl, hE5⟩
  go_wp2_with fail
  have hck6 : Calls Try.prog 8 #[.slice (some ⟨w5.heap.size, 0, none⟩) 1 1] (w5.alloc (.cells lv6.row 40)) fun e w' => e = .returned (.bool false) ∧ Ext (w5.alloc (.cells lv6.row 40)) w' := by
    have h := pcheck_any (w5.alloc (.cells lv6.row 40)) [lv6] (some ⟨w5.heap.size, 0, none⟩) 1 (RowIs.lit w5 17 1 lv6.row 40 (0, 0) rfl (by decide)) (by decide) (lv6_good _)
    rw [show CkE (w5.alloc (.cells lv6.row 40)) [lv6] = fun e w' => e = .returned (.bool false) ∧ Ext (w5.alloc (.cells lv6.row 40)) w' by funext e w'; unfold CkE; rw [lv6_ck]] at h
    exact h
  refine hck6.mono ?_
  clear hck6
  rintro e w6 ⟨rfl, hE6⟩
  have hE7 := (hE4.trans hE5).trans (((Ext.refl w5).alloc _).trans hE6)
  clear hE4 hE5 hE6 ca cb
  go_wp2_with fail
  have hah : Calls Try.prog 10 #[.slice none 0 0, .int .i64 0, .int .i64 0] w6 fun e w' => e = .returned (.bool false) ∧ Ext w6 w' := ahead_ev w6 [] none 0 (RowIs.nil _ _ _ _ (fun _ => rfl)) (by decide) 0 0 (by decide) (by decide)
  refine hah.mono ?_
  rintro e w7 ⟨rfl, hE8⟩
  go_wp2_with fail
  go_ret
  exact ⟨rfl, hE7.trans hE8⟩
end Go.Proofs.Ytgbiifefpidebaa
