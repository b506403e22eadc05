import Derived.Test.YtjkikpfccmhfmaaW10
import Derived.Test.YtjkikpfccmhfmaaMath2
import Derived.Laws.BytesArg
namespace Go.Proofs.Ytjkikpfccmhfmaa
open Go.RowKit
def strOf (bs : List Nat) : ByteArray := strOfNums (bs.map fun c : Nat => (c : Int))
theorem strOf_toList (bs : List Nat) : (strOf bs).toList = bs.map UInt8.ofNat := by
  rw [ByteArray.toList_eq, strOf, strOfNums_data]
  simp
theorem ofNat_inj : ∀ (x y : List Nat), (∀ c ∈ x, c < 256) → (∀ c ∈ y, c < 256) → x.map UInt8.ofNat = y.map UInt8.ofNat → x = y
  | [], [], _, _, _ => rfl
  | [], _ :: _, _, _, h => by simp at h
  | _ :: _, [], _, _, h => by simp at h
  | a :: x, b :: y, hx, hy, h => by
    simp only [List.map_cons, List.cons.injEq] at h
    have ha := hx a (by simp)
    have hb := hy b (by simp)
    have e : a = b := by
      have h1 := congrArg UInt8.toNat h.1
      simp only [UInt8.toNat_ofNat'] at h1
      omega
    rw [e, ofNat_inj x y (fun c hc => hx c (by simp [hc])) (fun c hc => hy c (by simp [hc])) h.2]
theorem str_beq (x y : List Nat) (hx : ∀ c ∈ x, c < 256) (hy : ∀ c ∈ y, c < 256) : ((strOf x).toList == (strOf y).toList) = decide (x = y) := by
  rw [strOf_toList, strOf_toList]
  by_cases h : x = y
  · subst h; simp
  · simp only [h, decide_false, beq_eq_false_iff_ne, ne_eq]
    exact fun e => h (ofNat_inj x y hx hy e)
theorem BytesAt.str {w : World} {a : Option Addr} {n cap : Nat} {bs : List Nat} (h : BytesAt w (.slice a n cap) bs) : (convert 26 9 (.slice a n cap)).run Try.prog w = .ok (.string (strOf bs)) w := by
  obtain ⟨hb, hl, _, ⟨h0, a', cap', he, _⟩ | ⟨b, off, cap', he, _, hd⟩⟩ := h
  · injection he with e1 e2 e3
    subst e1; subst e2
    obtain rfl := List.eq_nil_of_length_eq_zero h0
    cases a with
    | none => exact run_convert_bytes_nil w 26 5 Try.underlying26 Try.underlying5 0 cap 9 Try.underlying9
    | some a =>
      rw [run_convert_bytes_string w 26 9 5 _ 0 cap Try.underlying26 Try.underlying5 Try.underlying9]
      exact run_bytesToString w a 0 cap [] (run_loadCells_list (P := Try.prog) w a [] (fun j v hv => by simp at hv))
  · injection he with e1 e2 e3
    subst e1; subst e2
    exact run_convert_bytes_arg w 26 5 Try.underlying26 Try.underlying5 b off bs.length cap _ (by simp) (fun i hi => by rw [hd i (by omega)]; simp [u8s, hi]) 9 Try.underlying9

theorem okc_agg8 {w : World} {cs : Array Value} (h : ∃ n, OKC Try.prog w n 49 cs.toList) : cs.size = 8 ∧ ∃ L : Nat → Nat, (∀ i, L i < 256) ∧ ∀ i, i < 8 → cs[i]? = some (.int .u8 ((L i : Nat) : Int)) := by
  obtain ⟨n, h⟩ := h
  have c49 : Try.prog.cellsOf 49 = 8 := by kernel_rfl
  have c48 : Try.prog.cellsOf 48 = 4 := by kernel_rfl
  have c5 : Try.prog.cellsOf 5 = 1 := by kernel_rfl
  have key : cs.size = 8 ∧ ∀ i, i < 8 → ∃ c : Nat, cs[i]? = some (.int .u8 (c : Int)) ∧ c < 256 := by
    cases n with
    | zero => exact h.elim
    | succ n =>
      unfold OKC at h
      rw [Try.underlying49] at h
      simp only [c49, c48] at h
      obtain ⟨hl, hi⟩ := h
      have hl' : cs.size = 8 := by simpa using hl
      refine ⟨hl', fun i hi8 => ?_⟩
      have h2 := hi (i / 4) (by omega)
      cases n with
      | zero => exact h2.elim
      | succ n =>
        unfold OKC at h2
        rw [Try.underlying48] at h2
        simp only [c48, c5] at h2
        have h3 := h2.2 (i % 4) (by omega)
        rw [Nat.mul_one] at h3
        obtain ⟨c, hc, hc2⟩ := okc_u8 h3
        refine ⟨c, ?_, hc2⟩
        have h4 : ((((cs.toList.drop (i / 4 * 4)).take 4).drop (i % 4)).take 1)[0]? = some (.int .u8 (c : Int)) := by rw [hc]; rfl
        rw [List.getElem?_take_of_lt (by decide), List.getElem?_drop, List.getElem?_take_of_lt (by omega), List.getElem?_drop] at h4
        have e : i / 4 * 4 + (i % 4 + 0) = i := by omega
        rw [e] at h4
        simpa using h4
  refine ⟨key.1, fun i => (match cs[i]? with | some (.int _ x) => x.toNat | _ => 0) % 256, fun i => Nat.mod_lt _ (by decide), fun i hi => ?_⟩
  obtain ⟨c, hc, hc2⟩ := key.2 i hi
  have e : (match cs[i]? with | some (.int _ x) => x.toNat | _ => 0) = c := by rw [hc]; rfl
  simp only [e]
  rw [hc, Nat.mod_eq_of_lt hc2]
theorem cutArr (B off k : Nat) (hk : k ≤ 4) (w : World) : (Instr.sliceAt 48 (.pointer (some ⟨B, off, none⟩)) none (some (.int .i64 (k : Int))) none).run Try.prog w = .ok (.slice (some ⟨B, off, none⟩) k 4) w := by
  have hel : Try.prog.elem 48 = 5 := by kernel_rfl
  have hal : Try.prog.arrayLen 48 = 4 := by kernel_rfl
  have ht : Try.prog.underlying 48 = some (.array (Try.prog.arrayLen 48) (Try.prog.elem 48)) := by rw [hel, hal]; exact Try.underlying48
  have hs : (sizeOf 5).run Try.prog w = .ok 1 w := by
    have h := info5s
    cases hq : Try.prog.info? 5 with
    | none => simp [hq] at h
    | some i => simp [hq] at h; simp [sizeOf, typeInfo, hq, h]
  rw [run_sliceAt_array_h w 48 ⟨B, off, none⟩ ht .i64 (k : Int) (by omega) (by rw [hal]; omega), hel, hs, hal]
  simp [slicedAt, Addr.add]
theorem arr_row (w : World) (B off k : Nat) (L : Nat → Nat) (hL : ∀ i, L i < 256) (hk : k ≤ 4) (h : ∀ i, i < k → w.cell? ⟨B, off + i, none⟩ = some (.int .u8 ((L i : Nat) : Int))) : BytesAt w (.slice (some ⟨B, off, none⟩) k 4) ((List.range k).map L) := by
  have e : ((List.range k).map L).length = k := by simp
  refine ⟨fun c hc => by obtain ⟨i, _, rfl⟩ := List.mem_map.1 hc; exact hL i, by simp [u8s], by omega, .inr ⟨B, off, 4, by rw [e], by omega, fun i hi => ?_⟩⟩
  rw [h i (by omega), u8s_at _ _ (by omega)]
  have : i < k := by omega
  simp [List.getD, this]
set_option maxRecDepth 100000 in
set_option maxHeartbeats 1000000 in
theorem sumsFour_walk (w : World) (v : Value) (o0 : ∃ n, OKC Try.prog w n 26 [v]) (l : Array Value) (o1 : ∃ n, OKC Try.prog w n 49 l.toList) (s : Int) (o2 : ∃ n, OKC Try.prog w n 5 [.int .u8 s]) :
    Calls Try.prog 12 #[v, .agg l, .int .u8 s] w fun e w' => e = .returned (.bool true) ∧ Ext w w' := by
  obtain ⟨bs, a, cap, rfl, hB, hm⟩ := okc_bytes o0
  obtain ⟨hl8, L, hL, hLi⟩ := okc_agg8 o1
  obtain ⟨c, rfl, hc⟩ : ∃ c : Nat, s = c ∧ c < 256 := by
    obtain ⟨n, h⟩ := o2
    obtain ⟨c, h1, h2⟩ := okc_u8 h
    simp at h1; exact ⟨c, h1, h2⟩
  clear o0 o1 o2
  go_enter Try.func12, Try.ntmps12
  go_wp2_with fail
  obtain ⟨w0, h0⟩ : ∃ w0, w0 = w.alloc (.cells l 49) := ⟨_, rfl⟩
  have hl0 : ∀ i, i < 8 → w0.cell? ⟨w.heap.size, i, none⟩ = some (.int .u8 ((L i : Nat) : Int)) := fun i hi => by
    rw [h0, cell_of_row _ _ i l 49 (0, 0) (heap_alloc_new w _)]; exact hLi i hi
  have hE0 : Ext w w0 := by rw [h0]; exact (Ext.refl _).alloc _
  rw [← h0]
  clear h0
  refine (alive_any w0).mono ?_
  rintro e w1 ⟨rfl, hx1⟩
  by_cases hbig : 100000 < bs.length
  · go_wp2_with fail
    refine (alive_any w1).mono ?_
    rintro e w2 ⟨rfl, hx2⟩
    go_wp2
    go_ret
    exact ⟨rfl, hE0.trans (hx1.trans hx2)⟩
  · have hle : bs.length ≤ 100000 := by omega
    clear hbig
    have hz := zero23
    obtain ⟨k, hk⟩ : ∃ k, k = c % 5 := ⟨_, rfl⟩
    have hk4 : k ≤ 4 := by omega
    have hkm : (c : Int) % 5 = (k : Int) := by rw [hk]; simp
    clear hk
    go_wp2_with fail
    refine (table_any w1).mono ?_
    rintro e w2 ⟨rfl, hx2⟩
    have cA := cutArr w.heap.size 0 k hk4
    have cB := cutArr w.heap.size 4 k hk4
    go_wp2_with (first | (refine wpList_store_tab rfl _ _ rfl _ _ _ rfl rfl rfl ?_) | fail)
    clear hz cA cB
    obtain ⟨W, hW⟩ : ∃ w3, w3 = w2.alloc (.cells (aggOf Crc.tab) 23) := ⟨_, rfl⟩
    have ht : W.heap[w2.heap.size]? = some (.cells (aggOf Crc.tab) 23 (0, 0)) := by rw [hW]; exact heap_alloc_new _ _
    have h0W : Ext w0 W := by rw [hW]; exact Ext.alloc (Ext.trans hx1 hx2) _
    rw [← hW]
    clear hW hx1 hx2
    have Tt := TabAt.of_row ht
    have hE : Ext w W := hE0.trans h0W
    have hB9 := hB.ext hE
    have hx := arr_row W w.heap.size 0 k L hL hk4 (fun i hi => by rw [Nat.zero_add]; exact h0W.cell (hl0 i (by omega)))
    have hy := arr_row W w.heap.size 4 k (fun i => L (4 + i)) (fun i => hL _) hk4 (fun i hi => h0W.cell (hl0 (4 + i) (by omega)))
    have hfour := Crc.on_four (Crc.on Crc.tab 0 bs) ((List.range k).map L) ((List.range k).map fun i => L (4 + i)) (by simp) (by simp; omega) hx.1 hy.1
    have hstr := str_beq ((List.range k).map L) ((List.range k).map fun i => L (4 + i)) hx.1 hy.1
    refine (of_any _ _ _ _ _ Tt tab_ok hB9).mono ?_
    rintro e w2' ⟨rfl, rfl⟩
    have hsum := on_lt Crc.tab 0 bs
    generalize Crc.on Crc.tab 0 bs = sum at *
    generalize (List.range k).map L = xs at *
    generalize ((List.range k).map fun i => L (4 + i)) = ys at *
    obtain ⟨r, hr⟩ : ∃ r, r = decide (xs = ys) := ⟨_, rfl⟩
    have hr1 : (((Crc.on Crc.tab sum xs : Nat) : Int) == ((Crc.on Crc.tab sum ys : Nat) : Int)) = r := by
      rw [hr, Bool.eq_iff_iff]; simp only [beq_iff_eq, decide_eq_true_eq]; rw [← hfour]; omega
    rw [← hr] at hstr
    clear hr hfour hl0 hLi hkm
    go_wp2
    refine wp_region_class (Ext W) (by kernel_rfl) (by kernel_rfl) (Ext.refl _).drew ?_
    iterate 2 (refine wpQuiet_step (fun K hK => ?_); go_simp; first | (refine hK _ ?_; clear hK K) | (refine ⟨_, fun _ _ => rfl, hK _ ?_⟩; clear hK K))
    refine wpQuiet_step (fun K hK => ?_)
    go_simp
    refine ⟨_, fun w' h => calls_same h (on_any _ _ _ _ xs w' (by omega) (by omega) (Tt.ext h) tab_ok (hx.ext h)), hK _ ?_⟩; clear hK K
    iterate 2 (refine wpQuiet_step (fun K hK => ?_); go_simp; first | (refine hK _ ?_; clear hK K) | (refine ⟨_, fun _ _ => rfl, hK _ ?_⟩; clear hK K))
    refine wpQuiet_step (fun K hK => ?_)
    go_simp
    refine ⟨_, fun w' h => calls_same h (on_any _ _ _ _ ys w' (by omega) (by omega) (Tt.ext h) tab_ok (hy.ext h)), hK _ ?_⟩; clear hK K
    iterate 2 (refine wpQuiet_step (fun K hK => ?_); go_simp; first | (refine hK _ ?_; clear hK K) | (refine ⟨_, fun _ _ => rfl, hK _ ?_⟩; clear hK K))
    refine wpQuiet_step (fun K hK => ?_)
    go_simp
    refine ⟨.string (strOf xs), fun w' h => ?_, hK _ ?_⟩
    · have hs := BytesAt.str (hx.ext h)
      go_simp
    clear hK K
    iterate 1 (refine wpQuiet_step (fun K hK => ?_); go_simp; first | (refine hK _ ?_; clear hK K) | (refine ⟨_, fun _ _ => rfl, hK _ ?_⟩; clear hK K))
    refine wpQuiet_step (fun K hK => ?_)
    go_simp
    refine ⟨.string (strOf ys), fun w' h => ?_, hK _ ?_⟩
    · have hs := BytesAt.str (hy.ext h)
      go_simp
    clear hK K
    iterate 3 (refine wpQuiet_step (fun K hK => ?_); go_simp; first | (refine hK _ ?_; clear hK K) | (refine ⟨_, fun _ _ => rfl, hK _ ?_⟩; clear hK K))
    refine wpQuiet_nil (fun W3 hW3 => ?_)
    go_wp2
    go_ret
    exact ⟨rfl, hE.trans hW3⟩
end Go.Proofs.Ytjkikpfccmhfmaa
