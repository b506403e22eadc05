import Derived.Test.YtjkikpfccmhfmaaW16
import Derived.Test.YtjkikpfccmhfmaaKit5
import Derived.Deep.RegionHeld3
namespace Go.Proofs.Ytjkikpfccmhfmaa
open Go.RowKit
theorem u8s_snoc (l : List Nat) (k : Nat) (x : Nat) (h : l[k]? = some x) : u8s (l.take (k + 1)) = u8s (l.take k) ++ [.int .u8 (x : Int)] := by
  have hk : k < l.length := (List.getElem?_eq_some_iff.1 h).1
  rw [List.take_succ_eq_append_getElem hk, u8s_append]
  have : l[k] = x := (List.getElem?_eq_some_iff.1 h).2
  rw [this]; rfl
def Four (W : World) (l : List Tri) (k : Nat) (va vb vc vd : Value) (wr : World) : Prop :=
  (wr.ownsRow W.heap.size 5 1 va k (u8s ((l.map Tri.a).take k)) ∧ wr.ownsRow W.heap.size 5 1 vb k (u8s ((l.map Tri.b).take k)) ∧
   wr.ownsRow W.heap.size 5 1 vc k (u8s ((l.map Tri.c).take k)) ∧ wr.ownsRow W.heap.size 5 1 vd k (u8s ((l.map Tri.d).take k))) ∧
  (Sep va vb ∧ Sep va vc ∧ Sep va vd ∧ Sep vb vc ∧ Sep vb vd ∧ Sep vc vd) ∧ Ext W wr
set_option maxRecDepth 100000 in
set_option maxHeartbeats 2000000 in
theorem sumsLinear_walk (w : World) (s : Int) (o0 : ∃ n, OKC Try.prog w n 5 [.int .u8 s]) (t : Int) (o1 : ∃ n, OKC Try.prog w n 5 [.int .u8 t]) (v : Value) (o2 : ∃ n, OKC Try.prog w n 41 [v]) :
    Calls Try.prog 7 #[.int .u8 s, .int .u8 t, v] w fun e w' => e = .returned (.bool true) ∧ Ext w w' := by
  obtain ⟨x, rfl, hx⟩ : ∃ c : Nat, s = c ∧ c < 256 := by
    obtain ⟨n, h⟩ := o0
    obtain ⟨c, h1, h2⟩ := okc_u8 h
    simp at h1; exact ⟨c, h1, h2⟩
  obtain ⟨y, rfl, hy⟩ : ∃ c : Nat, t = c ∧ c < 256 := by
    obtain ⟨n, h⟩ := o1
    obtain ⟨c, h1, h2⟩ := okc_u8 h
    simp at h1; exact ⟨c, h1, h2⟩
  obtain ⟨l, a, cap, rfl, hgood, hR, hm⟩ := okc_tris o2
  clear o0 o1 o2
  go_enter Try.func7, Try.ntmps7
  go_wp2_with fail
  refine (alive_any w).mono ?_
  rintro e w1 ⟨rfl, hx1⟩
  rcases Nat.lt_or_ge 30000 l.length with hbig | hle
  · go_wp2_with fail
    refine (alive_any w1).mono ?_
    rintro e w2 ⟨rfl, hx2⟩
    go_wp2
    go_ret
    exact ⟨rfl, hx1.trans hx2⟩
  · have hz := zero23
    go_wp2_with fail
    refine (table_any w1).mono ?_
    rintro e w2 ⟨rfl, hx2⟩
    go_wp2_with (first | (refine wpList_store_tab rfl _ _ rfl _ _ _ rfl rfl rfl ?_) | fail)
    clear hz
    obtain ⟨W, hW⟩ : ∃ w3, w3 = w2.alloc (.cells (aggOf Crc.tab) 23) := ⟨_, rfl⟩
    have ht : W.heap[w2.heap.size]? = some (.cells (aggOf Crc.tab) 23 (0, 0)) := by rw [hW]; exact heap_alloc_new _ _
    have hE : Ext w W := by rw [hW]; exact Ext.alloc (Ext.trans hx1 hx2) _
    rw [← hW]
    clear hW hx1 hx2
    have hRW := hR.ext hE
    obtain ⟨b, off, hat⟩ := hRW.at
    go_loopw [8, 9, 10, 11, 12] (fun va vb vc vd i wr => ∃ k : Nat, k ≤ l.length ∧ i = .int .i64 k ∧ Four W l k va vb vc vd wr) (fun _ _ _ _ i _ => l.length - (intOf i).toNat)
    case atStart => exact ⟨0, by omega, rfl, ⟨World.ownsRow_nil _ _ _ _, World.ownsRow_nil _ _ _ _, World.ownsRow_nil _ _ _ _, World.ownsRow_nil _ _ _ _⟩, ⟨Sep.nil _, Sep.nil _, Sep.nil _, Sep.nil _, Sep.nil _, Sep.nil _⟩, Ext.refl _⟩
    case round =>
      obtain ⟨k, hk, rfl, ⟨oA, oB, oC, oD⟩, ⟨sAB, sAC, sAD, sBC, sBD, sCD⟩, hE2⟩ := hrel
      by_cases hlt : k < l.length
      · obtain ⟨rfl, _, hd⟩ := hat (by omega)
        obtain ⟨m, hmk⟩ : ∃ m, l[k]? = some m := ⟨_, List.getElem?_eq_getElem hlt⟩
        have hgm := hgood m (List.mem_of_getElem? hmk)
        have q0 := hd (k * 3 + 0) (by omega)
        have q1 := hd (k * 3 + 1) (by omega)
        have q2 := hd (k * 3 + 2) (by omega)
        rw [tri_at l k m hmk _ (by decide)] at q0 q1 q2
        rw [Nat.add_zero] at q0
        rw [← Nat.add_assoc] at q1 q2
        simp only [Tri.cells, List.getElem?_cons_zero, List.getElem?_cons_succ] at q0 q1 q2
        have nA := Lib.hid (u8s_snoc (l.map Tri.a) k m.a (by rw [List.getElem?_map, hmk]; rfl))
        have nB := Lib.hid (u8s_snoc (l.map Tri.b) k m.b (by rw [List.getElem?_map, hmk]; rfl))
        have nC := Lib.hid (u8s_snoc (l.map Tri.c) k m.c (by rw [List.getElem?_map, hmk]; rfl))
        have nD := Lib.hid (u8s_snoc (l.map Tri.d) k m.d (by rw [List.getElem?_map, hmk]; rfl))
        have hx1 := u8_xor_nat m.a m.b hgm.1 hgm.2.1
        have hx2 := u8_xor_nat (m.a ^^^ m.b) m.c (Nat.xor_lt_two_pow (n := 8) hgm.1 hgm.2.1) hgm.2.2
        rw [show m.a ^^^ m.b ^^^ m.c = m.d from rfl] at hx2
        generalize m.a ^^^ m.b = ab at *
        generalize m.a = ma at *
        generalize m.b = mb at *
        generalize m.c = mc at *
        generalize m.d = md at *
        have p0 := hE2.cell q0
        have p1 := hE2.cell q1
        have p2 := hE2.cell q2
        have hli : (k : Int) < (l.length : Int) := by omega
        have hz2 := hE2.size
        clear hd hat hmk
        go_wp2_with (first | (at_builtin; refine wpList_append_sep rfl _ (.tmp 34) 26 5 rfl Try.underlying26 el5 wr W.heap.size _ _ _ (by rfl) oA #[.int .u8 (ma : Int)] rfl rfl (by simp [Value.oneCell']) (by omega) (by omega) hz2 ?_; intro vA wa oA1 bA kA; have eA : Ext W wa := Below.trans hE2 bA; have p1a := eA.cell q1; have zA := eA.size; obtain ⟨oB1, sAB1⟩ := kA _ _ _ _ _ _ oB sAB; obtain ⟨oC1, sAC1⟩ := kA _ _ _ _ _ _ oC sAC; obtain ⟨oD1, sAD1⟩ := kA _ _ _ _ _ _ oD sAD; clear p0 p1 p2) | (at_builtin; refine wpList_append_sep rfl _ (.tmp 42) 26 5 rfl Try.underlying26 el5 wa W.heap.size _ _ _ (by rfl) oB1 #[.int .u8 (mb : Int)] rfl rfl (by simp [Value.oneCell']) (by omega) (by omega) zA ?_; intro vB wb oB2 bB kB; have eB : Ext W wb := Below.trans eA bB; have p2b := eB.cell q2; have zB := eB.size; obtain ⟨oA2, sBA2⟩ := kB _ _ _ _ _ _ oA1 sAB1.symm; obtain ⟨oC2, sBC2⟩ := kB _ _ _ _ _ _ oC1 sBC; obtain ⟨oD2, sBD2⟩ := kB _ _ _ _ _ _ oD1 sBD; clear p1a) | (at_builtin; refine wpList_append_sep rfl _ (.tmp 50) 26 5 rfl Try.underlying26 el5 wb W.heap.size _ _ _ (by rfl) oC2 #[.int .u8 (mc : Int)] rfl rfl (by simp [Value.oneCell']) (by omega) (by omega) zB ?_; intro vC wc oC3 bC kC; have eC : Ext W wc := Below.trans eB bC; have zC := eC.size; obtain ⟨oA3, sCA3⟩ := kC _ _ _ _ _ _ oA2 sAC1.symm; obtain ⟨oB3, sCB3⟩ := kC _ _ _ _ _ _ oB2 sBC2.symm; obtain ⟨oD3, sCD3⟩ := kC _ _ _ _ _ _ oD2 sCD; clear p2b; have r0 := eC.cell q0; have r1 := eC.cell q1; have r2 := eC.cell q2) | fail)
        go_region_held3 (fun w' => w'.cell? ⟨b, off + k * 3, none⟩ = some (.int .u8 (ma : Int)) ∧ w'.cell? ⟨b, off + k * 3 + 1, none⟩ = some (.int .u8 (mb : Int)) ∧ w'.cell? ⟨b, off + k * 3 + 2, none⟩ = some (.int .u8 (mc : Int))) (first | go_keep | exact ⟨r0, r1, r2⟩) (first | (refine step_append_sep rfl _ (.tmp 70) 26 5 rfl Try.underlying26 el5 wc.drew W.heap.size _ _ _ (by rfl) oD3.drew #[.int .u8 (md : Int)] rfl rfl (by simp [Value.oneCell']) (by omega) (by omega) zC ?_; intro vD wd oD4 bD kD; have eD : Ext W wd := Below.trans eC.drew bD; obtain ⟨oA4, sDA4⟩ := kD _ _ _ _ _ _ oA3.drew sAD1.symm; obtain ⟨oB4, sDB4⟩ := kD _ _ _ _ _ _ oB3.drew sBD2.symm; obtain ⟨oC4, sDC4⟩ := kD _ _ _ _ _ _ oC3.drew sCD3.symm; have hS := And.intro (eD.cell q0) (And.intro (eD.cell q1) (eD.cell q2))) | fail)
        go_wp2_with fail
        go_roundw
        case rel => exact ⟨k + 1, by omega, by go_num, ⟨by rw [nA.out]; exact oA4, by rw [nB.out]; exact oB4, by rw [nC.out]; exact oC4, by rw [nD.out]; exact oD4⟩, ⟨sBA2.symm, sCA3.symm, sDA4.symm, sCB3.symm, sDB4.symm, sDC4.symm⟩, eD⟩
        case measure => simp [intOf]; omega
      · obtain rfl : k = l.length := by omega
        have fA : (l.map Tri.a).take l.length = l.map Tri.a := by rw [List.take_of_length_le]; simp
        have fB : (l.map Tri.b).take l.length = l.map Tri.b := by rw [List.take_of_length_le]; simp
        have fC : (l.map Tri.c).take l.length = l.map Tri.c := by rw [List.take_of_length_le]; simp
        have fD : (l.map Tri.d).take l.length = l.map Tri.d := by rw [List.take_of_length_le]; simp
        rw [fA] at oA
        rw [fB] at oB
        rw [fC] at oC
        rw [fD] at oD
        have gA : ∀ c ∈ l.map Tri.a, c < 256 := fun c hc => by obtain ⟨m, hm, rfl⟩ := List.mem_map.1 hc; exact (hgood m hm).1
        have gB : ∀ c ∈ l.map Tri.b, c < 256 := fun c hc => by obtain ⟨m, hm, rfl⟩ := List.mem_map.1 hc; exact (hgood m hm).2.1
        have gC : ∀ c ∈ l.map Tri.c, c < 256 := fun c hc => by obtain ⟨m, hm, rfl⟩ := List.mem_map.1 hc; exact (hgood m hm).2.2
        have gD : ∀ c ∈ l.map Tri.d, c < 256 := fun c hc => by obtain ⟨m, hm, rfl⟩ := List.mem_map.1 hc; exact Tri.d_lt (hgood m hm)
        have bA := BytesAt.of_own oA gA
        have bB := BytesAt.of_own oB gB
        have bC := BytesAt.of_own oC gC
        have bD := BytesAt.of_own oD gD
        have hsum := xor3 _ _ _ _ gA gB gC gD l.length (by simp) (by simp) (by simp) (by simp) (le_tri l hgood)
        have Tt := (TabAt.of_row ht).ext hE2
        have n1 := on_lt Crc.tab 0 (l.map Tri.a)
        have n2 := on_lt Crc.tab 0 (l.map Tri.b)
        have n3 := on_lt Crc.tab 0 (l.map Tri.c)
        generalize l.map Tri.a = xa at *
        generalize l.map Tri.b = xb at *
        generalize l.map Tri.c = xc at *
        generalize l.map Tri.d = xd at *
        clear hat fA fB fC fD gA gB gC gD oA oB oC oD sAB sAC sAD sBC sBD sCD
        have ix : (x : Int) < 256 := by omega
        have iy : (y : Int) < 256 := by omega
        have hxy : x ^^^ y < 256 := Nat.xor_lt_two_pow (n := 8) hx hy
        have ixy : ((x ^^^ y : Nat) : Int) < 256 := by omega
        have e1 := u8_xor_nat x y hx hy
        have e2 := u32_xor_nat (Crc.tab x) (Crc.tab y) (tab_ok x hx) (tab_ok y hy)
        rw [tab_xor] at e2
        have e3 := u32_xor_nat _ _ n1 n2
        have e4 := u32_xor_nat _ _ (Nat.xor_lt_two_pow (n := 32) n1 n2) n3
        rw [hsum] at e4
        have tx := Tt x hx
        have ty := Tt y hy
        have txy := Tt (x ^^^ y) hxy
        have Ttt := Lib.hid Tt
        clear Tt hsum
        go_wp2
        refine wp_region_class (Ext wr) (by kernel_rfl) (by kernel_rfl) (Ext.refl _).drew ?_
        iterate 2 (refine wpQuiet_step (fun K hK => ?_); go_simp; first | (refine hK _ ?_; clear hK K) | (refine ⟨_, fun _ _ => rfl, hK _ ?_⟩; clear hK K))
        refine wpQuiet_load_cell rfl 22 _ rfl w2.heap.size x rfl _ (fun w' h => h.cell tx) _ Try.underlying22 rfl ?_
        iterate 2 (refine wpQuiet_step (fun K hK => ?_); go_simp; first | (refine hK _ ?_; clear hK K) | (refine ⟨_, fun _ _ => rfl, hK _ ?_⟩; clear hK K))
        refine wpQuiet_load_cell rfl 22 _ rfl w2.heap.size y rfl _ (fun w' h => h.cell ty) _ Try.underlying22 rfl ?_
        iterate 5 (refine wpQuiet_step (fun K hK => ?_); go_simp; first | (refine hK _ ?_; clear hK K) | (refine ⟨_, fun _ _ => rfl, hK _ ?_⟩; clear hK K))
        refine wpQuiet_load_cell rfl 22 _ rfl w2.heap.size (x ^^^ y) rfl _ (fun w' h => h.cell txy) _ Try.underlying22 rfl ?_
        have Tt := Ttt.out
        iterate 3 (refine wpQuiet_step (fun K hK => ?_); go_simp; first | (refine hK _ ?_; clear hK K) | (refine ⟨_, fun _ _ => rfl, hK _ ?_⟩; clear hK K))
        refine wpQuiet_step (fun K hK => ?_)
        go_simp
        refine ⟨_, fun w' h => calls_same h (of_any w2.heap.size Crc.tab _ xa w' (Tt.ext h) tab_ok (bA.ext h)), hK _ ?_⟩; clear hK K
        iterate 1 (refine wpQuiet_step (fun K hK => ?_); go_simp; first | (refine hK _ ?_; clear hK K) | (refine ⟨_, fun _ _ => rfl, hK _ ?_⟩; clear hK K))
        refine wpQuiet_step (fun K hK => ?_)
        go_simp
        refine ⟨_, fun w' h => calls_same h (of_any w2.heap.size Crc.tab _ xb w' (Tt.ext h) tab_ok (bB.ext h)), hK _ ?_⟩; clear hK K
        iterate 2 (refine wpQuiet_step (fun K hK => ?_); go_simp; first | (refine hK _ ?_; clear hK K) | (refine ⟨_, fun _ _ => rfl, hK _ ?_⟩; clear hK K))
        refine wpQuiet_step (fun K hK => ?_)
        go_simp
        refine ⟨_, fun w' h => calls_same h (of_any w2.heap.size Crc.tab _ xc w' (Tt.ext h) tab_ok (bC.ext h)), hK _ ?_⟩; clear hK K
        iterate 2 (refine wpQuiet_step (fun K hK => ?_); go_simp; first | (refine hK _ ?_; clear hK K) | (refine ⟨_, fun _ _ => rfl, hK _ ?_⟩; clear hK K))
        refine wpQuiet_step (fun K hK => ?_)
        go_simp
        refine ⟨_, fun w' h => calls_same h (of_any w2.heap.size Crc.tab _ xd w' (Tt.ext h) tab_ok (bD.ext h)), hK _ ?_⟩; clear hK K
        iterate 3 (refine wpQuiet_step (fun K hK => ?_); go_simp; first | (refine hK _ ?_; clear hK K) | (refine ⟨_, fun _ _ => rfl, hK _ ?_⟩; clear hK K))
        refine wpQuiet_nil (fun W2 hW2 => ?_)
        go_wp2
        go_ret
        exact ⟨rfl, hE.trans (hE2.trans hW2)⟩
end Go.Proofs.Ytjkikpfccmhfmaa
