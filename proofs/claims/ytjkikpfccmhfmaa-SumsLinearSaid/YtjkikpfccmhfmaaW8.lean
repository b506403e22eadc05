import Derived.Test.YtjkikpfccmhfmaaW7
namespace Go.Proofs.Ytjkikpfccmhfmaa
open Go.RowKit
theorem rem8 (n c : Nat) (hc : c < 256) : bits .xor .u32 ((n : Int) % 256) (c : Int) = ((n % 256 ^^^ c : Nat) : Int) := by
  rw [show ((n : Int) % 256) = ((n % 256 : Nat) : Int) by simp]
  exact u32_xor_nat _ _ (by omega) (by omega)
theorem sub_inv (s : Nat) (h : s < 4294967296) : (4294967295 : Int) - s = ((Crc.inv s : Nat) : Int) := by unfold Crc.inv; omega
set_option maxRecDepth 100000 in
set_option maxHeartbeats 400000 in
theorem refOn_any (bt : Nat) (T : Nat → Nat) (s : Int) (v : Value) (bs : List Nat) (w : World) (h0 : 0 ≤ s) (h1 : s < 4294967296) (hT : TabAt w bt T) (hO : TOK T) (hB : BytesAt w v bs) :
    Calls Try.prog 20 #[.pointer (some ⟨bt, 0, none⟩), .int .u32 s, v] w fun e w' => e = .returned (.int .u32 (Crc.on T s.toNat bs : Nat)) ∧ w = w' := by
  obtain ⟨n, rfl⟩ := Int.eq_ofNat_of_zero_le h0
  have hn : n < 4294967296 := by omega
  rw [Int.toNat_natCast]
  obtain ⟨a, cap, rfl⟩ := hB.2.form
  obtain ⟨b, off, hat⟩ := hB.2.at
  obtain ⟨hb, _, hl, _⟩ := hB
  have HM := sub_inv n hn
  have hi := Crc.inv_lt n
  have hcap : bs.length ≤ 9223372036854775807 := hl
  go_enter Try.func20, Try.ntmps20
  go_wp2
  clear HM
  go_loop [7, 8, 9] (fun m i _ => ∃ k : Nat, k ≤ bs.length ∧ i = .int .i64 k ∧ m = .int .u32 (Crc.run T (Crc.inv n) (bs.take k) : Nat)) (fun _ i _ => bs.length - (intOf i).toNat)
  case atStart => exact ⟨0, Nat.zero_le _, rfl, rfl⟩
  case round =>
    obtain ⟨k, hk, rfl, rfl⟩ := hrel
    have hr : Crc.run T (Crc.inv n) (bs.take k) < 4294967296 := run_lt T hO _ _ hi (fun c h => hb c (List.mem_of_mem_take h))
    by_cases hlt : k < bs.length
    · obtain ⟨rfl, _, hd⟩ := hat (by omega)
      have hdk : w.cell? ⟨b, off + k, none⟩ = some (.int .u8 ((bs.getD k 0 : Nat) : Int)) := by rw [hd k (by omega)]; simp [u8s, hlt]
      have hbk : bs.getD k 0 < 256 := by
        have e : bs.getD k 0 = bs[k] := by simp [List.getD, hlt]
        rw [e]; exact hb _ (List.getElem_mem _)
      have HS := Lib.hid (run_snoc T (Crc.inv n) bs k hlt)
      generalize bs.getD k 0 = c at *
      generalize Crc.run T (Crc.inv n) (bs.take k) = q at *
      have hx := rem8 q c hbk
      have hxl := xor8_lt q c hbk
      have hcx := hT _ hxl
      have hy := shr8 q _ hr (hO _ hxl)
      obtain ⟨m, hm⟩ : ∃ m, m = q % 256 ^^^ c := ⟨_, rfl⟩
      have HO : Hid (Crc.one T q c = q / 256 ^^^ T m) := by rw [hm]; rfl
      rw [← hm] at hx hxl hcx hy
      clear hm
      obtain ⟨r, hr'⟩ : ∃ r, r = q / 256 ^^^ T m := ⟨_, rfl⟩
      rw [← hr'] at hy HO
      clear hr' hd hat
      go_wp2
      go_round
      case rel => exact ⟨k + 1, by omega, by go_num, by rw [HS.out, HO.out]⟩
      case measure => simp [intOf]; omega
    · have e : bs.take k = bs := List.take_of_length_le (by omega)
      rw [e] at hr ⊢
      have HM := sub_inv _ hr
      clear hat e
      go_wp2
      go_ret
      exact ⟨rfl, rfl⟩
set_option maxRecDepth 100000 in
set_option maxHeartbeats 400000 in
theorem refOf_any (bt : Nat) (T : Nat → Nat) (v : Value) (bs : List Nat) (w : World) (hT : TabAt w bt T) (hO : TOK T) (hB : BytesAt w v bs) :
    Calls Try.prog 18 #[.pointer (some ⟨bt, 0, none⟩), v] w fun e w' => e = .returned (.int .u32 (Crc.on T 0 bs : Nat)) ∧ w = w' := by
  go_enter Try.func18, Try.ntmps18
  go_wp2_with fail
  refine (refOn_any bt T 0 v bs w (by omega) (by omega) hT hO hB).mono ?_
  rintro e w' ⟨rfl, rfl⟩
  go_wp2
  go_ret
  exact ⟨rfl, rfl⟩
def TwinAt (w : World) (base : Nat) (v : Value) (bs : List Nat) : Prop := ∃ g cap, v = .slice (some ⟨g, 0, none⟩) bs.length cap ∧ bs.length + 1 ≤ cap ∧ w.ownsRow base 5 1 (.slice (some ⟨g, 0, none⟩) (bs.length + 1) cap) (bs.length + 1) (u8s (bs ++ [77]))
set_option maxRecDepth 100000 in
set_option maxHeartbeats 400000 in
theorem twin_any (v : Value) (bs : List Nat) (w : World) (hB : BytesAt w v bs) (hlen : bs.length ≤ 1000000) :
    Calls Try.prog 15 #[v] w fun e w' => ∃ u, e = .returned u ∧ TwinAt w' w.heap.size u bs ∧ Ext w w' := by
  obtain ⟨a, cap, rfl⟩ := hB.2.form
  obtain ⟨b, off, hat⟩ := hB.2.at
  obtain ⟨hb, _, hl, _⟩ := hB
  go_enter Try.func15, Try.ntmps15
  go_wp2_with (at_make; refine wpList_make_lit rfl _ _ 26 5 rfl Try.underlying26 el5 _ w.heap.size .i64 .i64 _ (bs.length + 1) rfl rfl (by simp) (by omega) (by omega) (Nat.le_refl _) ?_; intro w1 hown1 hb1)
  have hE1 : Ext w w1 := hb1
  go_loopw [3, 4] (fun t i wr => ∃ k : Nat, k ≤ bs.length ∧ i = .int .i64 k ∧ wr.ownsRow w.heap.size 5 1 t k (u8s (bs.take k)) ∧ Ext w wr) (fun _ i _ => bs.length - (intOf i).toNat)
  case atStart => exact ⟨0, by omega, rfl, hown1, hE1⟩
  case round =>
    obtain ⟨k, hk, rfl, hown, hbel⟩ := hrel
    have hsz := hbel.size
    by_cases hlt : k < bs.length
    · obtain ⟨rfl, _, hd⟩ := hat (by omega)
      have hdk : w.cell? ⟨b, off + k, none⟩ = some (.int .u8 ((bs.getD k 0 : Nat) : Int)) := by rw [hd k (by omega)]; simp [u8s, hlt]
      have hdk' := hbel.cell hdk
      have HT := Lib.hid (show u8s (bs.take (k + 1)) = u8s (bs.take k) ++ [.int .u8 ((bs.getD k 0 : Nat) : Int)] by
        rw [List.take_succ_eq_append_getElem hlt, u8s_append]; simp [u8s, List.getD, hlt])
      generalize bs.getD k 0 = c at *
      clear hdk hd hat
      go_wp2_with (at_builtin; refine wpList_append_lit rfl _ _ 26 5 rfl Try.underlying26 el5 _ w.heap.size _ _ _ rfl hown #[.int .u8 c] rfl rfl (by simp [Value.oneCell']) (by omega) (by omega) hsz ?_; intro v' w2 hown' hb2)
      go_roundw
      case rel => exact ⟨k + 1, by omega, by go_num, by rw [HT.out]; exact hown', Below.trans hbel hb2⟩
      case measure => simp [intOf]; omega
    · obtain rfl : k = bs.length := by omega
      clear hat
      rw [List.take_length] at hown
      go_wp2_with (at_builtin; refine wpList_append_lit rfl _ _ 26 5 rfl Try.underlying26 el5 _ w.heap.size _ _ _ rfl hown #[.int .u8 77] rfl rfl (by simp [Value.oneCell']) (by omega) (by omega) hsz ?_; intro v' w2 hown' hb2; obtain ⟨g, cap2, rfl, hcap2, hg2, hm2⟩ := own_form hown')
      go_ret
      exact ⟨_, rfl, ⟨g, cap2, rfl, hcap2, by rw [u8s_append]; exact hown'⟩, Below.trans hbel hb2⟩
theorem u8s_at (bs : List Nat) (i : Nat) (h : i < bs.length) : (u8s bs)[i]? = some (.int .u8 ((bs.getD i 0 : Nat) : Int)) := by simp [u8s, h]
def TwinR (w : World) (v : Value) (bs : List Nat) : Prop := ∃ g cap, v = .slice (some ⟨g, 0, none⟩) bs.length cap ∧ bs.length + 1 ≤ cap ∧ cap ≤ 9223372036854775807 ∧
  w.cell? ⟨g, bs.length, none⟩ = some (.int .u8 77) ∧ ∀ i, i < bs.length → w.cell? ⟨g, i, none⟩ = some (.int .u8 ((bs.getD i 0 : Nat) : Int))
theorem TwinR.of {w : World} {base : Nat} {v : Value} {bs : List Nat} (h : TwinAt w base v bs) : TwinR w v bs := by
  obtain ⟨g, cap, rfl, hc, ho⟩ := h
  obtain ⟨g', cap', he, _, _, hm⟩ := own_form ho
  injection he with _ _ h3
  subst h3
  refine ⟨g, cap, rfl, hc, hm, ?_, fun i hi => ?_⟩
  · rw [ho.cellAt _ (by omega)]; simp [u8s]
  · rw [ho.cellAt _ (by omega), u8s_append, List.getElem?_append_left (by simp [u8s, hi]), u8s_at _ _ hi]
theorem TwinR.ext {w w' : World} {v : Value} {bs : List Nat} (h : TwinR w v bs) (he : Ext w w') : TwinR w' v bs := by
  obtain ⟨g, cap, rfl, hc, hm, h1, h2⟩ := h
  exact ⟨g, cap, rfl, hc, hm, he.cell h1, fun i hi => he.cell (h2 i hi)⟩
theorem TwinR.bytes {w : World} {v : Value} {bs : List Nat} (h : TwinR w v bs) (hb : ∀ c ∈ bs, c < 256) : BytesAt w v bs := by
  obtain ⟨g, cap, rfl, hc, hm, h1, h2⟩ := h
  refine ⟨hb, by simp [u8s], by omega, .inr ⟨g, 0, cap, rfl, by omega, fun i hi => ?_⟩⟩
  rw [Nat.zero_add, h2 i (by omega), u8s_at _ _ (by omega)]
theorem Ext.drewN {w w' : World} (h : Ext w w') : ∀ n, Ext w (w'.drewN n)
  | _ => ⟨h.os, h.tape, h.output, h.size, h.block⟩
set_option maxRecDepth 100000 in
set_option maxHeartbeats 400000 in
theorem left_any (v u : Value) (bs : List Nat) (w : World) (hT : TwinR w v bs) (hB : BytesAt w u bs) :
    Calls Try.prog 21 #[v, u] w fun e w' => e = .returned (.bool true) ∧ Ext w w' := by
  obtain ⟨a, capu, rfl⟩ := hB.2.form
  obtain ⟨b, off, hat⟩ := hB.2.at
  obtain ⟨g, cap, rfl, hc, hm, h77, hcell⟩ := hT
  have hl : bs.length ≤ 9223372036854775807 := by omega
  have hne : (((bs.length : Nat) : Int) != ((bs.length : Nat) : Int)) = false := by simp
  have hcl : decide (cap ≤ bs.length) = false := by simp; omega
  go_enter Try.func21, Try.ntmps21
  go_wp2
  go_loopw [5] (fun i wr => ∃ k : Nat, k ≤ bs.length ∧ i = .int .i64 k ∧ Ext w wr) (fun i _ => bs.length - (intOf i).toNat)
  case atStart => exact ⟨0, by omega, rfl, Ext.refl _⟩
  case round =>
    obtain ⟨k, hk, rfl, hbel⟩ := hrel
    by_cases hlt : k < bs.length
    · obtain ⟨rfl, _, hd⟩ := hat (by omega)
      have hdk := hd k (by omega)
      rw [u8s_at _ _ hlt] at hdk
      have hdk' := hbel.cell hdk
      have hck' := hbel.cell (hcell k hlt)
      have hli : (k : Int) < (bs.length : Int) := by omega
      generalize bs.getD k 0 = c at *
      clear hdk hd hat hcell
      go_wp2
      go_quiet (fail)
      go_wp2
      go_roundw
      case rel => exact ⟨k + 1, by omega, by go_num, hbel.drewN _⟩
      case measure => simp [intOf]; omega
    · obtain rfl : k = bs.length := by omega
      clear hat hcell
      have h77' := hbel.cell h77
      go_wp2
      go_ret
      exact ⟨rfl, hbel⟩
end Go.Proofs.Ytjkikpfccmhfmaa
