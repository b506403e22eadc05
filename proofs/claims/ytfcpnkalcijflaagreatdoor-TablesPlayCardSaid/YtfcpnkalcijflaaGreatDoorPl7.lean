/- A table, the document's table and a book side by side: each call turns its own alone. No condition. -/
import Derived.Test.YtfcpnkalcijflaaGreatDoorRg4
import Derived.Test.YtfcpnkalcijflaaGreatDoorBkZ
namespace Go.Proofs.YtfcpnkalcijflaaGreatDoor
open Go.RowKit
set_option maxHeartbeats 1000000
/-- The three side by side: what they hold, and that their blocks are their own. -/
def PlayI (K : Nat → Prop) (w0 : World) (tb rb g n : Nat) (LT LR : List En) (w : World) : Prop := ∃ hd ns ZR ZB, Ext w0 w ∧ SkAt w tb hd ns ∧ ns.map Nd.e = LT ∧ (∀ k, skB tb hd ns k → w0.heap.size ≤ k) ∧ RefZ w0.heap.size w rb LR ZR ∧ BkZ w0.heap.size g n w ZB ∧ (∀ k, skB tb hd ns k → ¬ ZR k) ∧ (∀ k, skB tb hd ns k → ¬ ZB k) ∧ (∀ k, ZR k → ¬ ZB k) ∧ ∀ k, K k → k < w.heap.size ∧ ¬ skB tb hd ns k ∧ ¬ ZR k ∧ ¬ ZB k
section
variable {K : Nat → Prop} {w0 w w' : World} {tb rb g n : Nat} {LT LR : List En}
theorem PlayI.ext (h : PlayI K w0 tb rb g n LT LR w) (hE : Ext w w') : PlayI K w0 tb rb g n LT LR w' := by
  obtain ⟨hd, ns, ZR, ZB, h0, h1, h2, h3, h4, h5, h6, h7, h8, h9⟩ := h
  exact ⟨hd, ns, ZR, ZB, h0.trans hE, h1.ext hE, h2, h3, h4.ext hE, h5.ext hE, h6, h7, h8, fun k hk => ⟨Nat.lt_of_lt_of_le (h9 k hk).1 hE.size, (h9 k hk).2⟩⟩
theorem PlayI.loose (h : PlayI K w0 tb rb g n LT LR w) : PlayI (fun _ => False) w0 tb rb g n LT LR w := by
  obtain ⟨hd, ns, ZR, ZB, h0, h1, h2, h3, h4, h5, h6, h7, h8, h9⟩ := h
  exact ⟨hd, ns, ZR, ZB, h0, h1, h2, h3, h4, h5, h6, h7, h8, fun k hk => hk.elim⟩
/-- A block that came later is none of theirs. -/
theorem PlayI.hold (h : PlayI K w0 tb rb g n LT LR w) (hE : Ext w w') {X : Nat} (h1 : w.heap.size ≤ X) (h2 : X < w'.heap.size) : PlayI (fun k => k = X) w0 tb rb g n LT LR w' := by
  obtain ⟨hd, ns, ZR, ZB, k0, k1, k2, k3, k4, k5, k6, k7, k8, k9⟩ := h
  refine ⟨hd, ns, ZR, ZB, k0.trans hE, k1.ext hE, k2, k3, k4.ext hE, k5.ext hE, k6, k7, k8, fun k hk => ?_⟩
  subst hk
  exact ⟨h2, fun hz => by have := k1.lt hz; omega, fun hz => by have := k4.lt hz; omega, fun hz => by have := k5.lt hz; omega⟩
theorem PlayI.grown (h : PlayI K w0 tb rb g n LT LR w) : Ext w0 w := by
  obtain ⟨hd, ns, ZR, ZB, h0, _⟩ := h
  exact h0
theorem PlayI.rises (h : PlayI K w0 tb rb g n LT LR w) : Rises LT := by
  obtain ⟨hd, ns, ZR, ZB, h0, h1, rfl, _⟩ := h
  exact h1.rises
theorem PlayI.fit (h : PlayI K w0 tb rb g n LT LR w) : ∀ e ∈ LT, e.mark.key.size + e.val.size ≤ 288 := by
  obtain ⟨hd, ns, ZR, ZB, h0, h1, rfl, _⟩ := h
  intro e he
  obtain ⟨n, hn, rfl⟩ := List.mem_map.1 he
  exact h1.fit n hn
theorem pl_tput (h : PlayI K w0 tb rb g n LT LR w) (x : En) (t : Int) (hl : LT.length ≤ 4096) (hs : x.small) : Calls Tryz.prog 6 #[.pointer (some ⟨tb, 0, none⟩), .agg (enRow x), .int .i64 t] w fun e w' => e = .returned (.int .i64 (putC LT x t)) ∧ PlayI K w0 tb rb g n (putL LT x t) LR w' ∧ OffB (fun k => ¬ K k) w w' := by
  obtain ⟨hd, ns, ZR, ZB, h0, h1, rfl, h3, h4, h5, h6, h7, h8, h9⟩ := h
  refine (put_any w tb hd ns x t h1 (by simpa using hl) hs).mono ?_
  rintro e w' ⟨ns', he, hS, hm, hb, hO⟩
  refine ⟨he, ⟨hd, ns', ZR, ZB, Below.trans h0 (hO.below h3 h0.size), hS, hm, fun k hk => ?_, h4.off hO h6, h5.off hO h3 h7, fun k hk hz => ?_, fun k hk hz => ?_, h8, fun k hk => ⟨Nat.lt_of_lt_of_le (h9 k hk).1 hO.size, fun hz => ?_, (h9 k hk).2.2⟩⟩, hO.mono fun k hk hK => (h9 k hK).2.1 hk⟩
  · rcases hb k hk with hk | hk
    · exact h3 k hk
    · have := h0.size; omega
  · rcases hb k hk with hk | hk
    · exact h6 k hk hz
    · have := h4.lt hz; omega
  · rcases hb k hk with hk | hk
    · exact h7 k hk hz
    · have := h5.lt hz; omega
  · rcases hb k hz with hz | hz
    · exact (h9 k hk).2.1 hz
    · have := (h9 k hk).1; omega
theorem pl_rput (h : PlayI K w0 tb rb g n LT LR w) (x : En) (t : Int) (hr : Rises LR) (hsL : ∀ e ∈ LR, e.small) (hl : LR.length ≤ 5000) (hs : x.small) : Calls Tryz.prog 7 #[.pointer (some ⟨rb, 0, none⟩), .agg (enRow x), .int .i64 t] w fun e w' => e = .returned (.int .i64 (putC LR x t)) ∧ PlayI K w0 tb rb g n LT (putL LR x t) w' ∧ OffB (fun k => ¬ K k) w w' := by
  obtain ⟨hd, ns, ZR, ZB, h0, h1, h2, h3, h4, h5, h6, h7, h8, h9⟩ := h
  have hz : ZR rb := by obtain ⟨a, cap, _, _, _, _, k5⟩ := h4; exact (k5 rb).2 (.inl rfl)
  refine (rput_any h4 hr hsL hl x hs t).mono ?_
  rintro e w' ⟨he, hb, hO, Z', hR, hZ'⟩
  have hO2 : OffB ZR w w' := hO.mono fun k hk => by rw [hk]; exact hz
  refine ⟨he, ⟨hd, ns, Z', ZB, Below.trans h0 hb, h1.off hO2 h6, h2, h3, hR, h5.off hO2 (fun q hq => h4.ge hq) h8, fun k hk hz => ?_, h7, fun k hk hz => ?_, fun k hk => ⟨Nat.lt_of_lt_of_le (h9 k hk).1 hO.size, (h9 k hk).2.1, fun hz => ?_, (h9 k hk).2.2.2⟩⟩, hO2.mono fun k hk hK => (h9 k hK).2.2.1 hk⟩
  · rcases hZ' k hz with hz | hz
    · exact h6 k hk hz
    · have := h1.lt hk; omega
  · rcases hZ' k hk with hk | hk
    · exact h8 k hk hz
    · have := h5.lt hz; omega
  · rcases hZ' k hz with hz | hz
    · exact (h9 k hk).2.2.1 hz
    · have := (h9 k hk).1; omega
theorem pl_keep {wb : World} (h : PlayI K w0 tb rb g n LT LR wb) (hE : Ext wb w) (hn : n < 900000) (a : Option Addr) (len cap : Nat) (xs : List Value) (hx : OwnC w wb.heap.size 49 4 (.slice a len cap) len xs) (hl : len ≤ 1000000) : Calls Tryz.prog 13 #[.pointer (some ⟨g, 0, none⟩), .slice a len cap] w fun e w' => e = .returned (.tuple #[]) ∧ PlayI K w0 tb rb g (n + 1) LT LR w' ∧ OffB (fun k => ¬ K k) w w' ∧ OwnC w' wb.heap.size 49 4 (.slice a len cap) len xs := by
  obtain ⟨hd, ns, ZR, ZB, h0, h1, h2, h3, h4, h5, h6, h7, h8, h9⟩ := h
  have hnew : ∀ q, (Value.slice a len cap).ownBlock = some q → wb.heap.size ≤ q := fun q hq => (hx.lt q hq).1
  refine (bookzEntry_any (h5.ext hE) hn a len cap xs (own_mono hx h0.size) hl (fun q hq hz => by have := h5.lt hz; have := hnew q hq; omega)).mono ?_
  rintro e w' ⟨he, hb, hO, Z', hB, hZ'⟩
  have h1w := h1.ext hE
  have h4w := h4.ext hE
  have h5w := h5.ext hE
  have hbig := hE.size
  refine ⟨he, ⟨hd, ns, ZR, Z', Below.trans (h0.trans hE) hb, h1w.off hO (fun k hk hz => h7 k hk hz), h2, h3, h4w.off hO (fun q hq hz => h8 q hz hq), hB, h6, fun k hk hz => ?_, fun k hk hz => ?_, fun k hk => ⟨?_, (h9 k hk).2.1, (h9 k hk).2.2.1, fun hz => ?_⟩⟩, hO.mono fun k hk hK => (h9 k hK).2.2.2 hk, hx.offB hO (fun q hq hz => by have := h5.lt hz; have := hnew q hq; omega)⟩
  · rcases hZ' k hz with hz | hz | hz
    · exact h7 k hk hz
    · have := hnew k hz; have := h1.lt hk; omega
    · have := h1.lt hk; omega
  · rcases hZ' k hz with hz | hz | hz
    · exact h8 k hk hz
    · have := hnew k hz; have := h4.lt hk; omega
    · have := h4.lt hk; omega
  · have := (h9 k hk).1; have := hO.size; omega
  · rcases hZ' k hz with hz | hz | hz
    · exact (h9 k hk).2.2.2 hz
    · have := hnew k hz; have := (h9 k hk).1; omega
    · have := (h9 k hk).1; omega
theorem pl_apart (h : PlayI K w0 tb rb g n LT LR w) (hn : n < numTop) : Calls Tryz.prog 18 #[.pointer (some ⟨g, 0, none⟩)] w fun e w' => e = .returned (.bool true) ∧ Ext w0 w' := by
  obtain ⟨hd, ns, ZR, ZB, h0, h1, h2, h3, h4, h5, _⟩ := h
  refine (bookzA_any h5 hn).mono ?_
  rintro e w' ⟨he, hb⟩
  exact ⟨he, Below.trans h0 hb⟩
theorem pl_tget (h : PlayI K w0 tb rb g n LT LR w) (key : ByteArray) (seq : Nat) : Calls Tryz.prog 8 #[.pointer (some ⟨tb, 0, none⟩), .string key, .int .u64 (seq : Int)] w (Got (getS LT key seq) w) := by
  obtain ⟨hd, ns, ZR, ZB, h0, h1, rfl, _⟩ := h
  exact get_any w tb hd ns key seq h1
theorem pl_rget (h : PlayI K w0 tb rb g n LT LR w) (hr : Rises LR) (key : ByteArray) (seq : Nat) : Calls Tryz.prog 9 #[.pointer (some ⟨rb, 0, none⟩), .string key, .int .u64 (seq : Int)] w (Got (getS LR key seq) w) := by
  obtain ⟨hd, ns, ZR, ZB, h0, h1, h2, h3, h4, _⟩ := h
  exact rget_any h4 hr key seq
theorem pl_tfrom (h : PlayI K w0 tb rb g n LT LR w) (hl : LT.length ≤ 4096) (m : Mk) (most : Int) : Calls Tryz.prog 10 #[.pointer (some ⟨tb, 0, none⟩), .agg #[.string m.key, .int .u64 (m.seq : Int), .bool m.gone], .int .i64 most] w (RFromE ((restL LT m).take most.toNat) w) := by
  obtain ⟨hd, ns, ZR, ZB, h0, h1, rfl, _⟩ := h
  refine (from_any w tb hd ns m most h1 (by simpa using hl)).mono ?_
  rintro e w' ⟨a, cap, he, _, ho, hE⟩
  exact ⟨a, cap, he, .of_own ho, hE⟩
theorem pl_rfrom (h : PlayI K w0 tb rb g n LT LR w) (hr : Rises LR) (hs : ∀ e ∈ LR, e.small) (hl : LR.length ≤ 5000) (m : Mk) (hm : m.key.size ≤ 140737488351232) (most : Int) : Calls Tryz.prog 12 #[.pointer (some ⟨rb, 0, none⟩), .agg #[.string m.key, .int .u64 (m.seq : Int), .bool m.gone], .int .i64 most] w (RFromE ((restL LR m).take most.toNat) w) := by
  obtain ⟨hd, ns, ZR, ZB, h0, h1, h2, h3, h4, _⟩ := h
  exact rfrom_any h4 hr hs hl m hm most
theorem pl_tlen (h : PlayI K w0 tb rb g n LT LR w) : Calls Tryz.prog 14 #[.pointer (some ⟨tb, 0, none⟩)] w fun e w' => e = .returned (.int .i64 (LT.length : Int)) ∧ Ext w w' := by
  obtain ⟨hd, ns, ZR, ZB, h0, h1, rfl, _⟩ := h
  refine (tlen_ok h1).mono ?_
  rintro e w' ⟨he, rfl⟩
  exact ⟨by rw [he, List.length_map], Ext.refl _⟩
theorem pl_rlen (h : PlayI K w0 tb rb g n LT LR w) : Calls Tryz.prog 15 #[.pointer (some ⟨rb, 0, none⟩)] w fun e w' => e = .returned (.int .i64 (LR.length : Int)) ∧ Ext w w' := by
  obtain ⟨hd, ns, ZR, ZB, h0, h1, h2, h3, h4, _⟩ := h
  exact rlen_any h4
theorem pl_tbytes (h : PlayI K w0 tb rb g n LT LR w) : Calls Tryz.prog 16 #[.pointer (some ⟨tb, 0, none⟩)] w fun e w' => e = .returned (.int .i64 (szL LT : Int)) ∧ Ext w w' := by
  obtain ⟨hd, ns, ZR, ZB, h0, h1, rfl, _⟩ := h
  refine (tbytes_ok h1).mono ?_
  rintro e w' ⟨he, rfl⟩
  exact ⟨by rw [he, sz_map], Ext.refl _⟩
theorem pl_rbytes (h : PlayI K w0 tb rb g n LT LR w) (hl : LR.length ≤ 5000) (hs : ∀ e ∈ LR, e.mark.key.size + e.val.size ≤ 288) : Calls Tryz.prog 17 #[.pointer (some ⟨rb, 0, none⟩)] w fun e w' => e = .returned (.int .i64 (szL LR : Int)) ∧ Ext w w' := by
  obtain ⟨hd, ns, ZR, ZB, h0, h1, h2, h3, h4, _⟩ := h
  exact rbytes_any h4 hl hs
end
end Go.Proofs.YtfcpnkalcijflaaGreatDoor
