/- Acts as parameters, and great. No condition. -/
import Derived.Test.YtfcpnkalcijflaaGreatDoorPl7
namespace Go.Proofs.YtfcpnkalcijflaaGreatDoor
open Go.RowKit
set_option maxRecDepth 100000
set_option maxHeartbeats 2000000
structure Ac7 where
  kind : Nat
  x : En
  n : Int
def Ac7.row (a : Ac7) : Array Value := #[.int .u8 (a.kind : Int), .string a.x.mark.key, .int .u64 (a.x.mark.seq : Int), .bool a.x.mark.gone, .string a.x.val, .int .i64 a.n]
def Ac7.cells (a : Ac7) : List Value := a.row.toList
theorem act_one (a : Ac7) : a.row.all (·.oneCell') = true := by kernel_rfl
theorem info_act : (Tryz.prog.info? 51).map (·.size) = some 6 := by kernel_rfl
def Ac7.good (a : Ac7) : Prop := a.kind < 256 ∧ a.x.small
theorem okc_act {w : World} {n : Nat} {cs : List Value} (h : OKC Tryz.prog w n 51 cs) : ∃ x : Ac7, cs = x.cells ∧ x.good := by
  have c6 : Tryz.prog.cellsOf 51 = 6 := by kernel_rfl
  cases n with
  | zero => exact h.elim
  | succ n =>
    unfold OKC at h
    rw [Tryz.underlying51] at h
    simp only [c6] at h
    obtain ⟨hl, hi⟩ := h
    match cs, hl with
    | [v0, v1, v2, v3, v4, v5], _ =>
      simp [show Tryz.prog.cellsOf 5 = 1 by kernel_rfl, show Tryz.prog.cellsOf 49 = 4 by kernel_rfl, show Tryz.prog.cellsOf 3 = 1 by kernel_rfl] at hi
      obtain ⟨y0, y1, y2⟩ := hi
      obtain ⟨i0, e0, w0⟩ := okc_int Tryz.underlying5 y0
      obtain ⟨x, e1, hx⟩ := okc_entry y1
      obtain ⟨i2, e2, w2⟩ := okc_int Tryz.underlying3 y2
      have b0 := wf_u8 w0
      obtain ⟨n0, rfl⟩ := Int.eq_ofNat_of_zero_le b0.1
      refine ⟨⟨n0, x, i2⟩, ?_, by simp only; omega, hx.1⟩
      simp [enL, enRow] at e0 e1 e2
      obtain ⟨a1, a2, a3, a4⟩ := e1
      unfold Ac7.cells Ac7.row
      rw [e0, e2, a1, a2, a3, a4]
theorem okc_acts {w : World} {v : Value} (h : ∃ n, OKC Tryz.prog w n 22 [v]) : ∃ (l : List Ac7) (a : Option Addr) (cap : Nat), v = .slice a l.length cap ∧ (∀ x ∈ l, x.good) ∧ RowIs w 6 (.slice a l.length cap) l.length (l.flatMap Ac7.cells) ∧ l.length ≤ 140737488351232 := by
  obtain ⟨n, h⟩ := h
  cases n with
  | zero => exact h.elim
  | succ n =>
    obtain ⟨l, hg, hr, hby⟩ := OKC.row Ac7.cells Ac7.good 6 Tryz.underlying22 (by kernel_rfl) (by decide) (fun m => rfl) (fun cs hcs => okc_act hcs) h
    obtain ⟨a, cap, hv⟩ := hr.form
    subst hv
    rw [show Tryz.prog.bytesOf 51 = 64 by kernel_rfl] at hby
    exact ⟨l, a, cap, rfl, hg, hr, by omega⟩
theorem act_range {w : World} {l : List Ac7} {b off : Nat} (hd : ∀ i, i < l.length * 6 → w.cell? ⟨b, off + i, none⟩ = (l.flatMap Ac7.cells)[i]?) {k : Nat} {c : Ac7} (h : l[k]? = some c) : w.rangeAt b (off + k * 6) c.cells := fun r v hv => by
  have hr : r < 6 := (List.getElem?_eq_some_iff.1 hv).1
  have hk : k < l.length := (List.getElem?_eq_some_iff.1 h).1
  rw [Nat.add_assoc, hd (k * 6 + r) (by omega), flatMap_at Ac7.cells 6 (by decide) (fun _ => rfl) l k c h r hr _ rfl]; exact hv
def GreatE (n : Nat) (w : World) (e : Ending) (w' : World) : Prop := ∃ b : Bool, e = .returned (.bool b) ∧ (b = false → n ≤ 300) ∧ Ext w w'
theorem great_any (w : World) (l : List Ac7) (a : Option Addr) (cap n : Nat) (hn : n = l.length) (hg : ∀ x ∈ l, x.good) (hl : n ≤ 140737488351232) (h1 : RowIs w 6 (.slice a n cap) n (l.flatMap Ac7.cells)) :
    Calls Tryz.prog 4 #[.slice a n cap] w (GreatE n w) := by
  have hn' := Lib.hid hn
  have hg' := Lib.hid hg
  have hR' := Lib.hid h1
  clear hn hg h1
  go_enter Tryz.func4, Tryz.ntmps4
  go_wp2_with fail
  go_loopw [3, 4] (fun s i wr => ∃ k N : Nat, k ≤ n ∧ s = .int .i64 (N : Int) ∧ i = .int .i64 k ∧ N ≤ 40000 ∧ Ext w wr) (fun _ i _ => n - (intOf i).toNat)
  case atStart => exact ⟨0, 0, by omega, rfl, rfl, by omega, Ext.refl _⟩
  case round =>
    obtain ⟨k, N, hk, rfl, rfl, hN, hE⟩ := hrel
    by_cases hlt : k < n
    · have hli : (k : Int) < (n : Int) := by omega
      obtain ⟨c, hc⟩ : ∃ c, l[k]? = some c := ⟨_, List.getElem?_eq_getElem (by rw [← hn'.out]; exact hlt)⟩
      obtain ⟨_, g1, g2⟩ := hg'.out c (List.mem_of_getElem? hc)
      obtain ⟨b, off, hat⟩ := (hR'.out.ext hE).at
      obtain ⟨rfl, _, hd⟩ := hat (by omega)
      have p := act_range (by rw [← hn'.out]; exact hd) hc
      have p1 := p 1 _ rfl
      have p4 := p 4 _ rfl
      clear hd hat p hc
      have e0 : IntKind.i64.wrap ((N : Int) + 1) = (N : Int) + 1 := by rw [IntKind.wrap_i64]; omega
      have e1 : IntKind.i64.wrap ((N : Int) + 1 + (c.x.mark.key.size : Int)) = (N : Int) + 1 + (c.x.mark.key.size : Int) := by rw [IntKind.wrap_i64]; omega
      have e2 : IntKind.i64.wrap ((N : Int) + 1 + (c.x.mark.key.size : Int) + (c.x.val.size : Int)) = (N : Int) + 1 + (c.x.mark.key.size : Int) + (c.x.val.size : Int) := by rw [IntKind.wrap_i64]; omega
      by_cases hb : 40000 < N + 1 + c.x.mark.key.size + c.x.val.size
      · have hbi : (40000 : Int) < (N : Int) + 1 + (c.x.mark.key.size : Int) + (c.x.val.size : Int) := by omega
        go_wp2_with fail
        go_still (by kernel_rfl)
        change Exit.then _ _ _ _ wr.drew
        go_wp2_with fail
        go_ret
        exact ⟨true, rfl, fun h => (nomatch h), hE.drew⟩
      · have hbi : ¬ (40000 : Int) < (N : Int) + 1 + (c.x.mark.key.size : Int) + (c.x.val.size : Int) := by omega
        go_wp2_with fail
        go_still (by kernel_rfl)
        change Exit.then _ _ _ _ wr.drew
        go_wp2_with fail
        go_roundw
        case rel => exact ⟨k + 1, N + 1 + c.x.mark.key.size + c.x.val.size, by omega, by go_num, by go_num, by omega, hE.drew⟩
        case measure => simp [intOf]; omega
    · have hli : ¬ (k : Int) < (n : Int) := by omega
      go_wp2_with fail
      go_ret
      exact ⟨_, rfl, fun h => by have := of_decide_eq_false h; omega, hE⟩
end Go.Proofs.YtfcpnkalcijflaaGreatDoor
