/- The law file's asks; yes. No condition. -/
import Derived.Test.YtmjoaiepfipmaaaMod19
import Derived.Deep.MidRow
namespace Go.Proofs.Ytmjoaiepfipmaaa
open Go.RowKit
set_option maxRecDepth 100000
set_option maxHeartbeats 1000000
def eB : ByteArray := ⟨#[]⟩
def askPut (k v : ByteArray) : Ak := ⟨1, k, v, ⟨#[]⟩, false, ⟨#[]⟩, 0, []⟩
def askGet (k : ByteArray) : Ak := ⟨5, k, ⟨#[]⟩, ⟨#[]⟩, false, ⟨#[]⟩, 0, []⟩
def askDel (k : ByteArray) : Ak := ⟨2, k, ⟨#[]⟩, ⟨#[]⟩, false, ⟨#[]⟩, 0, []⟩
def askCas (k o v : ByteArray) : Ak := ⟨3, k, v, o, false, ⟨#[]⟩, 0, []⟩
def Ak.nil (x : Ak) : Array Value := x.row (.slice none 0 0)
theorem put_mk (w : World) (k v : ByteArray) : Calls Try.prog 26 #[.string k, .string v] w fun e w' => e = .returned (.agg (askPut k v).nil) ∧ Ext w w' := by
  go_enter Try.func26, Try.ntmps26
  go_wp2_with fail
  have hE : Ext w (w.alloc (.cells (askPut k v).nil 26)) := (Ext.refl _).alloc _
  have hset := heap_alloc_new w (.cells (askPut k v).nil 26)
  obtain ⟨b0, b1, b2, b3, b4, b5, b6, b7⟩ := askc hset
  simp only [askPut, Ak.nil, Ak.row] at hE b0 b1 b2 b3 b4 b5 b6 b7
  generalize w.alloc _ = W at *
  exact bodyPost_ret (v := .agg (askPut k v).nil) (by simp [results, Try.results26, go_sem, b0, b1, b2, b3, b4, b5, b6, b7, askPut, Ak.nil, Ak.row]) rfl ⟨rfl, hE⟩
theorem get_mk (w : World) (k : ByteArray) : Calls Try.prog 28 #[.string k] w fun e w' => e = .returned (.agg (askGet k).nil) ∧ Ext w w' := by
  go_enter Try.func28, Try.ntmps28
  go_wp2_with fail
  have hE : Ext w (w.alloc (.cells (askGet k).nil 26)) := (Ext.refl _).alloc _
  have hset := heap_alloc_new w (.cells (askGet k).nil 26)
  obtain ⟨b0, b1, b2, b3, b4, b5, b6, b7⟩ := askc hset
  simp only [askGet, Ak.nil, Ak.row] at hE b0 b1 b2 b3 b4 b5 b6 b7
  generalize w.alloc _ = W at *
  exact bodyPost_ret (v := .agg (askGet k).nil) (by simp [results, Try.results28, go_sem, b0, b1, b2, b3, b4, b5, b6, b7, askGet, Ak.nil, Ak.row]) rfl ⟨rfl, hE⟩
theorem del_mk (w : World) (k : ByteArray) : Calls Try.prog 29 #[.string k] w fun e w' => e = .returned (.agg (askDel k).nil) ∧ Ext w w' := by
  go_enter Try.func29, Try.ntmps29
  go_wp2_with fail
  have hE : Ext w (w.alloc (.cells (askDel k).nil 26)) := (Ext.refl _).alloc _
  have hset := heap_alloc_new w (.cells (askDel k).nil 26)
  obtain ⟨b0, b1, b2, b3, b4, b5, b6, b7⟩ := askc hset
  simp only [askDel, Ak.nil, Ak.row] at hE b0 b1 b2 b3 b4 b5 b6 b7
  generalize w.alloc _ = W at *
  exact bodyPost_ret (v := .agg (askDel k).nil) (by simp [results, Try.results29, go_sem, b0, b1, b2, b3, b4, b5, b6, b7, askDel, Ak.nil, Ak.row]) rfl ⟨rfl, hE⟩
theorem cas_mk (w : World) (k o v : ByteArray) : Calls Try.prog 27 #[.string k, .string o, .string v] w fun e w' => e = .returned (.agg (askCas k o v).nil) ∧ Ext w w' := by
  go_enter Try.func27, Try.ntmps27
  go_wp2_with fail
  have hE : Ext w (w.alloc (.cells (askCas k o v).nil 26)) := (Ext.refl _).alloc _
  have hset := heap_alloc_new w (.cells (askCas k o v).nil 26)
  obtain ⟨b0, b1, b2, b3, b4, b5, b6, b7⟩ := askc hset
  simp only [askCas, Ak.nil, Ak.row] at hE b0 b1 b2 b3 b4 b5 b6 b7
  generalize w.alloc _ = W at *
  exact bodyPost_ret (v := .agg (askCas k o v).nil) (by simp [results, Try.results27, go_sem, b0, b1, b2, b3, b4, b5, b6, b7, askCas, Ak.nil, Ak.row]) rfl ⟨rfl, hE⟩
theorem chs_nil (w : World) : ChsAt w [] none 0 := ⟨RowIs.nil _ _ _ _ (fun _ => rfl), by simp, fun c hc => by cases hc⟩
/-- yes: is an ask done, and the answer yes? -/
def YesE (w0 w : World) (st mb : Nat) (r : An) (e : Ending) (w' : World) : Prop := e = .returned (.bool (decide (r.err = 0) && r.yes)) ∧ StM w0 w' st mb r.m ∧ OffB (fun i => i = st ∨ i = mb) w w'
theorem yes_any {w0 w : World} {st mb : Nat} {m : Md} (hS : StM w0 w st mb m) (hg : smallR m.rows) (hrn : m.rows.length ≤ 50000) (c n : Nat) (x : Ak) (a : Option Addr) (cap : Nat) (h : ChsAt w x.chs a cap) (hs : x.small) :
    Calls Try.prog 25 #[.pointer (some ⟨st, 0, none⟩), .int .u8 (c : Int), .int .u32 (n : Int), .agg (x.row (.slice a x.chs.length cap))] w (YesE w0 w st mb (m.ans c n x)) := by
  obtain ⟨W, hW⟩ : ∃ W, W = w.alloc (.cells (x.row (.slice a x.chs.length cap)) 26) := ⟨_, rfl⟩
  have hE : Ext w W := by rw [hW]; exact (Ext.refl _).alloc _
  have hX : W.heap[w.heap.size]? = some (.cells (x.row (.slice a x.chs.length cap)) 26 (0, 0)) := by rw [hW]; exact heap_alloc_new w _
  obtain ⟨z0, z1, z2, z3, z4, z5, z6, z7⟩ := askc hX
  have hcall := do_all (hS.ext hE) hg hrn c n x a cap (h.ext hE) hs
  obtain ⟨⟨E, y, rows, er, m'⟩, hr⟩ : ∃ r, r = m.ans c n x := ⟨_, rfl⟩
  rw [← hr] at hcall ⊢
  have hW' := Lib.hid hW
  unfold Ak.row at hcall hW'
  have hcall' := Lib.hid hcall
  clear hW hX hcall hr hS
  unfold Ak.row
  go_enter Try.func25, Try.ntmps25
  go_upto_region 1 with fail
  rw [← hW'.out]
  clear hW'
  go_wp2_with fail
  refine hcall'.out.mono ?_
  rintro e w2 ⟨ra, rc, rfl, _, _, hS2, hO2⟩
  simp only at hS2
  clear z0 z1 z2 z3 z4 z5 z6 z7 hcall'
  have hS2' := Lib.hid hS2
  have hO3 := Lib.hid ((OffB.of_ext (B := fun i => i = st ∨ i = mb) hE).trans hO2)
  clear hS2 hO2 hE
  by_cases he : er = 0
  · subst he
    cases y
    all_goals
      go_wp2_with fail
      go_ret
      exact ⟨rfl, hS2'.out.ext ((Ext.refl w2).alloc _), hO3.out.trans (.of_ext ((Ext.refl w2).alloc _))⟩
  · go_wp2_with fail
    go_ret
    exact ⟨by simp [he], hS2'.out.ext ((Ext.refl w2).alloc _), hO3.out.trans (.of_ext ((Ext.refl w2).alloc _))⟩
end Go.Proofs.Ytmjoaiepfipmaaa
