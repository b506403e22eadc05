/- What the laws of bucketlinelaw13 share. No condition. -/
import Derived.Test.YtmjoaiepfipmaaaLM9
namespace Go.Proofs.Ytmjoaiepfipmaaa
open Go.RowKit
set_option maxRecDepth 100000
theorem great_len {l : List Ac} (h : greatB l = false) : l.length ≤ 150 := by
  unfold greatB at h
  simp only [Bool.or_eq_false_iff, decide_eq_false_iff_not] at h
  omega
theorem mk_rows (w : World) (R : List Rw) (a : Option Addr) (cap : Nat) (hr : RowIs w 2 (.slice a R.length cap) R.length (R.flatMap rwL)) (hn : R.length ≤ 50000) (hso : sortR R) (hsm : smallR R) :
    Calls Try.prog 24 #[.slice a R.length cap, .slice none 0 0] w (MkE w ⟨R, zSd⟩ 0) :=
  st_mk w R a cap hr hn hso hsm [] none 0 (RowIs.nil _ _ _ _ (fun _ => rfl)) (fun p hp => by cases hp) List.nodup_nil (by simp)
theorem StM.apart {w0 w1 w w' : World} {st mb st' mb' : Nat} {m m' : Md} (h : StM w0 w st mb m) (h' : StM w1 w' st' mb' m') (hs : w.heap.size ≤ w1.heap.size) : st ≠ st' ∧ mb ≠ mb' := by
  have a := h.lt
  have b := h'.at
  exact ⟨by omega, by omega⟩
theorem ch_ok {c : Ch} (h : c.okB = true) : keyB c.key = true ∧ valB c.val = true := by
  unfold Ch.okB at h
  simp only [Bool.and_eq_true] at h
  exact ⟨h.1, h.2.1⟩
theorem e_sz : (⟨#[]⟩ : ByteArray).size ≤ 140737488351232 := by decide
theorem m_sz : (-9223372036854775808 : Int) ≤ 0 ∧ (0 : Int) ≤ 9223372036854775807 := by decide
theorem askPut_small {k v : ByteArray} (h1 : k.size ≤ 140737488351232) (h2 : v.size ≤ 140737488351232) : (askPut k v).small := ⟨⟨(by decide : (0 : Int) ≤ 1), (by decide : (1 : Int) < 256)⟩, h1, h2, e_sz, e_sz, m_sz⟩
theorem askDel_small {k : ByteArray} (h1 : k.size ≤ 140737488351232) : (askDel k).small := ⟨⟨(by decide : (0 : Int) ≤ 2), (by decide : (2 : Int) < 256)⟩, h1, e_sz, e_sz, e_sz, m_sz⟩
theorem askGet_small {k : ByteArray} (h1 : k.size ≤ 140737488351232) : (askGet k).small := ⟨⟨(by decide : (0 : Int) ≤ 5), (by decide : (5 : Int) < 256)⟩, h1, e_sz, e_sz, e_sz, m_sz⟩
theorem askCas_small {k o v : ByteArray} (h1 : k.size ≤ 140737488351232) (h2 : o.size ≤ 140737488351232) (h3 : v.size ≤ 140737488351232) : (askCas k o v).small := ⟨⟨(by decide : (0 : Int) ≤ 3), (by decide : (3 : Int) < 256)⟩, h1, h3, h2, e_sz, m_sz⟩
theorem askNew_small {k v : ByteArray} (h1 : k.size ≤ 140737488351232) (h3 : v.size ≤ 140737488351232) : (askNew k v).small := ⟨⟨(by decide : (0 : Int) ≤ 3), (by decide : (3 : Int) < 256)⟩, h1, h3, e_sz, e_sz, m_sz⟩
theorem askBatch_small (cs : List Ch) : (askBatch cs).small := ⟨⟨(by decide : (0 : Int) ≤ 4), (by decide : (4 : Int) < 256)⟩, e_sz, e_sz, e_sz, e_sz, m_sz⟩
theorem num_set {m : List Rw} {sd : List Sv} {c : Nat} {s : Sv} (h : c < sd.length) : (⟨m, sd.set c s⟩ : Md).num c = s.num := by
  unfold Md.num
  simp only
  rw [List.getD_eq_getElem?_getD, List.getElem?_set_self h]; rfl
theorem num_zSd (m : List Rw) (c : Nat) : (⟨m, zSd⟩ : Md).num c = 0 := by
  unfold Md.num
  simp only
  rw [List.getD_eq_getElem?_getD]
  by_cases h : c < 9
  · rw [zSd_at h]; rfl
  · rw [List.getElem?_eq_none (by simp [zSd]; omega)]; rfl
theorem sortS {w0 w : World} {st mb : Nat} {m : Md} {R : List Rw} (h : StM w0 w st mb m) (e : R = m.rows) : sortR R := by rw [e]; exact h.sort
theorem chgN_any {w0 w : World} {st mb : Nat} {m : Md} (hS : StM w0 w st mb m) (x : Ak) (a : Option Addr) (cap : Nat) (h : ChsAt w x.chs a cap) (hs : x.small) (hok : x.okB = false) {v : Array Value} (hv : v = x.row (.slice a x.chs.length cap)) : Calls Try.prog 15 #[.pointer (some ⟨st, 0, none⟩), .agg v] w (ChgE [] w) := by
  obtain ⟨rs, hX, hr, _⟩ := hS
  subst hv
  have := st_changes hX x a cap h hs
  rw [show chgL rs x = [] by unfold chgL; rw [hok]; rfl] at this
  exact this
theorem alive_end (w w2 : World) (hE : Ext w w2) : Calls Try.prog 16 #[] w2 fun e w' => e = .returned (.bool true) ∧ Ext w w' := (alive_any w2).mono fun _ _ h => ⟨h.1, hE.trans h.2⟩
def zAk : Array Value := #[.int .u8 0, .string ⟨#[]⟩, .string ⟨#[]⟩, .string ⟨#[]⟩, .bool false, .string ⟨#[]⟩, .int .i64 0, .slice none 0 0]
/-- An ask is stored whole. -/
theorem st_ask {wr W : World} {b : Nat} {cs : Array Value} (hb : W.heap[b]? = some (.cells cs 26 (0, 0))) (hE : Ext wr W) (hle : wr.heap.size ≤ b) (x : Ak) (a : Option Addr) (n c : Nat) (ho : cs.size = 8 := by rfl) :
    ∃ W', (storeCells ⟨b, 0, none⟩ (x.row (.slice a n c)).toList).run Try.prog W = .ok () W' ∧ Ext wr W' ∧ W'.heap[b]? = some (.cells (x.row (.slice a n c)) 26 (0, 0)) := by
  refine ⟨W.setRow b (x.row (.slice a n c)), ?_, hE.setRow hle _, by rw [setRow_heap _ _ _ _ _ _ hb]⟩
  rw [run_storeCells_from b 26 (x.row (.slice a n c)).toList 0 cs W hb (by rw [ho]; rfl) (fun v hv => Array.all_eq_true_iff_forall_mem.1 (ask_one x a n c) v (by simpa using hv))]
  match cs, ho with
  | ⟨[a0, a1, a2, a3, a4, a5, a6, a7]⟩, _ => rfl
end Go.Proofs.Ytmjoaiepfipmaaa
