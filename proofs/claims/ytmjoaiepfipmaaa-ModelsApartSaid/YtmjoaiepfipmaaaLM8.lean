/- Asks of the law file: may they be asked; what they are answered; alive's states. No condition. -/
import Derived.Test.YtmjoaiepfipmaaaLM5
import Derived.Test.YtmjoaiepfipmaaaLM6
namespace Go.Proofs.Ytmjoaiepfipmaaa
open Go.RowKit
set_option maxRecDepth 100000
theorem e0 : (⟨#[]⟩ : ByteArray).toList.isEmpty = true := (empty_iff _).2 rfl
theorem ok_put (k v : ByteArray) : (askPut k v).okB = (keyB k && valB v) := by
  unfold Ak.okB askPut Ak.putB
  simp
theorem ok_get (k : ByteArray) : (askGet k).okB = keyB k := by
  unfold Ak.okB askGet Ak.plainB
  simp
theorem ok_del (k : ByteArray) : (askDel k).okB = keyB k := by
  unfold Ak.okB askDel Ak.plainB
  simp
theorem ok_cas (k o v : ByteArray) : (askCas k o v).okB = (keyB k && (valB v && valB o)) := by
  unfold Ak.okB askCas Ak.casB
  simp
/-- A cas that makes a new row. -/
def askNew (k v : ByteArray) : Ak := ⟨3, k, v, ⟨#[]⟩, true, ⟨#[]⟩, 0, []⟩
theorem valB_e : valB ⟨#[]⟩ = true := rfl
theorem ok_new (k v : ByteArray) : (askNew k v).okB = (keyB k && valB v) := by
  unfold Ak.okB askNew Ak.casB
  simp [valB_e]
def askBatch (cs : List Ch) : Ak := ⟨4, ⟨#[]⟩, ⟨#[]⟩, ⟨#[]⟩, false, ⟨#[]⟩, 0, cs⟩
theorem ok_batch (cs : List Ch) : (askBatch cs).okB = (decide (0 < cs.length) && (decide (cs.length ≤ 16) && chsB cs)) := by
  unfold Ak.okB askBatch Ak.batchB
  simp
theorem ans_ok {m : Md} {c n : Nat} {x : Ak} (h1 : 1 ≤ c) (h8 : c ≤ 8) (hok : x.okB = true) (hlt : m.num c < n) : m.ans c n x = ⟨0, yesW m.rows x, rowsW m.rows x, 0, m.act c n x⟩ := by
  unfold Md.ans
  rw [if_neg (by rintro (h | h | h | h) <;> first | omega | (rw [hok] at h; cases h)), if_neg (by rintro ⟨h, _⟩; omega), if_neg (by omega)]
theorem ans_bad {m : Md} {c n : Nat} {x : Ak} (h : badA c n x) : m.ans c n x = ⟨0, false, [], 1, m⟩ := by
  unfold Md.ans; rw [if_pos h]
theorem ans_same {m : Md} {c n : Nat} {x : Ak} (h1 : 1 ≤ c) (h8 : c ≤ 8) (hn : n ≠ 0) (hok : x.okB = true) (he : n = m.num c) (hk : keptP x) : m.ans c n x = ⟨(m.sv c).e, (m.sv c).yes, [], 10, m⟩ := by
  unfold Md.ans
  rw [if_neg (by rintro (h | h | h | h) <;> first | omega | (rw [hok] at h; cases h)), if_pos ⟨he, hk⟩]
theorem ans_old {m : Md} {c n : Nat} {x : Ak} (h1 : 1 ≤ c) (h8 : c ≤ 8) (hn : n ≠ 0) (hok : x.okB = true) (hle : n ≤ m.num c) (hk : ¬ (n = m.num c ∧ keptP x)) : m.ans c n x = ⟨0, false, [], 10, m⟩ := by
  unfold Md.ans
  rw [if_neg (by rintro (h | h | h | h) <;> first | omega | (rw [hok] at h; cases h)), if_neg hk, if_pos hle]
theorem kept_of {x : Ak} (h : x.kind = 1 ∨ x.kind = 2 ∨ x.kind = 3 ∨ x.kind = 4) : keptP x := ⟨by omega, by omega⟩
theorem act_kept {m : Md} {c n : Nat} {x : Ak} (h : keptP x) : m.act c n x = ⟨chsW m.rows (chgW m.rows x), m.sd.set c ⟨n, 0, yesW m.rows x⟩⟩ := by unfold Md.act; rw [if_pos h]
theorem act_look {m : Md} {c n : Nat} {x : Ak} (h : ¬ keptP x) (h1 : x.kind = 5 ∨ x.kind = 6) : m.act c n x = m := by
  unfold Md.act
  rw [if_neg h]
  have : chgW m.rows x = [] := by
    unfold chgW
    rw [if_neg (by omega), if_neg (by omega), if_neg (by omega), if_neg (by omega)]
  rw [this]; rfl
/-- An ask, with its answer known. -/
theorem do_b {w0 w : World} {st mb : Nat} {m : Md} (hS : StM w0 w st mb m) (hg : smallR m.rows) (hrn : m.rows.length ≤ 50000) {c n : Nat} {x : Ak} {a : Option Addr} {cap : Nat} (h : ChsAt w x.chs a cap) (hs : x.small) {E : Int} {y : Bool} {l : List Rw} {err : Int} {m' : Md} (hr : m.ans c n x = ⟨E, y, l, err, m'⟩)
    {ci ni : Int} {v : Array Value} (hc : ci = (c : Int)) (hn : ni = (n : Int)) (hv : v = x.row (.slice a x.chs.length cap)) :
    Calls Try.prog 12 #[.pointer (some ⟨st, 0, none⟩), .int .u8 ci, .int .u32 ni, .agg v] w (DoE w0 w st mb E y l err m') := by
  subst hc hn hv
  have := do_all hS hg hrn c n x a cap h hs
  rw [hr] at this
  exact this
def YesB (w0 w : World) (st mb : Nat) (b : Bool) (m : Md) (e : Ending) (w' : World) : Prop := e = .returned (.bool b) ∧ StM w0 w' st mb m ∧ OffB (fun i => i = st ∨ i = mb) w w'
theorem yes_b {w0 w : World} {st mb : Nat} {m : Md} (hS : StM w0 w st mb m) (hg : smallR m.rows) (hrn : m.rows.length ≤ 50000) {c n : Nat} {x : Ak} {a : Option Addr} {cap : Nat} (h : ChsAt w x.chs a cap) (hs : x.small) {E : Int} {y : Bool} {l : List Rw} {err : Int} {m' : Md} (hr : m.ans c n x = ⟨E, y, l, err, m'⟩) {b : Bool} (hb : (decide (err = 0) && y) = b)
    {ci ni : Int} {v : Array Value} (hc : ci = (c : Int)) (hn : ni = (n : Int)) (hv : v = x.row (.slice a x.chs.length cap)) :
    Calls Try.prog 25 #[.pointer (some ⟨st, 0, none⟩), .int .u8 ci, .int .u32 ni, .agg v] w (YesB w0 w st mb b m') := by
  subst hc hn hv
  have := yes_any hS hg hrn c n x a cap h hs
  rw [hr] at this
  refine this.mono ?_
  rintro e w' ⟨he, h1, h2⟩
  exact ⟨by rw [he, ← hb], h1, h2⟩
theorem OffB.row {B : Nat → Prop} {w w' : World} (h : OffB B w w') {b : Nat} {o : Obj} (hb : w.heap[b]? = some o) (hn : ¬ B b) : w'.heap[b]? = some o := (h.block b (Array.getElem?_eq_some_iff.1 hb).1 hn).trans hb
theorem StM.lt {w0 w : World} {st mb : Nat} {m : Md} (h : StM w0 w st mb m) : st < w.heap.size ∧ mb < w.heap.size := ⟨h.at.2.2.1, h.at.2.2.2.1⟩
/-- The blocks of a state are not older than the ground. -/
theorem StM.off_below {w0 w w' : World} {st mb : Nat} {m : Md} (h : StM w0 w st mb m) (ho : OffB (fun i => i = st ∨ i = mb) w w') : Ext w0 w' :=
  Below.trans h.ground (ho.below (fun k hk => by have := h.at; rcases hk with rfl | rfl <;> omega) h.ground.size)
-- alive's states
def rA (v : ByteArray) : Rw := ⟨⟨#[97]⟩, v⟩
def s97 : Rw := ⟨⟨#[97]⟩, ⟨#[120]⟩⟩
def al0 : Md := ⟨[], zSd⟩
def al1 : Md := ⟨[⟨⟨#[97]⟩, ⟨#[120]⟩⟩], zSd.set 1 ⟨1, 0, true⟩⟩
def al2 : Md := ⟨[⟨⟨#[97]⟩, ⟨#[122]⟩⟩], (zSd.set 1 ⟨1, 0, true⟩).set 2 ⟨5, 0, true⟩⟩
def al3 : Md := ⟨[⟨⟨#[97]⟩, ⟨#[122]⟩⟩], ((zSd.set 1 ⟨1, 0, true⟩).set 2 ⟨5, 0, true⟩).set 2 ⟨6, 0, false⟩⟩
def al4 : Md := ⟨[⟨⟨#[97]⟩, ⟨#[122]⟩⟩], (((zSd.set 1 ⟨1, 0, true⟩).set 2 ⟨5, 0, true⟩).set 2 ⟨6, 0, false⟩).set 2 ⟨7, 0, false⟩⟩
def al5 : Md := ⟨[⟨⟨#[98]⟩, ⟨#[49]⟩⟩], ((((zSd.set 1 ⟨1, 0, true⟩).set 2 ⟨5, 0, true⟩).set 2 ⟨6, 0, false⟩).set 2 ⟨7, 0, false⟩).set 2 ⟨8, 0, true⟩⟩
theorem one_small (k v : ByteArray) (h : keyB k = true) (h2 : valB v = true) : smallR [⟨k, v⟩] := by
  intro r hr
  obtain rfl : r = ⟨k, v⟩ := by simpa using hr
  exact ⟨h, h2⟩
def alB : List Ch := [⟨⟨#[98]⟩, ⟨#[49]⟩, false⟩, ⟨⟨#[97]⟩, ⟨#[]⟩, true⟩]
theorem a01 : al0.ans 1 1 (askPut ⟨#[97]⟩ ⟨#[120]⟩) = ⟨0, true, [], 0, al1⟩ := by
  rw [ans_ok (by decide) (by decide) (by rw [ok_put]; rfl) (by decide), act_kept (kept_of (.inl rfl))]; rfl
theorem a12 : al1.ans 1 1 (askPut ⟨#[97]⟩ ⟨#[121]⟩) = ⟨0, true, [], 10, al1⟩ := by
  rw [ans_same (by decide) (by decide) (by decide) (by rw [ok_put]; rfl) (by decide) (kept_of (.inl rfl))]; rfl
theorem nk_get (k : ByteArray) : ¬ keptP (askGet k) := fun h => h.1 rfl
theorem a13 : al1.ans 1 2 (askGet ⟨#[97]⟩) = ⟨0, true, [⟨⟨#[97]⟩, ⟨#[120]⟩⟩], 0, al1⟩ := by
  rw [ans_ok (by decide) (by decide) (by rw [ok_get]; rfl) (by decide), act_look (nk_get _) (.inl rfl)]; rfl
theorem a14 : al1.ans 1 1 (askGet ⟨#[97]⟩) = ⟨0, false, [], 10, al1⟩ := by
  rw [ans_old (by decide) (by decide) (by decide) (by rw [ok_get]; rfl) (by decide) (fun h => nk_get _ h.2)]
theorem cas_eq (k o v : ByteArray) (r : Rw) (h : r.val = o) : casW (some r) (askCas k o v) = true := by
  unfold casW askCas; simp [h]
theorem a15 : al1.ans 2 5 (askCas ⟨#[97]⟩ ⟨#[120]⟩ ⟨#[122]⟩) = ⟨0, true, [], 0, al2⟩ := by
  rw [ans_ok (by decide) (by decide) (by rw [ok_cas]; rfl) (by decide), act_kept (kept_of (.inr (.inr (.inl rfl))))]
  have hf : findW al1.rows (askCas ⟨#[97]⟩ ⟨#[120]⟩ ⟨#[122]⟩).key = some ⟨⟨#[97]⟩, ⟨#[120]⟩⟩ := rfl
  have h1 : casW (findW al1.rows (askCas ⟨#[97]⟩ ⟨#[120]⟩ ⟨#[122]⟩).key) (askCas ⟨#[97]⟩ ⟨#[120]⟩ ⟨#[122]⟩) = true := by rw [hf]; exact cas_eq _ _ _ _ rfl
  have h2 : yesW al1.rows (askCas ⟨#[97]⟩ ⟨#[120]⟩ ⟨#[122]⟩) = true := by
    unfold yesW
    rw [if_neg (by decide), if_neg (by decide), if_pos (by decide), h1]
  have h3 : chgW al1.rows (askCas ⟨#[97]⟩ ⟨#[120]⟩ ⟨#[122]⟩) = [⟨⟨#[97]⟩, ⟨#[122]⟩, false⟩] := by
    unfold chgW
    rw [if_neg (by decide), if_neg (by decide), if_neg (by decide), if_pos (by decide), if_pos h1]; rfl
  rw [h2, h3]; rfl
theorem a16 : al2.ans 2 6 (askNew ⟨#[97]⟩ ⟨#[113]⟩) = ⟨0, false, [], 0, al3⟩ := by
  rw [ans_ok (by decide) (by decide) (by rw [ok_new]; rfl) (by decide), act_kept (kept_of (.inr (.inr (.inl rfl))))]; rfl
theorem a17 : al3.ans 2 7 (askDel ⟨#[98]⟩) = ⟨0, false, [], 0, al4⟩ := by
  rw [ans_ok (by decide) (by decide) (by rw [ok_del]; rfl) (by decide), act_kept (kept_of (.inr (.inl rfl)))]; rfl
theorem a18 : al4.ans 2 8 (askBatch alB) = ⟨0, true, [], 0, al5⟩ := by
  rw [ans_ok (by decide) (by decide) (by rw [ok_batch]; unfold alB chsB Ch.okB; simp; exact ⟨⟨rfl, rfl⟩, rfl, rfl⟩) (by decide), act_kept (kept_of (.inr (.inr (.inr rfl))))]; rfl
theorem a19 : al5.ans 0 1 (askGet ⟨#[97]⟩) = ⟨0, false, [], 1, al5⟩ := ans_bad (.inl (by decide))
theorem a1a : al5.ans 9 1 (askGet ⟨#[97]⟩) = ⟨0, false, [], 1, al5⟩ := ans_bad (.inr (.inl (by decide)))
theorem a1b : al5.ans 1 0 (askGet ⟨#[97]⟩) = ⟨0, false, [], 1, al5⟩ := ans_bad (.inr (.inr (.inl rfl)))
theorem a1c : al5.ans 1 9 (askPut ⟨#[]⟩ ⟨#[120]⟩) = ⟨0, false, [], 1, al5⟩ := ans_bad (.inr (.inr (.inr (by rw [ok_put]; rfl))))
theorem alSaid : saidL al5.sd = [(⟨1, 0, true⟩, 1), (⟨8, 0, true⟩, 2)] := rfl
end Go.Proofs.Ytmjoaiepfipmaaa
