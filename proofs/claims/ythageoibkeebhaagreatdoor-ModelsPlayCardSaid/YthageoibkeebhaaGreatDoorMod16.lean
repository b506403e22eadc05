/- Do, done: what it stands on. No condition. -/
import Derived.Test.YthageoibkeebhaaGreatDoorMod15
namespace Go.Proofs.YthageoibkeebhaaGreatDoor
open Go.RowKit Go.Maps Go.WideMaps
set_option maxRecDepth 100000
set_option maxHeartbeats 1000000
/-- A state stays where none of its blocks is written. -/
theorem StM.keep {B : Nat → Prop} {w0 w w' : World} {st mb : Nat} {m : Md} (h : StM w0 w st mb m) (ho : OffB B w w') (hb : ∀ k, B k → w0.heap.size ≤ k) (h1 : ¬ B st) (h2 : ¬ B mb) (h3 : ∀ k, B k → ∀ r : Rw, w.heap[k]? ≠ some (.cells (rowR r) 84 (0, 0))) : StM w0 w' st mb m := by
  obtain ⟨b1, b2, b3, b4, b5, b6, es, cl, b7⟩ := h.at
  obtain ⟨rs, ⟨c0, c1, mb2, c2, c3, c4, c5, c6⟩, c7, c8⟩ := h
  have hc := c8
  rw [cell_of_row _ _ 0 _ 96 (0, 0) c6] at hc
  obtain rfl : mb = mb2 := by simpa [stRow] using hc.symm
  have e1 := ho.block st b3 h1
  have e2 := ho.block mb b4 h2
  refine ⟨rs, ⟨?_, c1, mb, ⟨?_, c2.2.1, fun p hp => ?_⟩, c3, c4, c5, e1.trans c6⟩, c7, ?_⟩
  · exact Below.trans c0 (ho.below hb c0.size)
  · obtain ⟨es2, cl2, d1, d2⟩ := c2.1
    exact ⟨es2, cl2, e2.trans d1, d2⟩
  · obtain ⟨d1, d2, d3⟩ := c2.2.2 p hp
    exact ⟨d1, d2, (ho.block p.2 (Array.getElem?_eq_some_iff.1 d3).1 (fun hB => h3 _ hB _ d3)).trans d3⟩
  · rw [cell_of_row _ _ 0 _ 96 (0, 0) (e1.trans c6)]; rfl
/-- Rows stay where a reply's block is written. -/
theorem rw_off_re {w w' : World} {b : Nat} {cs : Array Value} {l : List Rw} {a : Option Addr} {cap : Nat} (hr : RowIs w 2 (.slice a l.length cap) l.length (l.flatMap rwL)) (hb : w.heap[b]? = some (.cells cs 74 (0, 0))) (h0 : ∀ (j : Nat) (s : ByteArray), cs[j]? ≠ some (Value.string s)) (ho : OffB (· = b) w w') : RowIs w' 2 (.slice a l.length cap) l.length (l.flatMap rwL) := by
  obtain ⟨e1, e2, h3 | ⟨g, off, cap', he, hc, h4⟩⟩ := hr
  · exact ⟨e1, e2, .inl h3⟩
  · refine ⟨e1, e2, .inr ⟨g, off, cap', he, hc, fun i hi => ?_⟩⟩
    have e := h4 i hi
    have hl : i < (l.flatMap rwL).length := by omega
    rw [List.getElem?_eq_getElem hl] at e ⊢
    refine ho.cell e (fun hg => ?_)
    have hg : g = b := hg
    subst hg
    rw [cell_of_row _ _ _ _ 74 (0, 0) hb] at e
    have hm := List.getElem_mem hl
    obtain ⟨r, _, hm⟩ := List.mem_flatMap.1 hm
    simp only [rwL, List.mem_cons, List.not_mem_nil, or_false] at hm
    rcases hm with hm | hm
    · rw [hm] at e; exact h0 _ _ e
    · rw [hm] at e; exact h0 _ _ e
theorem zRe_str (j : Nat) (s : ByteArray) : zRe[j]? ≠ some (.string s) := by
  intro h
  have hj : j < 3 := (Array.getElem?_eq_some_iff.1 h).1
  obtain rfl | rfl | rfl : j = 0 ∨ j = 1 ∨ j = 2 := by omega
  all_goals cases h
theorem reH_str (i : Int) (b : Bool) (a : Option Addr) (n c : Nat) (j : Nat) (s : ByteArray) : (reH i b (.slice a n c))[j]? ≠ some (.string s) := by
  intro h
  have hj : j < 3 := (Array.getElem?_eq_some_iff.1 h).1
  obtain rfl | rfl | rfl : j = 0 ∨ j = 1 ∨ j = 2 := by omega
  all_goals cases h
/-- A reply with rows is stored whole. -/
theorem st_reh {wr W : World} {b : Nat} (hb : W.heap[b]? = some (.cells zRe 74 (0, 0))) (hE : Ext wr W) (hle : wr.heap.size ≤ b) (z : Bool) (l : List Rw) (a : Option Addr) (cap : Nat) (hr : RowIs W 2 (.slice a l.length cap) l.length (l.flatMap rwL)) :
    ∃ W', (storeCells ⟨b, 0, none⟩ (reH 0 z (.slice a l.length cap)).toList).run Tryz.prog W = .ok () W' ∧ Ext wr W' ∧ W'.heap[b]? = some (.cells (reH 0 z (.slice a l.length cap)) 74 (0, 0)) ∧ RowIs W' 2 (.slice a l.length cap) l.length (l.flatMap rwL) := by
  refine ⟨W.setRow b (reH 0 z (.slice a l.length cap)), ?_, hE.setRow hle _, by rw [setRow_heap _ _ _ _ _ _ hb], rw_off_re hr hb zRe_str ⟨rfl, rfl, rfl, by simp, fun k _ hq => setRow_other _ _ _ _ hq⟩⟩
  rw [run_storeCells_from b 74 (reH 0 z (.slice a l.length cap)).toList 0 zRe W hb (by rfl) (fun v hv => Array.all_eq_true_iff_forall_mem.1 (reH_one 0 z a l.length cap) v (by simpa using hv))]
  rfl
theorem st_reg {wr W : World} {b : Nat} (hb : W.heap[b]? = some (.cells zRe 74 (0, 0))) (hE : Ext wr W) (hle : wr.heap.size ≤ b) (z : Bool) :
    ∃ W', (storeCells ⟨b, 0, none⟩ (reG 0 z).toList).run Tryz.prog W = .ok () W' ∧ Ext wr W' ∧ W'.heap[b]? = some (.cells (reG 0 z) 74 (0, 0)) := by
  refine ⟨W.setRow b (reG 0 z), ?_, hE.setRow hle _, by rw [setRow_heap _ _ _ _ _ _ hb]⟩
  rw [run_storeCells_from b 74 (reG 0 z).toList 0 zRe W hb (by rfl) (fun v hv => Array.all_eq_true_iff_forall_mem.1 (reG_one 0 z) v (by simpa using hv))]
  rfl
/-- Cells of a block, written from a place on. -/
def spl (cs : Array Value) : Nat → List Value → Array Value
  | _, [] => cs
  | o, v :: r => spl (cs.setIfInBounds o v) (o + 1) r
theorem setCells_row {t : TypeId} {fz : Nat × Nat} {b : Nat} : ∀ (vs : List Value) (o : Nat) (w : World) (cs : Array Value), w.heap[b]? = some (.cells cs t fz) → (w.setCells b o vs).heap[b]? = some (.cells (spl cs o vs) t fz)
  | [], _, _, _, h => h
  | v :: r, o, w, cs, h => by
    refine setCells_row r (o + 1) _ _ ?_
    simp [World.setCell, Array.getElem?_modify, h]
theorem setCells_off {b : Nat} : ∀ (vs : List Value) (o : Nat) (w : World), OffB (· = b) w (w.setCells b o vs)
  | [], _, w => OffB.refl w
  | v :: r, o, w => OffB.trans (OffB.setCell (B := (· = b)) (OffB.refl w) (p := ⟨b, o, none⟩) rfl v) (setCells_off r (o + 1) _)
theorem flat_set : ∀ (sd : List Sv) (c : Nat) (s : Sv), c < sd.length → ((((sd.flatMap svc).set (c * 4) (.int .u32 (s.num : Int))).set (c * 4 + 1) (.int .i64 s.e)).set (c * 4 + 2) (.bool s.yes)).set (c * 4 + 3) (.slice none 0 0) = (sd.set c s).flatMap svc
  | [], c, s, h => by simp at h
  | x :: r, 0, s, _ => by
    rw [List.flatMap_cons, List.set_cons_zero, List.flatMap_cons]; rfl
  | x :: r, c + 1, s, h => by
    have ih := flat_set r c s (by simpa using h)
    rw [List.flatMap_cons, List.set_cons_succ, List.flatMap_cons, ← ih]
    unfold svc
    rw [show (c + 1) * 4 = c * 4 + 4 by omega]
    rfl
theorem spl_sd (mb : Nat) (sd : List Sv) (c : Nat) (s : Sv) (h : c < sd.length) : spl (stRow mb sd) (1 + c * 4) (svc s) = stRow mb (sd.set c s) := by
  unfold stRow
  rw [← flat_set sd c s h, show svc s = [.int .u32 (s.num : Int), .int .i64 s.e, .bool s.yes, .slice none 0 0] from rfl]
  simp only [spl]
  rw [show 1 + c * 4 = c * 4 + 1 by omega]
  simp only [List.setIfInBounds_toArray, List.set_cons_succ]
/-- A client's place is written. -/
theorem StM.say {w0 w : World} {st mb : Nat} {m : Md} (h : StM w0 w st mb m) {c : Nat} (hc : c < 9) (s : Sv) : StM w0 (w.setCells st (1 + c * 4) (svc s)) st mb ⟨m.rows, m.sd.set c s⟩ := by
  obtain ⟨b1, b2, b3, b4, b5, b6, es, cl, b7⟩ := h.at
  obtain ⟨rs, ⟨c0, c1, mb2, c2, c3, c4, c5, c6⟩, c7, c8⟩ := h
  have hc' := c8
  rw [cell_of_row _ _ 0 _ 96 (0, 0) c6] at hc'
  obtain rfl : mb = mb2 := by simpa [stRow] using hc'.symm
  have ho := setCells_off (b := st) (svc s) (1 + c * 4) w
  have hrow := setCells_row (svc s) (1 + c * 4) w _ c6
  rw [spl_sd mb m.sd c s (by rw [c1]; exact hc)] at hrow
  refine ⟨rs, ⟨?_, by rw [List.length_set]; exact c1, mb, ⟨?_, c2.2.1, fun p hp => ?_⟩, c3, c4, c5, hrow⟩, c7, ?_⟩
  · exact Below.trans c0 (ho.below (fun k hk => by rw [hk]; exact c3) c0.size)
  · obtain ⟨es2, cl2, d1, d2⟩ := c2.1
    exact ⟨es2, cl2, (ho.block mb b4 (fun e => c4 e.symm)).trans d1, d2⟩
  · obtain ⟨d1, d2, d3⟩ := c2.2.2 p hp
    exact ⟨d1, d2, (ho.block p.2 (Array.getElem?_eq_some_iff.1 d3).1 (c5 p hp)).trans d3⟩
  · rw [cell_of_row _ _ 0 _ 96 (0, 0) hrow]; rfl
theorem sd_there {w0 w : World} {st mb : Nat} {m : Md} (h : StM w0 w st mb m) {c : Nat} (hc : c < 9) : w.there st (1 + c * 4) 4 := by
  obtain ⟨_, _, _, _, _, b6, _⟩ := h.at
  intro j hj
  obtain ⟨s, hs⟩ : ∃ s, m.sd[c]? = some s := ⟨_, List.getElem?_eq_getElem (by rw [h.len]; exact hc)⟩
  refine ⟨?_, ?_⟩
  · rw [cell_of_row _ _ _ _ 96 (0, 0) b6, sd_at hs hj, List.getElem?_eq_getElem (by exact hj)]; rfl
  · unfold World.frozen?; rw [b6]; simp
theorem info_last : (Tryz.prog.info? 93).map (·.size) = some 4 := by kernel_rfl
theorem svc_one (s : Sv) : (svc s).toArray.all (·.oneCell') = true := by kernel_rfl
/-- What an ask without rows is answered, by its function. -/
theorem rep_put {w0 w : World} {st mb : Nat} {m : Md} (h : StM w0 w st mb m) (x : Ak) (hk : x.kind = 1 ∨ x.kind = 4) (u : Value) : Calls Tryz.prog 146 #[.pointer (some ⟨st, 0, none⟩), .agg (x.row u)] w fun e w' => e = .returned (.agg (reG 0 (yesW m.rows x))) ∧ Ext w w' := by
  obtain ⟨rs, hX, hr, _⟩ := h
  have : yesW m.rows x = true := by unfold yesW; rw [if_pos hk]
  rw [this]
  exact st_put hX x u
theorem rep_del {w0 w : World} {st mb : Nat} {m : Md} (h : StM w0 w st mb m) (x : Ak) (hs : x.small) (hk : x.kind = 2) (u : Value) : Calls Tryz.prog 147 #[.pointer (some ⟨st, 0, none⟩), .agg (x.row u)] w fun e w' => e = .returned (.agg (reG 0 (yesW m.rows x))) ∧ Ext w w' := by
  obtain ⟨rs, hX, hr, _⟩ := h
  have : yesW m.rows x = (rs.find? (keyIs x.key)).isSome := by unfold yesW; rw [if_neg (by omega), if_pos (.inl hk), ← hr, ← find_fst]; cases rs.find? (keyIs x.key) <;> rfl
  rw [this]
  exact st_del hX x hs.2.1 u
theorem rep_cas {w0 w : World} {st mb : Nat} {m : Md} (h : StM w0 w st mb m) (x : Ak) (hs : x.small) (hk : x.kind = 3) (u : Value) : Calls Tryz.prog 100 #[.pointer (some ⟨st, 0, none⟩), .agg (x.row u)] w fun e w' => e = .returned (.agg (reG 0 (yesW m.rows x))) ∧ Ext w w' := by
  obtain ⟨rs, hX, hr, _⟩ := h
  have : yesW m.rows x = casB (rs.find? (keyIs x.key)) x := by unfold yesW; rw [if_neg (by omega), if_neg (by omega), if_pos hk, ← hr, ← find_fst, casB_eq]
  rw [this]
  exact st_cas hX x hs.2.1 u
theorem rep_get {w0 w : World} {st mb : Nat} {m : Md} (h : StM w0 w st mb m) (x : Ak) (hs : x.small) (hk : x.kind = 5) (u : Value) : Calls Tryz.prog 148 #[.pointer (some ⟨st, 0, none⟩), .agg (x.row u)] w (ReE (yesW m.rows x) (rowsW m.rows x) w) := by
  obtain ⟨rs, hX, hr, _⟩ := h
  have e1 : yesW m.rows x = (rs.find? (keyIs x.key)).isSome := by unfold yesW; rw [if_neg (by omega), if_pos (.inr hk), ← hr, ← find_fst]; cases rs.find? (keyIs x.key) <;> rfl
  have e2 : rowsW m.rows x = ((rs.find? (keyIs x.key)).map Prod.fst).toList := by unfold rowsW; rw [if_pos hk, ← hr, ← find_fst]
  rw [e1, e2]
  exact st_get hX x hs.2.1 u
theorem rep_scan {w0 w : World} {st mb : Nat} {m : Md} (h : StM w0 w st mb m) (hg : smallR m.rows) (hn : m.rows.length ≤ 1000000) (x : Ak) (hk : x.kind = 6) (u : Value) : Calls Tryz.prog 149 #[.pointer (some ⟨st, 0, none⟩), .agg (x.row u)] w (ReE (yesW m.rows x) (rowsW m.rows x) w) := by
  obtain ⟨rs, hX, hr, _⟩ := h
  have e1 : yesW m.rows x = false := by unfold yesW; rw [if_neg (by omega), if_neg (by omega), if_neg (by omega)]
  have e2 : rowsW m.rows x = scanL x (rs.map Prod.fst) := by unfold rowsW; rw [if_neg (by omega), if_pos hk, hr]
  rw [e1, e2]
  refine st_scan hX (by rw [← hr, List.length_map] at hn; exact hn) (fun p hp => ?_) x u
  have := keyB_size (hg p.1 (by rw [← hr]; exact List.mem_map_of_mem hp)).1
  omega
theorem ch_small_ok {c : Ch} (h : c.okB = true) : c.small := by
  unfold Ch.okB at h
  simp only [Bool.and_eq_true] at h
  have h1 := keyB_size h.1
  have h2 := valB_size h.2.1
  exact ⟨by omega, by omega⟩
theorem out_map {w : World} {mb size n : Nat} {a : Option Addr} {cap : Nat} {xs : List Value} {es : Array MapEntry} {cl : Nat} (hs : 0 < size) (h : RowIs w size (.slice a n cap) n xs) (hm : w.heap[mb]? = some (.map es cl)) (hn : 0 < n) : Out (fun i => i = mb) (.slice a n cap) := by
  obtain ⟨e1, _, ⟨h0, _⟩ | ⟨b, off, cap', he, _, h4⟩⟩ := h
  · omega
  · intro ad m c hv hB
    injection he with he1
    injection hv with hv1
    have hp : 0 < n * size := Nat.mul_pos hn hs
    have := h4 0 hp
    rw [List.getElem?_eq_getElem (by omega)] at this
    have hbm : b = mb := by
      rw [he1] at hv1
      injection hv1 with hv1
      rw [← hB, ← hv1]
    rw [hbm] at this
    simp [World.cell?, hm] at this
theorem row_off_map {w w' : World} {mb size n : Nat} {v : Value} {xs : List Value} {es : Array MapEntry} {cl : Nat} (hr : RowIs w size v n xs) (hm : w.heap[mb]? = some (.map es cl)) (ho : OffB (fun i => i = mb) w w') : RowIs w' size v n xs := by
  obtain ⟨e1, e2, h3 | ⟨g, off, cap', he, hc, h4⟩⟩ := hr
  · exact ⟨e1, e2, .inl h3⟩
  · refine ⟨e1, e2, .inr ⟨g, off, cap', he, hc, fun i hi => ?_⟩⟩
    have e := h4 i hi
    rw [List.getElem?_eq_getElem (by omega)] at e ⊢
    refine ho.cell e (fun hg => ?_)
    have hg : g = mb := hg
    rw [hg] at e
    simp [World.cell?, hm] at e
def ReH (yes : Bool) (l : List Rw) (w : World) (e : Ending) (w' : World) : Prop := ∃ a cap, e = .returned (.agg (reH 0 yes (.slice a l.length cap))) ∧ RowIs w' 2 (.slice a l.length cap) l.length (l.flatMap rwL) ∧ Ext w w'
theorem ReE.hid {yes : Bool} {l : List Rw} {w : World} {e : Ending} {w' : World} (h : ReE yes l w e w') : ReH yes l w e w' := h
theorem rowsW_len (l : List Rw) (x : Ak) : (rowsW l x).length ≤ l.length + 1 := by
  unfold rowsW
  split
  · cases findW l x.key <;> simp
  · split
    · have := scanL_len x l; omega
    · simp
/-- Do's end: the reply is stored whole. -/
theorem do_fin {w0 w w7 : World} {st mb : Nat} {m' : Md} (hO : OffB (fun i => i = st ∨ i = mb) w w7) (hS : StM w0 w7 st mb m') (h0 : w0.heap.size ≤ w.heap.size) (h1 : st < w.heap.size) (h2 : mb < w.heap.size) (hR : w7.heap[w.heap.size + 1]? = some (.cells zRe 74 (0, 0))) (E : Int) (yes : Bool) (l : List Rw) (a : Option Addr) (cap : Nat) (hr : RowIs w7 2 (.slice a l.length cap) l.length (l.flatMap rwL)) (hwn : OwnC w7 w.heap.size 84 2 (.slice a l.length cap) l.length (l.flatMap rwL)) (ho : Out (fun i => i < w.heap.size) (.slice a l.length cap)) (err : Int) :
    DoE w0 w st mb E yes l err m' (.returned (.tuple #[.agg (reH E yes (.slice a l.length cap)), .int .i64 err])) (w7.setRow (w.heap.size + 1) (reH E yes (.slice a l.length cap))) := by
  have hof : OffB (· = w.heap.size + 1) w7 (w7.setRow (w.heap.size + 1) (reH E yes (.slice a l.length cap))) := ⟨rfl, rfl, rfl, by simp, fun k _ hq => setRow_other _ _ _ _ hq⟩
  refine ⟨a, cap, rfl, ⟨rw_off_re hr hR zRe_str hof, hwn.offB hof (fun q hq hB => by
    have hB : q = w.heap.size + 1 := hB
    have h5 := hR
    obtain ⟨_, ⟨e, _⟩ | ⟨g, c, cur, e, _, h6, _⟩⟩ := hwn
    · rw [e] at hq; cases hq
    · rw [e] at hq
      injection hq with hq
      have hq : g = q := hq
      rw [hq, hB, h5] at h6
      injection h6 with h6
      injection h6 with _ h6
      revert h6
      decide)⟩, ho, hS.keep hof (fun k hk => by have hk : k = w.heap.size + 1 := hk; omega) (by show ¬ st = w.heap.size + 1; omega) (by show ¬ mb = w.heap.size + 1; omega) (fun k hk r hc => ?_), ?_⟩
  · have hk : k = w.heap.size + 1 := hk
    rw [hk, hR] at hc
    injection hc with q; injection q with _ q; cases q
  · refine OffB.past (B := fun i => (i = st ∨ i = mb) ∨ i = w.heap.size + 1) ((hO.mono fun k hk => .inl hk).trans (hof.mono fun k hk => .inr hk)) (fun k hk hB => ?_)
    rcases hB with hB | hB
    · exact hB
    · omega
end Go.Proofs.YthageoibkeebhaaGreatDoor
