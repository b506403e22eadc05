/- The law TablesBytes. No condition. -/
import Derived.Test.YthhmehkclgmppaaPre7b
import Derived.BigQuiet
namespace Go.Proofs.Ythhmehkclgmppaa
open Go.RowKit
/-- A table's From and Put, side by side: what From told stays as it was. -/
theorem tx_sep {w0 w : World} {tb : Nat} {L : List En} (h : TabX w0 w tb L) (hl : L.length ≤ 1000) (hf : ∀ e ∈ L, fineB e = true) : ∃ B : Nat → Prop, (∀ k, B k → k < w.heap.size) ∧
    (Calls Try.prog 12 #[.pointer (some ⟨tb, 0, none⟩), .agg #[.string ⟨#[]⟩, .int .u64 0, .bool false], .int .i64 1000] w fun e w' => ∃ a cap, e = .returned (.slice a L.length cap) ∧ RowIs w' 4 (.slice a L.length cap) L.length (L.flatMap enL) ∧ Out B (.slice a L.length cap) ∧ Ext w w') ∧
    ∀ w', Ext w w' → ∀ (x : En) (t : Int), x.small → Calls Try.prog 11 #[.pointer (some ⟨tb, 0, none⟩), .agg (enRow x), .int .i64 t] w' fun e w'' => e = .returned (.int .i64 (putC L x t)) ∧ TabX w0 w'' tb (putL L x t) ∧ OffB B w' w'' := by
  obtain ⟨h0, hd, ns, h1, rfl, h3⟩ := h
  have hl' : ns.length ≤ 4096 := by rw [List.length_map] at hl; omega
  refine ⟨skB tb hd ns, fun k hk => h1.lt hk, ?_, ?_⟩
  · have := from_any w tb hd ns zMk 1000 h1 hl'
    rw [show (1000 : Int).toNat = 1000 from rfl, rest_zero hf, List.take_of_length_le hl] at this
    refine this.mono ?_
    rintro e w' ⟨a, cap, he, _, ho, hE⟩
    exact ⟨a, cap, he, .of_own ho, Out.of_own ho (fun k hk => h1.lt hk), hE⟩
  · intro w' he x t hs
    refine (put_any w' tb hd ns x t (h1.ext he) hl' hs).mono ?_
    rintro e w'' ⟨ns', he', hS, hm, hb, hO⟩
    refine ⟨he', ⟨Below.trans (h0.trans he) (hO.below h3 (h0.trans he).size), hd, ns', hS, hm, fun k hk => ?_⟩, hO⟩
    rcases hb k hk with hk | hk
    · exact h3 k hk
    · have := (h0.trans he).size; omega
theorem szL_append : ∀ (a b : List En), szL (a ++ b) = szL a + szL b
  | [], b => by simp [szL]
  | n :: a, b => by simp only [List.cons_append, szL, szL_append a b]; omega
theorem szL_ins (L : List En) (x : En) : szL (insL L x) = szL L + x.mark.key.size + x.val.size := by
  have h := congrArg szL (ahead_rest L x.mark)
  rw [szL_append] at h
  unfold insL
  rw [szL_append, szL]; omega
theorem szL_le : ∀ {L : List En}, (∀ e ∈ L, fineB e = true) → szL L ≤ 288 * L.length
  | [], _ => by simp [szL]
  | e :: r, h => by
    have h1 := h e (List.mem_cons_self ..)
    have h2 := szL_le (L := r) (fun x hx => h x (List.mem_cons_of_mem _ hx))
    have h3 := fine_key h1
    unfold fineB at h1
    simp only [Bool.and_eq_true, decide_eq_true_eq] at h1
    simp only [szL, List.length_cons]; omega
theorem put_cases (L : List En) (x : En) (t : Int) (hl : L.length ≤ 1000) : (putC L x t = 1 ∧ putL L x t = L) ∨ (putC L x t = 8 ∧ putL L x t = L ∧ 1 ≤ t ∧ t ≤ 8) ∨ (putC L x t = 0 ∧ putL L x t = insL L x ∧ 1 ≤ t ∧ t ≤ 8 ∧ fineB x = true) := by
  unfold putC putL
  cases hok : okB x t
  · left; exact ⟨rfl, rfl⟩
  · right
    unfold okB at hok
    simp only [Bool.and_eq_true, decide_eq_true_eq] at hok
    cases ht : thereB L x.mark
    · right
      rw [if_neg (show ¬ 4096 ≤ L.length by omega), if_neg (show ¬ 4096 ≤ L.length by omega)]
      exact ⟨rfl, rfl, hok.2.1, hok.2.2, hok.1⟩
    · left; exact ⟨rfl, rfl, hok.2.1, hok.2.2⟩
def High10 (v : Value) : Prop := ∃ t : Nat, v = .int .i64 (t : Int) ∧ t ≤ 10
set_option maxRecDepth 100000 in
set_option maxHeartbeats 2000000 in
theorem tablesBytes_walk (w : World) (v : Value) (o0 : ∃ n, OKC Try.prog w n 36 [v]) (v1 : Value) (o1 : ∃ n, OKC Try.prog w n 40 [v1]) :
    Calls Try.prog 8 #[v, v1] w fun e w' => e = .returned (.bool true) ∧ Ext w w' := by
  obtain ⟨l, a, cap, rfl, hg, h1, hby⟩ := okc_entries o0
  obtain ⟨tl, ta, tcap, rfl, ht, h2⟩ := okc_u8row Try.underlying40 Try.underlying5 (by kernel_rfl) o1
  have hgs : ∀ x ∈ l, x.small := fun x hx => (hg x hx).1
  have hgs' := Lib.hid hgs
  have h1' := Lib.hid h1
  have h2' := Lib.hid h2
  have ht' := Lib.hid ht
  have htn := h2.2.1
  have hll : l.length ≤ 140737488351232 := by omega
  clear o0 o1 hg hgs h1 hby h2 ht
  go_enter Try.func8, Try.ntmps8
  go_wp2_with fail
  refine (alive_any w).mono ?_
  rintro e w1 ⟨rfl, hE1⟩
  go_wp2_with fail
  refine (many_any w1 l a cap hgs'.out hll (h1'.out.ext hE1)).mono ?_
  rintro e w2 ⟨rfl, hE2⟩
  replace hE2 := hE1.trans hE2
  clear hE1
  cases hm : manyB l
  · have hml := many_false hm
    have hm' := Lib.hid hm
    clear hm
    by_cases hk : 1000 < tl.length
    · have hki : (1000 : Int) < (tl.length : Int) := by omega
      go_wp2_with fail
      refine (alive_any w2).mono ?_
      rintro e w3 ⟨rfl, hE3⟩
      go_wp2_with fail
      go_ret
      exact ⟨rfl, hE2.trans hE3⟩
    · have hki : ¬ (1000 : Int) < (tl.length : Int) := by omega
      go_wp2_with fail
      refine (tx_new w2).mono ?_
      rintro e w3 ⟨rfl, hT⟩
      generalize w2.heap.size + 1 = tb at *
      go_wp2_with fail
      go_loopw [6, 7, 8] (fun n c i wr => ∃ (k : Nat) (L : List En), k ≤ l.length ∧ i = .int .i64 k ∧ n = .int .i64 (szL L : Nat) ∧ c = .int .i64 (L.length : Nat) ∧ TabX w2 wr tb L ∧ L.length ≤ k ∧ ∀ e ∈ L, fineB e = true) (fun _ _ i _ => l.length - (intOf i).toNat)
      case atStart => exact ⟨0, [], by omega, rfl, rfl, rfl, hT, by simp, fun _ h => by cases h⟩
      case round =>
        clear hT
        obtain ⟨k, L, hk2, rfl, rfl, rfl, hT, hLk, hLf⟩ := hrel
        by_cases hlt : k < l.length
        · have hli : (k : Int) < (l.length : Int) := by omega
          obtain ⟨c, hc⟩ : ∃ c, l[k]? = some c := ⟨_, List.getElem?_eq_getElem hlt⟩
          have hcs := hgs'.out c (List.mem_of_getElem? hc)
          have hcc := Lib.hid hc
          clear hc
          have hTE := hE2.trans hT.1
          obtain ⟨b, off, hat⟩ := h1'.out.at
          obtain ⟨rfl, _, hd⟩ := hat (by omega)
          have hpe0 : ∀ w', Ext w w' → w'.rangeAt b (off + k * 4) (enRow c).toList := fun w' he => ens_range (fun i hi => row_cell he h1'.out.1 hd i hi) hcc.out
          have hpe := Lib.hid hpe0
          clear hat hd hpe0
          go_upto_if 33 with fail
          go_cut [9] from 31 to 42 (fun n wx => High10 n ∧ wx = wr)
          case first =>
            clear hT
            by_cases htl : 0 < tl.length
            · have htli : (0 : Int) < (tl.length : Int) := by omega
              obtain ⟨d, hdd⟩ : ∃ d, tl[k % tl.length]? = some d := ⟨_, List.getElem?_eq_getElem (Nat.mod_lt _ htl)⟩
              have hd256 := ht'.out d (List.mem_of_getElem? hdd)
              obtain ⟨b2, off2, hat2⟩ := (h2'.out.ext hTE).at
              obtain ⟨rfl, _, he2⟩ := hat2 htl
              have hml2 := Nat.mod_lt k htl
              have e3 := he2 (k % tl.length) (by omega)
              rw [u8row_at tl _ d hdd] at e3
              have em0 : 0 ≤ (k : Int) % (tl.length : Int) := by omega
              have em1 : (k : Int) % (tl.length : Int) < (tl.length : Int) := by omega
              have emt : ((k : Int) % (tl.length : Int)).toNat = k % tl.length := by omega
              have hdd' := Lib.hid hdd
              clear hat2 he2 hdd
              go_wp2_with fail
              go_meet
              refine ⟨⟨d % 11, ?_, by omega⟩, rfl⟩
              go_num
            · have htli : ¬ (0 : Int) < (tl.length : Int) := by omega
              go_wp2_with fail
              go_meet
              exact ⟨⟨1, rfl, by omega⟩, rfl⟩
          case rest =>
          obtain ⟨⟨t, rfl, ht10⟩, rfl⟩ := hcut
          obtain ⟨B, hB, hfr, hpt⟩ := tx_sep hT (by omega) hLf
          have hpt' := Lib.hid hpt
          have hfr' := Lib.hid hfr
          have hB' := Lib.hid hB
          have hLf' := Lib.hid hLf
          clear hB hpt hfr hLf
          go_wp2_with fail
          refine hfr'.out.mono ?_
          rintro e w4 ⟨ra, rc, rfl, hR, hout, hE4⟩
          have pe := hpe.out w4 (hTE.trans hE4)
          go_wp2_with (first | (refine wpList_load_mid (by rfl) 26 (.tmp 49) (by rfl) b (off + k * 4) (by rfl) (enRow c).toList _ pe Try.underlying26 rfl (by exact info_entry) ?_) | fail)
          refine (hpt'.out w4 hE4 c (t : Int) hcs).mono ?_
          have hpc := put_cases L c (t : Int) (by omega)
          generalize putC L c (t : Int) = z at *
          generalize putL L c (t : Int) = L2 at *
          rintro e w5 ⟨rfl, hT5, hO⟩
          replace hR := hR.off hout hO
          have hT5E := hE2.trans hT5.1
          clear hout hO pe hfr' hpt' hT hB' hE4 hTE
          rcases hpc with ⟨hz, hL2⟩ | ⟨hz, hL2, ht1, ht8⟩ | ⟨hz, hL2, ht1, ht8, hfc⟩
          · -- refused
            subst hz
            rw [hL2] at hT5
            clear hL2
            go_wp2_with fail
            refine (tx_all hT5 (by omega) hLf'.out).mono ?_
            rintro e w6 ⟨sa, sc, rfl, hR2, hE6⟩
            have hsame := same_any w6 L L sa ra sc rc hR2 (hR.ext hE6)
            rw [decide_eq_true rfl] at hsame
            replace hT5 := hT5.ext hE6
            clear hR hE6 hR2
            go_wp2_with fail
            refine hsame.mono ?_
            clear hsame
            rintro e w7 ⟨rfl, hE7⟩
            have hT7 := hT5.ext hE7
            clear hT5 hE7
            by_cases ht1 : (t : Int) < 1
            · -- no height
              go_wp2_with fail
              refine (tx_len hT7).mono ?_
              rintro e w8 ⟨rfl, rfl⟩
              go_wp2_with fail
              refine (tx_bytes hT7).mono ?_
              rintro e w8 ⟨rfl, rfl⟩
              go_wp2_with fail
              go_roundw
              case rel => exact ⟨k + 1, L, by omega, by go_num, rfl, rfl, hT7, by omega, hLf'.out⟩
              case measure => simp [intOf]; omega
            · by_cases ht8 : (8 : Int) < (t : Int)
              · -- too tall
                go_wp2_with fail
                refine (tx_len hT7).mono ?_
                rintro e w8 ⟨rfl, rfl⟩
                go_wp2_with fail
                refine (tx_bytes hT7).mono ?_
                rintro e w8 ⟨rfl, rfl⟩
                go_wp2_with fail
                go_roundw
                case rel => exact ⟨k + 1, L, by omega, by go_num, rfl, rfl, hT7, by omega, hLf'.out⟩
                case measure => simp [intOf]; omega
              · -- as tall as may be
                have ht1' : 1 ≤ (t : Int) := by omega
                have ht8' : (t : Int) ≤ 8 := by omega
                go_wp2_with fail
                refine (tx_len hT7).mono ?_
                rintro e w8 ⟨rfl, rfl⟩
                go_wp2_with fail
                refine (tx_bytes hT7).mono ?_
                rintro e w8 ⟨rfl, rfl⟩
                go_wp2_with fail
                go_roundw
                case rel => exact ⟨k + 1, L, by omega, by go_num, rfl, rfl, hT7, by omega, hLf'.out⟩
                case measure => simp [intOf]; omega
          · -- there
            have hd1 : decide ((t : Int) < 1) = false := decide_eq_false (by omega)
            have hd8 : decide ((8 : Int) < (t : Int)) = false := decide_eq_false (by omega)
            clear ht1 ht8
            subst hz
            rw [hL2] at hT5
            clear hL2
            go_wp2_with fail
            refine (tx_all hT5 (by omega) hLf'.out).mono ?_
            rintro e w6 ⟨sa, sc, rfl, hR2, hE6⟩
            have hsame := same_any w6 L L sa ra sc rc hR2 (hR.ext hE6)
            rw [decide_eq_true rfl] at hsame
            replace hT5 := hT5.ext hE6
            clear hR hE6 hR2
            go_wp2_with fail
            refine hsame.mono ?_
            clear hsame
            rintro e w7 ⟨rfl, hE7⟩
            have hT7 := hT5.ext hE7
            clear hT5 hE7
            go_wp2_with fail
            refine (tx_len hT7).mono ?_
            rintro e w8 ⟨rfl, rfl⟩
            go_wp2_with fail
            refine (tx_bytes hT7).mono ?_
            rintro e w8 ⟨rfl, rfl⟩
            go_wp2_with fail
            go_roundw
            case rel => exact ⟨k + 1, L, by omega, by go_num, rfl, rfl, hT7, by omega, hLf'.out⟩
            case measure => simp [intOf]; omega
          · -- put
            subst hz
            rw [hL2] at hT5
            clear hL2
            have hd1 : decide ((t : Int) < 1) = false := decide_eq_false (by omega)
            have hd8 : decide ((8 : Int) < (t : Int)) = false := decide_eq_false (by omega)
            clear ht1 ht8
            have hLf2 : ∀ e ∈ insL L c, fineB e = true := fun e he => by
              rcases ins_mem.1 he with rfl | he
              · exact hfc
              · exact hLf'.out e he
            have hLf3 := Lib.hid hLf2
            have hsz := szL_le hLf'.out
            have hfk := fine_key hfc
            have hfv : c.val.size ≤ 256 := by
              have := hfc
              unfold fineB at this
              simp only [Bool.and_eq_true, decide_eq_true_eq] at this
              exact this.2.1
            have hpe5 := hpe.out w5 hT5E
            have p0 := hpe5 0 _ rfl
            have p3 := hpe5 3 _ rfl
            rw [Nat.add_zero] at p0
            have hlen0 : ∀ w', TabX w2 w' tb (insL L c) → Calls Try.prog 14 #[.pointer (some ⟨tb, 0, none⟩)] w' fun e w'' => e = .returned (.int .i64 ((L.length : Int) + 1)) ∧ w' = w'' := fun w' h => by
              have := tx_len h
              rw [ins_length, show ((L.length + 1 : Nat) : Int) = (L.length : Int) + 1 by omega] at this
              exact this
            have hby0 : ∀ w', TabX w2 w' tb (insL L c) → Calls Try.prog 13 #[.pointer (some ⟨tb, 0, none⟩)] w' fun e w'' => e = .returned (.int .i64 ((szL L : Int) + (c.mark.key.size : Int) + (c.val.size : Int))) ∧ w' = w'' := fun w' h => by
              have := tx_bytes h
              rw [szL_ins, show ((szL L + c.mark.key.size + c.val.size : Nat) : Int) = (szL L : Int) + (c.mark.key.size : Int) + (c.val.size : Int) by omega] at this
              exact this
            have hlen1 := Lib.hid hlen0
            have hby1 := Lib.hid hby0
            have e1 : IntKind.i64.wrap ((szL L : Int) + (c.mark.key.size : Int)) = (szL L : Int) + (c.mark.key.size : Int) := by rw [IntKind.wrap_i64]; omega
            have e2 : IntKind.i64.wrap ((szL L : Int) + (c.mark.key.size : Int) + (c.val.size : Int)) = (szL L : Int) + (c.mark.key.size : Int) + (c.val.size : Int) := by rw [IntKind.wrap_i64]; omega
            clear hfc hLf2 hpe5 hlen0 hby0 hR hsz
            go_upto_region 15 with fail
            go_quiet (fail)
            clear e1 e2
            have hT7 := hT5.ext (ext_draws (Ext.refl _) nq)
            generalize w5.drewN nq = w7 at *
            go_wp2_with fail
            refine (hlen1.out _ hT7).mono ?_
            rintro e w8 ⟨rfl, rfl⟩
            go_wp2_with fail
            refine (hby1.out _ hT7).mono ?_
            rintro e w8 ⟨rfl, rfl⟩
            go_wp2_with fail
            go_roundw
            case rel => exact ⟨k + 1, insL L c, by omega, by go_num, by rw [szL_ins]; go_num, by rw [ins_length]; go_num, hT7, by rw [ins_length]; omega, hLf3.out⟩
            case measure => simp [intOf]; omega
        · have hli : ¬ (k : Int) < (l.length : Int) := by omega
          go_wp2_with fail
          go_ret
          exact ⟨rfl, hE2.trans hT.1⟩
  · have hm' := Lib.hid hm
    clear hm
    go_wp2_with fail
    refine (alive_any w2).mono ?_
    rintro e w3 ⟨rfl, hE3⟩
    go_wp2_with fail
    go_ret
    exact ⟨rfl, hE2.trans hE3⟩
end Go.Proofs.Ythhmehkclgmppaa
