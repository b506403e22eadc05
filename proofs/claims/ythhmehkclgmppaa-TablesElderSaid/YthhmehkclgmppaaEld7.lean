/- The law TablesElder. No condition. -/
import Derived.Test.YthhmehkclgmppaaEld7a
import Derived.BigQuiet
import Derived.Deep.CutRange
namespace Go.Proofs.Ythhmehkclgmppaa
open Go.RowKit
def topN : Nat := 18446744073709551615
theorem topN_int : Value.int .u64 18446744073709551615 = .int .u64 ((topN : Nat) : Int) := rfl
theorem cnt_top {L : List En} {key : ByteArray} (h : ∀ e ∈ L, e.mark.seq ≤ topN) (k : Nat) : cntB L key topN (k + 1) = cntB L key topN k + if headB L key k = true then 1 else 0 := by
  show cntB L key topN k + _ = _
  have : decide (seqAt L k ≤ topN) = true := by
    refine decide_eq_true ?_
    unfold seqAt
    cases hx : L[k]? with
    | none => exact Nat.zero_le _
    | some e => exact h e (List.mem_of_getElem? hx)
  rw [this, Bool.and_true]
theorem head_of {L : List En} {key : ByteArray} {k : Nat} {c : En} (hc : L[k]? = some c) : headB L key k = (keyB key c && (k == 0 || (match L[k - 1]? with | none => true | some d => !keyB key d || !(d.mark.seq == c.mark.seq)))) := by
  unfold headB; simp only [hc]; rfl
set_option maxRecDepth 100000 in
set_option maxHeartbeats 2000000 in
theorem tablesElder_walk (w : World) (v : Value) (o0 : ∃ n, OKC Try.prog w n 36 [v]) (key : ByteArray) (_o1 : ∃ n, OKC Try.prog w n 9 [.string key]) :
    Calls Try.prog 9 #[v, .string key] w fun e w' => e = .returned (.bool true) ∧ Ext w w' := by
  obtain ⟨l, a, cap, rfl, hg, h1, hby⟩ := okc_entries o0
  have hgs : ∀ x ∈ l, x.small := fun x hx => (hg x hx).1
  have hgs' := Lib.hid hgs
  have htop : ∀ x ∈ tabL l, x.mark.seq ≤ topN := fun x hx => by have := (hg x (tabL_fine hx).1).2; unfold topN; omega
  have htop' := Lib.hid htop
  have h1' := Lib.hid h1
  have hll : l.length ≤ 140737488351232 := by omega
  clear o0 _o1 hg hgs h1 hby htop
  go_enter Try.func9, Try.ntmps9
  go_wp2_with fail
  refine (alive_any w).mono ?_
  rintro e w1 ⟨rfl, hE1⟩
  go_wp2_with fail
  refine (many_any w1 l a cap hgs'.out hll (h1'.out.ext hE1)).mono ?_
  rintro e w2 ⟨rfl, hE2⟩
  replace hE2 := hE1.trans hE2
  clear hE1
  cases hm : manyB l
  · have hml := many_false hm
    have hm' := Lib.hid hm
    clear hm
    by_cases hk : 1000 < key.size
    · have hki : (1000 : Int) < (key.size : Int) := by omega
      go_wp2_with fail
      refine (alive_any w2).mono ?_
      rintro e w3 ⟨rfl, hE3⟩
      go_wp2_with fail
      go_ret
      exact ⟨rfl, hE2.trans hE3⟩
    · have hki : ¬ (1000 : Int) < (key.size : Int) := by omega
      go_wp2_with fail
      refine (putl_nil w2 l a cap hgs'.out (by omega) (h1'.out.ext hE2)).mono ?_
      rintro e w3 ⟨rfl, hT⟩
      have hLr := tabL_rises l
      have hLn := tabL_length l
      have hLf : ∀ e ∈ tabL l, fineB e = true := fun _ h => (tabL_fine h).2
      generalize w2.heap.size + 1 = tb at *
      generalize tabL l = L at *
      have hE3 := hE2.trans hT.1
      go_wp2_with fail
      refine (tx_all hT (by omega) hLf).mono ?_
      rintro e w4 ⟨ra, rc, rfl, hR, hE4⟩
      replace hT := hT.ext hE4
      replace hE4 := hE3.trans hE4
      have hLr' := Lib.hid hLr
      clear hE3 hE2 hLr hLf
      have hT' := Lib.hid hT
      have hR' := Lib.hid hR
      clear hT hR
      go_wp2_with fail
      go_loopw [7, 8] (fun n i wr => ∃ k : Nat, k ≤ L.length ∧ i = .int .i64 k ∧ n = .int .i64 (cntB L key topN k : Nat) ∧ Ext w4 wr) (fun _ i _ => L.length - (intOf i).toNat)
      case atStart => exact ⟨0, by omega, rfl, rfl, Ext.refl _⟩
      case round =>
        obtain ⟨k, hk2, rfl, rfl, hE⟩ := hrel
        have hcl := cntB_le L key topN k
        by_cases hlt : k < L.length
        · have hli : (k : Int) < (L.length : Int) := by omega
          obtain ⟨c, hc⟩ : ∃ c, L[k]? = some c := ⟨_, List.getElem?_eq_getElem hlt⟩
          obtain ⟨b, off, hat⟩ := (hR'.out.ext hE).at
          obtain ⟨rfl, _, hd⟩ := hat (by omega)
          have pe := ens_range hd hc
          have p0 := pe 0 _ rfl
          have p1 := pe 1 _ rfl
          rw [Nat.add_zero] at p0
          have hhd := Lib.hid (head_of (key := key) hc)
          have hd' := Lib.hid hd
          have hc' := Lib.hid hc
          clear hat hd hc pe
          go_upto_region 11 with fail
          go_cut [76] from 38 to 78 (fun s wx => s = .bool (headB L key k) ∧ Ext wr wx)
          case first =>
            cases hkk : c.mark.key.toList == key.toList
            · have hres := Lib.hid (show headB L key k = false by rw [hhd.out]; unfold keyB; rw [hkk]; rfl)
              go_quiet (fail)
              go_wp2_with fail
              go_meet
              exact ⟨by rw [hres.out], ext_draws (Ext.refl _) _⟩
            · by_cases hk0 : k = 0
              · have hres := Lib.hid (show headB L key k = true by rw [hhd.out]; unfold keyB; rw [hkk, hk0]; rfl)
                have hk3 : decide ((k : Int) = 0) = true := decide_eq_true (by omega)
                have hk4 : (k : Int) = 0 := by omega
                have p0' : wr.cell? ⟨b, off, none⟩ = some (.string c.mark.key) := by rw [hk0, Nat.zero_mul, Nat.add_zero] at p0; exact p0
                go_quiet (fail)
                go_wp2_with fail
                go_meet
                exact ⟨by rw [hres.out], ext_draws (Ext.refl _) _⟩
              · obtain ⟨d, hdd⟩ : ∃ d, L[k - 1]? = some d := ⟨_, List.getElem?_eq_getElem (by omega)⟩
                have qe := ens_range hd'.out hdd
                have q0 := qe 0 _ rfl
                have q1 := qe 1 _ rfl
                rw [Nat.add_zero] at q0
                have hk1 : ¬ (k : Int) = 0 := by omega
                have hk3 : ((k : Int) == 0) = false := by rw [beq_eq_false_iff_ne]; exact hk1
                have hk4 : 0 ≤ (k : Int) - 1 := by omega
                have hk5 : (k : Int) - 1 < (L.length : Int) := by omega
                have hk6 : ((k : Int) - 1).toNat = k - 1 := by omega
                have hk7 : (1 : Int) ≤ (k : Int) := by omega
                have hk8 : (k : Int) ≤ (L.length : Int) := by omega
                have hk9 : 0 < k := by omega
                have hh2 : headB L key k = (!keyB key d || !(d.mark.seq == c.mark.seq)) := by
                  rw [hhd.out, hdd]
                  simp only
                  rw [show keyB key c = true from hkk, show (k == 0) = false by simpa using hk0]; rfl
                have hh3 := Lib.hid hh2
                clear hh2 hdd qe
                cases hkd : d.mark.key.toList == key.toList
                · have hkd2 : (d.mark.key.toList != key.toList) = true := by unfold bne; rw [hkd]; rfl
                  have hres := Lib.hid (show headB L key k = true by rw [hh3.out]; unfold keyB; rw [hkd]; rfl)
                  have hwr : IntKind.i64.wrap ((k : Int) - 1) = (k : Int) - 1 := by rw [IntKind.wrap_i64]; omega
                  go_quiet (fail)
                  go_wp2_with fail
                  go_meet
                  exact ⟨by rw [hres.out], ext_draws (Ext.refl _) _⟩
                · have hkd2 : (d.mark.key.toList != key.toList) = false := by unfold bne; rw [hkd]; rfl
                  by_cases hsq : d.mark.seq = c.mark.seq
                  · have hsb : ((d.mark.seq : Int) != (c.mark.seq : Int)) = false := by rw [hsq]; simp
                    have hres := Lib.hid (show headB L key k = false by rw [hh3.out]; unfold keyB; rw [hkd, hsq]; simp)
                    have hwr : IntKind.i64.wrap ((k : Int) - 1) = (k : Int) - 1 := by rw [IntKind.wrap_i64]; omega
                    go_quiet (fail)
                    go_wp2_with fail
                    go_meet
                    exact ⟨by rw [hres.out], ext_draws (Ext.refl _) _⟩
                  · have hres := Lib.hid (show headB L key k = true by rw [hh3.out]; unfold keyB; rw [hkd, show (d.mark.seq == c.mark.seq) = false by simpa using hsq]; rfl)
                    have hsi : ¬ (d.mark.seq : Int) = (c.mark.seq : Int) := by omega
                    have hsb : ((d.mark.seq : Int) != (c.mark.seq : Int)) = true := by rw [bne_iff_ne]; exact hsi
                    have hwr : IntKind.i64.wrap ((k : Int) - 1) = (k : Int) - 1 := by rw [IntKind.wrap_i64]; omega
                    go_quiet (fail)
                    go_wp2_with fail
                    go_meet
                    exact ⟨by rw [hres.out], ext_draws (Ext.refl _) _⟩
          case rest =>
          obtain ⟨rfl, hE5⟩ := hcut
          have hct := cnt_top (key := key) htop'.out k
          cases hB : headB L key k
          all_goals
            rw [hB] at hct
            have hct' := Lib.hid hct
            have hB' := Lib.hid hB
            clear hct hB
            go_wp2_with fail
            go_roundw
            case rel => first | exact ⟨k + 1, by omega, by go_num, by rw [hct'.out]; go_num, hE.trans hE5⟩ | ((repeat apply Exists.intro); exact ⟨⟨k + 1, by omega, by go_num, by rw [hct'.out]; go_num, hE.trans hE5⟩, rfl⟩)
            case measure => simp [intOf]; omega
        · have hli : ¬ (k : Int) < (L.length : Int) := by omega
          obtain rfl : k = L.length := by omega
          obtain ⟨n, hn⟩ : ∃ n, n = cntB L key topN L.length := ⟨_, rfl⟩
          rw [← hn] at hcl ⊢
          have hn' := Lib.hid hn
          clear hn
          go_wp2_with fail
          go_loopw [9, 10] (fun sq i wr2 => ∃ j s : Nat, i = .int .i64 j ∧ sq = .int .u64 (s : Nat) ∧ j + cntB L key s L.length = n ∧ s ≤ topN ∧ Ext w4 wr2) (fun _ i _ => L.length + 1 - (intOf i).toNat)
          case atStart => exact ⟨0, topN, rfl, topN_int, by rw [hn'.out]; omega, Nat.le_refl _, hE⟩
          case round =>
            clear hE
            obtain ⟨j, s, rfl, rfl, hjn, hst, hX⟩ := hrel
            have hji : (j : Int) ≤ (L.length : Int) := by omega
            have hji2 : j ≤ L.length := by omega
            have hjn' := Lib.hid hjn
            clear hjn
            cases hf : L.find? (isP key s) with
            | none =>
              have h0 := hjn'.out
              rw [cnt_none hf L.length, Nat.add_zero] at h0
              subst h0
              have hget : ∀ w', TabX w2 w' tb L → Calls Try.prog 10 #[.pointer (some ⟨tb, 0, none⟩), .string key, .int .u64 (s : Int)] w' fun e w'' => e = .returned (.tuple #[.agg (enRow zEn), .bool false]) ∧ Ext w' w'' := fun w' h => by
                have := tx_get h key s
                rw [getS_find hLr'.out, hf] at this; exact this
              have hg1 := Lib.hid hget
              clear hget hf
              go_wp2_with fail
              refine (hg1.out _ (hT'.out.ext hX)).mono ?_
              rintro e w6 ⟨rfl, hE6⟩
              replace hE6 := hX.trans hE6
              go_upto_region 18 with (first | (refine wpList_store_whole (by rfl) 26 (.tmp 11) (.tmp 90) (by rfl) w6 _ (enRow zEn) w6.heap.size (by rfl) rfl (by rfl) info_entry rfl (en_one zEn) ?_) | fail)
              have hr11 := heap_alloc_new w6 (.cells (enRow zEn) 26)
              have hE7 := (Ext.refl w6).alloc (.cells (enRow zEn) 26)
              replace hE7 := hE6.trans hE7
              clear hE6
              generalize w6.alloc _ = w7 at *
              generalize w6.heap.size = g2 at *
              clear hr11
              go_wp2_with fail
              go_ret
              exact ⟨rfl, hE4.trans hE7⟩
            | some x =>
              obtain ⟨X, hXe⟩ : ∃ X, X = x := ⟨_, rfl⟩
              rw [← hXe] at hf
              clear hXe
              obtain ⟨hxk, hxs⟩ := isP_iff.1 (List.find?_some hf)
              obtain ⟨i0, hi0, hcnt⟩ := cnt_some hLr'.out hf
              have hcn := hcnt L.length
              rw [if_pos hi0] at hcn
              have hget : ∀ w', TabX w2 w' tb L → Calls Try.prog 10 #[.pointer (some ⟨tb, 0, none⟩), .string key, .int .u64 (s : Int)] w' fun e w'' => e = .returned (.tuple #[.agg (enRow X), .bool true]) ∧ Ext w' w'' := fun w' h => by
                have := tx_get h key s
                rw [getS_find hLr'.out, hf] at this; exact this
              have hg1 := Lib.hid hget
              have hcn' := Lib.hid hcn
              clear hget hf hcnt hcn
              go_wp2_with fail
              refine (hg1.out _ (hT'.out.ext hX)).mono ?_
              rintro e w6 ⟨rfl, hE6⟩
              replace hE6 := hX.trans hE6
              go_upto_region 18 with (first | (refine wpList_store_whole (by rfl) 26 (.tmp 11) (.tmp 90) (by rfl) w6 _ (enRow X) w6.heap.size (by rfl) rfl (by rfl) info_entry rfl (en_one X) ?_) | fail)
              have hr11 := heap_alloc_new w6 (.cells (enRow X) 26)
              have hE7 := (Ext.refl w6).alloc (.cells (enRow X) 26)
              replace hE7 := hE6.trans hE7
              clear hE6
              generalize w6.alloc _ = w7 at *
              generalize w6.heap.size = g2 at *
              obtain ⟨y0, y1, _, _⟩ := en_cells hr11
              have hk1 : (X.mark.key.toList == key.toList) = true := beq_iff_eq.2 hxk
              have hk2 : (X.mark.key.toList != key.toList) = false := by unfold bne; rw [hk1]; rfl
              have hs1 : ¬ (s : Int) < (X.mark.seq : Int) := by omega
              have hs2 : decide ((s : Int) < (X.mark.seq : Int)) = false := decide_eq_false hs1
              have hxk' := Lib.hid hxk
              clear hr11 hxk
              by_cases h0 : X.mark.seq = 0
              · have h1 : (X.mark.seq : Int) = 0 := by omega
                have h2 : decide ((X.mark.seq : Int) = 0) = true := decide_eq_true h1
                have hfin : n = j + 1 := by
                  have h3 := hcn'.out
                  have h4 := hjn'.out
                  rw [if_pos h0] at h3; omega
                clear hcn' hjn'
                subst hfin
                go_wp2_with fail
                go_ret
                exact ⟨rfl, hE4.trans hE7⟩
              · have h1 : ¬ (X.mark.seq : Int) = 0 := by omega
                have h2 : decide ((X.mark.seq : Int) = 0) = false := decide_eq_false h1
                have h5 : 1 ≤ (X.mark.seq : Int) := by omega
                have hnx : j + 1 + cntB L key (X.mark.seq - 1) L.length = n := by
                  have h3 := hcn'.out
                  have h4 := hjn'.out
                  rw [if_neg h0] at h3; omega
                have hnx' := Lib.hid hnx
                have hnj : j + 1 ≤ n := by omega
                have hst2 : X.mark.seq - 1 ≤ topN := by omega
                have hX1 : ((X.mark.seq - 1 : Nat) : Int) = (X.mark.seq : Int) - 1 := by omega
                have hX2 := Lib.hid hX1
                have hwr : IntKind.u64.wrap ((X.mark.seq : Int) - 1) = (X.mark.seq : Int) - 1 := by rw [IntKind.wrap_u64]; unfold topN at hst; omega
                clear hcn' hjn' hnx hX1
                go_wp2_with fail
                clear hwr
                go_roundw
                case rel => exact ⟨j + 1, X.mark.seq - 1, by go_num, by rw [hX2.out], hnx'.out, hst2, hE7⟩
                case measure => simp [intOf]; omega
  · have hm' := Lib.hid hm
    clear hm
    go_wp2_with fail
    refine (alive_any w2).mono ?_
    rintro e w3 ⟨rfl, hE3⟩
    go_wp2_with fail
    go_ret
    exact ⟨rfl, hE2.trans hE3⟩
end Go.Proofs.Ythhmehkclgmppaa
