/- The document's Check, kinds cas and scan, and others. (Printed by mkrn6.py.) No condition. -/
import Derived.Test.YtmopjmhapeinjaaGreatDoorGrA5
import Derived.Test.YtmopjmhapeinjaaGreatDoorGrD2
namespace Go.Proofs.YtmopjmhapeinjaaGreatDoor
open Go.RowKit
set_option maxRecDepth 100000
set_option maxHeartbeats 4000000
theorem checkR_cas (w : World) (x : Ak) (a : Option Addr) (cap : Nat) (hs : x.small) (hk : x.kind = 3) : Calls Tryz.prog 32 #[.agg (x.row (.slice a x.chs.length cap))] w fun e w' => e = .returned (.bool x.casB) ∧ Ext w w' := by
  obtain ⟨_, s1, s2, s3, s4, s5⟩ := hs
  obtain ⟨m, hm⟩ : ∃ m, m = x.chs.length := ⟨_, rfl⟩
  rw [← hm]
  have hm' := Lib.hid hm
  clear hm
  unfold Ak.row
  rw [hk]
  clear hk
  obtain ⟨nw, hn⟩ : ∃ nw, nw = x.new := ⟨_, rfl⟩
  rw [← hn]
  have hn' := Lib.hid hn
  clear hn
  go_enter Tryz.func32, Tryz.ntmps32
  go_wp2_with fail
  refine (valR_any _ x.old s3).mono ?_
  rintro e w' ⟨rfl, rfl⟩
  cases hb : valB x.old
  · have h1 := Lib.hid hb
    clear hb
    go_wp2_with fail
    all_goals (have kh1 := h1.out; go_ret; exact ⟨ret_bool (by unfold Ak.casB; rw [← hn'.out]; rw [← hm'.out]; first | (simp [*]; done) | (obtain rfl : m = 0 := (by omega); simp [*]; done) | (have kL : (m == 0) = false := (by rw [beq_eq_false_iff_ne]; omega); simp only [kL, Bool.and_false]; done)), ((Ext.refl _).alloc _).alloc _⟩)
  · have h1 := Lib.hid hb
    clear hb
    cases nw
    · go_wp2_with fail
      refine (keyR_any _ x.key s1).mono ?_
      rintro e w' ⟨rfl, rfl⟩
      cases hb : keyB x.key
      · have h2 := Lib.hid hb
        clear hb
        go_wp2_with fail
        all_goals (have kh1 := h1.out; have kh2 := h2.out; go_ret; exact ⟨ret_bool (by unfold Ak.casB; rw [← hn'.out]; rw [← hm'.out]; first | (simp [*]; done) | (obtain rfl : m = 0 := (by omega); simp [*]; done) | (have kL : (m == 0) = false := (by rw [beq_eq_false_iff_ne]; omega); simp only [kL, Bool.and_false]; done)), ((Ext.refl _).alloc _).alloc _⟩)
      · have h2 := Lib.hid hb
        clear hb
        go_wp2_with fail
        refine (valR_any _ x.val s2).mono ?_
        rintro e w' ⟨rfl, rfl⟩
        cases hb : valB x.val
        · have h3 := Lib.hid hb
          clear hb
          go_wp2_with fail
          all_goals (have kh1 := h1.out; have kh2 := h2.out; have kh3 := h3.out; go_ret; exact ⟨ret_bool (by unfold Ak.casB; rw [← hn'.out]; rw [← hm'.out]; first | (simp [*]; done) | (obtain rfl : m = 0 := (by omega); simp [*]; done) | (have kL : (m == 0) = false := (by rw [beq_eq_false_iff_ne]; omega); simp only [kL, Bool.and_false]; done)), ((Ext.refl _).alloc _).alloc _⟩)
        · have h3 := Lib.hid hb
          clear hb
          go_wp2_with fail
          all_goals (have kh1 := h1.out; have kh2 := h2.out; have kh3 := h3.out; go_ret; exact ⟨ret_bool (by unfold Ak.casB; rw [← hn'.out]; rw [← hm'.out]; first | (simp [*]; done) | (obtain rfl : m = 0 := (by omega); simp [*]; done) | (have kL : (m == 0) = false := (by rw [beq_eq_false_iff_ne]; omega); simp only [kL, Bool.and_false]; done)), ((Ext.refl _).alloc _).alloc _⟩)
    · cases ho : x.old.toList.isEmpty
      · go_wp2_with fail
        all_goals (have kh1 := h1.out; go_ret; exact ⟨ret_bool (by unfold Ak.casB; rw [← hn'.out]; rw [← hm'.out]; first | (simp [*]; done) | (obtain rfl : m = 0 := (by omega); simp [*]; done) | (have kL : (m == 0) = false := (by rw [beq_eq_false_iff_ne]; omega); simp only [kL, Bool.and_false]; done)), ((Ext.refl _).alloc _).alloc _⟩)
      · go_wp2_with fail
        refine (keyR_any _ x.key s1).mono ?_
        rintro e w' ⟨rfl, rfl⟩
        cases hb : keyB x.key
        · have h2 := Lib.hid hb
          clear hb
          go_wp2_with fail
          all_goals (have kh1 := h1.out; have kh2 := h2.out; go_ret; exact ⟨ret_bool (by unfold Ak.casB; rw [← hn'.out]; rw [← hm'.out]; first | (simp [*]; done) | (obtain rfl : m = 0 := (by omega); simp [*]; done) | (have kL : (m == 0) = false := (by rw [beq_eq_false_iff_ne]; omega); simp only [kL, Bool.and_false]; done)), ((Ext.refl _).alloc _).alloc _⟩)
        · have h2 := Lib.hid hb
          clear hb
          go_wp2_with fail
          refine (valR_any _ x.val s2).mono ?_
          rintro e w' ⟨rfl, rfl⟩
          cases hb : valB x.val
          · have h3 := Lib.hid hb
            clear hb
            go_wp2_with fail
            all_goals (have kh1 := h1.out; have kh2 := h2.out; have kh3 := h3.out; go_ret; exact ⟨ret_bool (by unfold Ak.casB; rw [← hn'.out]; rw [← hm'.out]; first | (simp [*]; done) | (obtain rfl : m = 0 := (by omega); simp [*]; done) | (have kL : (m == 0) = false := (by rw [beq_eq_false_iff_ne]; omega); simp only [kL, Bool.and_false]; done)), ((Ext.refl _).alloc _).alloc _⟩)
          · have h3 := Lib.hid hb
            clear hb
            go_wp2_with fail
            all_goals (have kh1 := h1.out; have kh2 := h2.out; have kh3 := h3.out; go_ret; exact ⟨ret_bool (by unfold Ak.casB; rw [← hn'.out]; rw [← hm'.out]; first | (simp [*]; done) | (obtain rfl : m = 0 := (by omega); simp [*]; done) | (have kL : (m == 0) = false := (by rw [beq_eq_false_iff_ne]; omega); simp only [kL, Bool.and_false]; done)), ((Ext.refl _).alloc _).alloc _⟩)
theorem checkR_scan (w : World) (x : Ak) (a : Option Addr) (cap : Nat) (hs : x.small) (hk : x.kind = 6) : Calls Tryz.prog 32 #[.agg (x.row (.slice a x.chs.length cap))] w fun e w' => e = .returned (.bool x.scanB) ∧ Ext w w' := by
  obtain ⟨_, s1, s2, s3, s4, s5⟩ := hs
  obtain ⟨m, hm⟩ : ∃ m, m = x.chs.length := ⟨_, rfl⟩
  rw [← hm]
  have hm' := Lib.hid hm
  clear hm
  unfold Ak.row
  rw [hk]
  clear hk
  go_enter Tryz.func32, Tryz.ntmps32
  go_wp2_with fail
  refine (keyR_any _ x.to s4).mono ?_
  rintro e w' ⟨rfl, rfl⟩
  cases hb : keyB x.to
  · have h1 := Lib.hid hb
    clear hb
    go_wp2_with fail
    all_goals (have kh1 := h1.out; go_ret; exact ⟨ret_bool (by unfold Ak.scanB; rw [← hm'.out]; first | (simp [*]; done) | (obtain rfl : m = 0 := (by omega); simp [*]; done) | (have kL : (m == 0) = false := (by rw [beq_eq_false_iff_ne]; omega); simp only [kL, Bool.and_false]; done)), ((Ext.refl _).alloc _).alloc _⟩)
  · have h1 := Lib.hid hb
    clear hb
    by_cases hm0 : x.many < 0
    · have hd0 : decide (x.many < 0) = true := decide_eq_true hm0
      have h2 : Hid (decide (0 ≤ x.many) = false) := Lib.hid (decide_eq_false (by omega))
      clear hm0
      go_wp2_with fail
      all_goals (have kh1 := h1.out; have kh2 := h2.out; go_ret; exact ⟨ret_bool (by unfold Ak.scanB; rw [← hm'.out]; first | (simp [*]; done) | (obtain rfl : m = 0 := (by omega); simp [*]; done) | (have kL : (m == 0) = false := (by rw [beq_eq_false_iff_ne]; omega); simp only [kL, Bool.and_false]; done)), ((Ext.refl _).alloc _).alloc _⟩)
    · have hd0 : decide (x.many < 0) = false := decide_eq_false hm0
      have h2 : Hid (decide (0 ≤ x.many) = true) := Lib.hid (decide_eq_true (by omega))
      clear hm0
      by_cases hm6 : 64 < x.many
      · have hd6 : decide (64 < x.many) = true := decide_eq_true hm6
        have h3 : Hid (decide (x.many ≤ 64) = false) := Lib.hid (decide_eq_false (by omega))
        clear hm6
        go_wp2_with fail
        all_goals (have kh1 := h1.out; have kh2 := h2.out; have kh3 := h3.out; go_ret; exact ⟨ret_bool (by unfold Ak.scanB; rw [← hm'.out]; first | (simp [*]; done) | (obtain rfl : m = 0 := (by omega); simp [*]; done) | (have kL : (m == 0) = false := (by rw [beq_eq_false_iff_ne]; omega); simp only [kL, Bool.and_false]; done)), ((Ext.refl _).alloc _).alloc _⟩)
      · have hd6 : decide (64 < x.many) = false := decide_eq_false hm6
        have h3 : Hid (decide (x.many ≤ 64) = true) := Lib.hid (decide_eq_true (by omega))
        clear hm6
        go_wp2_with fail
        refine (keyR_any _ x.key s1).mono ?_
        rintro e w' ⟨rfl, rfl⟩
        cases hb : keyB x.key
        · have h4 := Lib.hid hb
          clear hb
          go_wp2_with fail
          all_goals (have kh1 := h1.out; have kh2 := h2.out; have kh3 := h3.out; have kh4 := h4.out; go_ret; exact ⟨ret_bool (by unfold Ak.scanB; rw [← hm'.out]; first | (simp [*]; done) | (obtain rfl : m = 0 := (by omega); simp [*]; done) | (have kL : (m == 0) = false := (by rw [beq_eq_false_iff_ne]; omega); simp only [kL, Bool.and_false]; done) | (have kV := val_empty kh5; simp [*]; done)), ((Ext.refl _).alloc _).alloc _⟩)
        · have h4 := Lib.hid hb
          clear hb
          go_wp2_with fail
          refine (valR_any _ x.val s2).mono ?_
          rintro e w' ⟨rfl, rfl⟩
          cases hb : valB x.val
          · have h5 := Lib.hid hb
            clear hb
            go_wp2_with fail
            all_goals (have kh1 := h1.out; have kh2 := h2.out; have kh3 := h3.out; have kh4 := h4.out; have kh5 := h5.out; go_ret; exact ⟨ret_bool (by unfold Ak.scanB; rw [← hm'.out]; first | (simp [*]; done) | (obtain rfl : m = 0 := (by omega); simp [*]; done) | (have kL : (m == 0) = false := (by rw [beq_eq_false_iff_ne]; omega); simp only [kL, Bool.and_false]; done) | (have kV := val_empty kh5; simp [*]; done)), ((Ext.refl _).alloc _).alloc _⟩)
          · have h5 := Lib.hid hb
            clear hb
            go_wp2_with fail
            all_goals (have kh1 := h1.out; have kh2 := h2.out; have kh3 := h3.out; have kh4 := h4.out; have kh5 := h5.out; go_ret; exact ⟨ret_bool (by unfold Ak.scanB; rw [← hm'.out]; first | (simp [*]; done) | (obtain rfl : m = 0 := (by omega); simp [*]; done) | (have kL : (m == 0) = false := (by rw [beq_eq_false_iff_ne]; omega); simp only [kL, Bool.and_false]; done) | (have kV := val_empty kh5; simp [*]; done)), ((Ext.refl _).alloc _).alloc _⟩)
theorem checkR_other (w : World) (x : Ak) (a : Option Addr) (cap : Nat) (h1 : x.kind ≠ 1) (h2 : x.kind ≠ 2) (h3 : x.kind ≠ 3) (h4 : x.kind ≠ 4) (h5 : x.kind ≠ 5) (h6 : x.kind ≠ 6) : Calls Tryz.prog 32 #[.agg (x.row (.slice a x.chs.length cap))] w fun e w' => e = .returned (.bool false) ∧ Ext w w' := by
  unfold Ak.row
  go_enter Tryz.func32, Tryz.ntmps32
  go_wp2_with fail
  go_ret
  exact ⟨rfl, ((Ext.refl _).alloc _).alloc _⟩
end Go.Proofs.YtmopjmhapeinjaaGreatDoor
