/- Several texts in one: Rn6 Rn6b Rn6c. No condition. -/
import Derived.Test.YthageoibkeebhaaGreatDoorGrO
import Derived.Test.YthageoibkeebhaaGreatDoorGrF
import Derived.Test.YthageoibkeebhaaGreatDoorGrA
/- The document's Check, kind by kind. No condition. -/
namespace Go.Proofs.YthageoibkeebhaaGreatDoor
open Go.RowKit
set_option maxRecDepth 100000
set_option maxHeartbeats 4000000
theorem val_empty {s : ByteArray} (h : valB s = false) : s.toList.isEmpty = false := by
  rw [empty_not]
  unfold valB at h
  have := of_decide_eq_false h
  omega
theorem checkR_put (w : World) (x : Ak) (a : Option Addr) (cap : Nat) (hs : x.small) (hk : x.kind = 1) : Calls Tryz.prog 35 #[.agg (x.row (.slice a x.chs.length cap))] w fun e w' => e = .returned (.bool x.putB) ∧ Ext w w' := by
  obtain ⟨_, s1, s2, s3, s4, s5⟩ := hs
  obtain ⟨m, hm⟩ : ∃ m, m = x.chs.length := ⟨_, rfl⟩
  rw [← hm]
  have hm' := Lib.hid hm
  clear hm
  unfold Ak.row
  rw [hk]
  clear hk
  go_enter Tryz.func35, Tryz.ntmps35
  go_wp2_with fail
  refine (keyR_any _ x.key s1).mono ?_
  rintro e w' ⟨rfl, rfl⟩
  cases hb : keyB x.key
  · have h1 := Lib.hid hb
    clear hb
    go_wp2_with fail
    all_goals (have kh1 := h1.out; go_ret; exact ⟨ret_bool (by unfold Ak.putB; rw [← hm'.out]; first | (simp [*]; done) | (obtain rfl : m = 0 := (by omega); simp [*]; done) | (have kL : (m == 0) = false := (by rw [beq_eq_false_iff_ne]; omega); simp only [kL, Bool.and_false]; done) | (have kV := val_empty kh2; simp [*]; done)), ((Ext.refl _).alloc _).alloc _⟩)
  · have h1 := Lib.hid hb
    clear hb
    go_wp2_with fail
    refine (valR_any _ x.val s2).mono ?_
    rintro e w' ⟨rfl, rfl⟩
    cases hb : valB x.val
    · have h2 := Lib.hid hb
      clear hb
      go_wp2_with fail
      all_goals (have kh1 := h1.out; have kh2 := h2.out; go_ret; exact ⟨ret_bool (by unfold Ak.putB; rw [← hm'.out]; first | (simp [*]; done) | (obtain rfl : m = 0 := (by omega); simp [*]; done) | (have kL : (m == 0) = false := (by rw [beq_eq_false_iff_ne]; omega); simp only [kL, Bool.and_false]; done) | (have kV := val_empty kh2; simp [*]; done)), ((Ext.refl _).alloc _).alloc _⟩)
    · have h2 := Lib.hid hb
      clear hb
      go_wp2_with fail
      all_goals (have kh1 := h1.out; have kh2 := h2.out; go_ret; exact ⟨ret_bool (by unfold Ak.putB; rw [← hm'.out]; first | (simp [*]; done) | (obtain rfl : m = 0 := (by omega); simp [*]; done) | (have kL : (m == 0) = false := (by rw [beq_eq_false_iff_ne]; omega); simp only [kL, Bool.and_false]; done) | (have kV := val_empty kh2; simp [*]; done)), ((Ext.refl _).alloc _).alloc _⟩)
theorem checkR_del (w : World) (x : Ak) (a : Option Addr) (cap : Nat) (hs : x.small) (hk : x.kind = 2) : Calls Tryz.prog 35 #[.agg (x.row (.slice a x.chs.length cap))] w fun e w' => e = .returned (.bool x.plainB) ∧ Ext w w' := by
  obtain ⟨_, s1, s2, s3, s4, s5⟩ := hs
  obtain ⟨m, hm⟩ : ∃ m, m = x.chs.length := ⟨_, rfl⟩
  rw [← hm]
  have hm' := Lib.hid hm
  clear hm
  unfold Ak.row
  rw [hk]
  clear hk
  go_enter Tryz.func35, Tryz.ntmps35
  go_wp2_with fail
  refine (keyR_any _ x.key s1).mono ?_
  rintro e w' ⟨rfl, rfl⟩
  cases hb : keyB x.key
  · have h1 := Lib.hid hb
    clear hb
    go_wp2_with fail
    all_goals (have kh1 := h1.out; go_ret; exact ⟨ret_bool (by unfold Ak.plainB; rw [← hm'.out]; first | (simp [*]; done) | (obtain rfl : m = 0 := (by omega); simp [*]; done) | (have kL : (m == 0) = false := (by rw [beq_eq_false_iff_ne]; omega); simp only [kL, Bool.and_false]; done) | (have kV := val_empty kh2; simp [*]; done)), ((Ext.refl _).alloc _).alloc _⟩)
  · have h1 := Lib.hid hb
    clear hb
    go_wp2_with fail
    refine (valR_any _ x.val s2).mono ?_
    rintro e w' ⟨rfl, rfl⟩
    cases hb : valB x.val
    · have h2 := Lib.hid hb
      clear hb
      go_wp2_with fail
      all_goals (have kh1 := h1.out; have kh2 := h2.out; go_ret; exact ⟨ret_bool (by unfold Ak.plainB; rw [← hm'.out]; first | (simp [*]; done) | (obtain rfl : m = 0 := (by omega); simp [*]; done) | (have kL : (m == 0) = false := (by rw [beq_eq_false_iff_ne]; omega); simp only [kL, Bool.and_false]; done) | (have kV := val_empty kh2; simp [*]; done)), ((Ext.refl _).alloc _).alloc _⟩)
    · have h2 := Lib.hid hb
      clear hb
      go_wp2_with fail
      all_goals (have kh1 := h1.out; have kh2 := h2.out; go_ret; exact ⟨ret_bool (by unfold Ak.plainB; rw [← hm'.out]; first | (simp [*]; done) | (obtain rfl : m = 0 := (by omega); simp [*]; done) | (have kL : (m == 0) = false := (by rw [beq_eq_false_iff_ne]; omega); simp only [kL, Bool.and_false]; done) | (have kV := val_empty kh2; simp [*]; done)), ((Ext.refl _).alloc _).alloc _⟩)
theorem checkR_get (w : World) (x : Ak) (a : Option Addr) (cap : Nat) (hs : x.small) (hk : x.kind = 5) : Calls Tryz.prog 35 #[.agg (x.row (.slice a x.chs.length cap))] w fun e w' => e = .returned (.bool x.plainB) ∧ Ext w w' := by
  obtain ⟨_, s1, s2, s3, s4, s5⟩ := hs
  obtain ⟨m, hm⟩ : ∃ m, m = x.chs.length := ⟨_, rfl⟩
  rw [← hm]
  have hm' := Lib.hid hm
  clear hm
  unfold Ak.row
  rw [hk]
  clear hk
  go_enter Tryz.func35, Tryz.ntmps35
  go_wp2_with fail
  refine (keyR_any _ x.key s1).mono ?_
  rintro e w' ⟨rfl, rfl⟩
  cases hb : keyB x.key
  · have h1 := Lib.hid hb
    clear hb
    go_wp2_with fail
    all_goals (have kh1 := h1.out; go_ret; exact ⟨ret_bool (by unfold Ak.plainB; rw [← hm'.out]; first | (simp [*]; done) | (obtain rfl : m = 0 := (by omega); simp [*]; done) | (have kL : (m == 0) = false := (by rw [beq_eq_false_iff_ne]; omega); simp only [kL, Bool.and_false]; done) | (have kV := val_empty kh2; simp [*]; done)), ((Ext.refl _).alloc _).alloc _⟩)
  · have h1 := Lib.hid hb
    clear hb
    go_wp2_with fail
    refine (valR_any _ x.val s2).mono ?_
    rintro e w' ⟨rfl, rfl⟩
    cases hb : valB x.val
    · have h2 := Lib.hid hb
      clear hb
      go_wp2_with fail
      all_goals (have kh1 := h1.out; have kh2 := h2.out; go_ret; exact ⟨ret_bool (by unfold Ak.plainB; rw [← hm'.out]; first | (simp [*]; done) | (obtain rfl : m = 0 := (by omega); simp [*]; done) | (have kL : (m == 0) = false := (by rw [beq_eq_false_iff_ne]; omega); simp only [kL, Bool.and_false]; done) | (have kV := val_empty kh2; simp [*]; done)), ((Ext.refl _).alloc _).alloc _⟩)
    · have h2 := Lib.hid hb
      clear hb
      go_wp2_with fail
      all_goals (have kh1 := h1.out; have kh2 := h2.out; go_ret; exact ⟨ret_bool (by unfold Ak.plainB; rw [← hm'.out]; first | (simp [*]; done) | (obtain rfl : m = 0 := (by omega); simp [*]; done) | (have kL : (m == 0) = false := (by rw [beq_eq_false_iff_ne]; omega); simp only [kL, Bool.and_false]; done) | (have kV := val_empty kh2; simp [*]; done)), ((Ext.refl _).alloc _).alloc _⟩)
end Go.Proofs.YthageoibkeebhaaGreatDoor

/- The document's Check, kinds cas and scan, and others. (Printed by mkrn6.py.) No condition. -/
namespace Go.Proofs.YthageoibkeebhaaGreatDoor
open Go.RowKit
set_option maxRecDepth 100000
set_option maxHeartbeats 4000000
theorem checkR_cas (w : World) (x : Ak) (a : Option Addr) (cap : Nat) (hs : x.small) (hk : x.kind = 3) : Calls Tryz.prog 35 #[.agg (x.row (.slice a x.chs.length cap))] w fun e w' => e = .returned (.bool x.casB) ∧ Ext w w' := by
  obtain ⟨_, s1, s2, s3, s4, s5⟩ := hs
  obtain ⟨m, hm⟩ : ∃ m, m = x.chs.length := ⟨_, rfl⟩
  rw [← hm]
  have hm' := Lib.hid hm
  clear hm
  unfold Ak.row
  rw [hk]
  clear hk
  obtain ⟨nw, hn⟩ : ∃ nw, nw = x.new := ⟨_, rfl⟩
  rw [← hn]
  have hn' := Lib.hid hn
  clear hn
  go_enter Tryz.func35, Tryz.ntmps35
  go_wp2_with fail
  refine (valR_any _ x.old s3).mono ?_
  rintro e w' ⟨rfl, rfl⟩
  cases hb : valB x.old
  · have h1 := Lib.hid hb
    clear hb
    go_wp2_with fail
    all_goals (have kh1 := h1.out; go_ret; exact ⟨ret_bool (by unfold Ak.casB; rw [← hn'.out]; rw [← hm'.out]; first | (simp [*]; done) | (obtain rfl : m = 0 := (by omega); simp [*]; done) | (have kL : (m == 0) = false := (by rw [beq_eq_false_iff_ne]; omega); simp only [kL, Bool.and_false]; done)), ((Ext.refl _).alloc _).alloc _⟩)
  · have h1 := Lib.hid hb
    clear hb
    cases nw
    · go_wp2_with fail
      refine (keyR_any _ x.key s1).mono ?_
      rintro e w' ⟨rfl, rfl⟩
      cases hb : keyB x.key
      · have h2 := Lib.hid hb
        clear hb
        go_wp2_with fail
        all_goals (have kh1 := h1.out; have kh2 := h2.out; go_ret; exact ⟨ret_bool (by unfold Ak.casB; rw [← hn'.out]; rw [← hm'.out]; first | (simp [*]; done) | (obtain rfl : m = 0 := (by omega); simp [*]; done) | (have kL : (m == 0) = false := (by rw [beq_eq_false_iff_ne]; omega); simp only [kL, Bool.and_false]; done)), ((Ext.refl _).alloc _).alloc _⟩)
      · have h2 := Lib.hid hb
        clear hb
        go_wp2_with fail
        refine (valR_any _ x.val s2).mono ?_
        rintro e w' ⟨rfl, rfl⟩
        cases hb : valB x.val
        · have h3 := Lib.hid hb
          clear hb
          go_wp2_with fail
          all_goals (have kh1 := h1.out; have kh2 := h2.out; have kh3 := h3.out; go_ret; exact ⟨ret_bool (by unfold Ak.casB; rw [← hn'.out]; rw [← hm'.out]; first | (simp [*]; done) | (obtain rfl : m = 0 := (by omega); simp [*]; done) | (have kL : (m == 0) = false := (by rw [beq_eq_false_iff_ne]; omega); simp only [kL, Bool.and_false]; done)), ((Ext.refl _).alloc _).alloc _⟩)
        · have h3 := Lib.hid hb
          clear hb
          go_wp2_with fail
          all_goals (have kh1 := h1.out; have kh2 := h2.out; have kh3 := h3.out; go_ret; exact ⟨ret_bool (by unfold Ak.casB; rw [← hn'.out]; rw [← hm'.out]; first | (simp [*]; done) | (obtain rfl : m = 0 := (by omega); simp [*]; done) | (have kL : (m == 0) = false := (by rw [beq_eq_false_iff_ne]; omega); simp only [kL, Bool.and_false]; done)), ((Ext.refl _).alloc _).alloc _⟩)
    · cases ho : x.old.toList.isEmpty
      · go_wp2_with fail
        all_goals (have kh1 := h1.out; go_ret; exact ⟨ret_bool (by unfold Ak.casB; rw [← hn'.out]; rw [← hm'.out]; first | (simp [*]; done) | (obtain rfl : m = 0 := (by omega); simp [*]; done) | (have kL : (m == 0) = false := (by rw [beq_eq_false_iff_ne]; omega); simp only [kL, Bool.and_false]; done)), ((Ext.refl _).alloc _).alloc _⟩)
      · go_wp2_with fail
        refine (keyR_any _ x.key s1).mono ?_
        rintro e w' ⟨rfl, rfl⟩
        cases hb : keyB x.key
        · have h2 := Lib.hid hb
          clear hb
          go_wp2_with fail
          all_goals (have kh1 := h1.out; have kh2 := h2.out; go_ret; exact ⟨ret_bool (by unfold Ak.casB; rw [← hn'.out]; rw [← hm'.out]; first | (simp [*]; done) | (obtain rfl : m = 0 := (by omega); simp [*]; done) | (have kL : (m == 0) = false := (by rw [beq_eq_false_iff_ne]; omega); simp only [kL, Bool.and_false]; done)), ((Ext.refl _).alloc _).alloc _⟩)
        · have h2 := Lib.hid hb
          clear hb
          go_wp2_with fail
          refine (valR_any _ x.val s2).mono ?_
          rintro e w' ⟨rfl, rfl⟩
          cases hb : valB x.val
          · have h3 := Lib.hid hb
            clear hb
            go_wp2_with fail
            all_goals (have kh1 := h1.out; have kh2 := h2.out; have kh3 := h3.out; go_ret; exact ⟨ret_bool (by unfold Ak.casB; rw [← hn'.out]; rw [← hm'.out]; first | (simp [*]; done) | (obtain rfl : m = 0 := (by omega); simp [*]; done) | (have kL : (m == 0) = false := (by rw [beq_eq_false_iff_ne]; omega); simp only [kL, Bool.and_false]; done)), ((Ext.refl _).alloc _).alloc _⟩)
          · have h3 := Lib.hid hb
            clear hb
            go_wp2_with fail
            all_goals (have kh1 := h1.out; have kh2 := h2.out; have kh3 := h3.out; go_ret; exact ⟨ret_bool (by unfold Ak.casB; rw [← hn'.out]; rw [← hm'.out]; first | (simp [*]; done) | (obtain rfl : m = 0 := (by omega); simp [*]; done) | (have kL : (m == 0) = false := (by rw [beq_eq_false_iff_ne]; omega); simp only [kL, Bool.and_false]; done)), ((Ext.refl _).alloc _).alloc _⟩)
theorem checkR_scan (w : World) (x : Ak) (a : Option Addr) (cap : Nat) (hs : x.small) (hk : x.kind = 6) : Calls Tryz.prog 35 #[.agg (x.row (.slice a x.chs.length cap))] w fun e w' => e = .returned (.bool x.scanB) ∧ Ext w w' := by
  obtain ⟨_, s1, s2, s3, s4, s5⟩ := hs
  obtain ⟨m, hm⟩ : ∃ m, m = x.chs.length := ⟨_, rfl⟩
  rw [← hm]
  have hm' := Lib.hid hm
  clear hm
  unfold Ak.row
  rw [hk]
  clear hk
  go_enter Tryz.func35, Tryz.ntmps35
  go_wp2_with fail
  refine (keyR_any _ x.to s4).mono ?_
  rintro e w' ⟨rfl, rfl⟩
  cases hb : keyB x.to
  · have h1 := Lib.hid hb
    clear hb
    go_wp2_with fail
    all_goals (have kh1 := h1.out; go_ret; exact ⟨ret_bool (by unfold Ak.scanB; rw [← hm'.out]; first | (simp [*]; done) | (obtain rfl : m = 0 := (by omega); simp [*]; done) | (have kL : (m == 0) = false := (by rw [beq_eq_false_iff_ne]; omega); simp only [kL, Bool.and_false]; done)), ((Ext.refl _).alloc _).alloc _⟩)
  · have h1 := Lib.hid hb
    clear hb
    by_cases hm0 : x.many < 0
    · have hd0 : decide (x.many < 0) = true := decide_eq_true hm0
      have h2 : Hid (decide (0 ≤ x.many) = false) := Lib.hid (decide_eq_false (by omega))
      clear hm0
      go_wp2_with fail
      all_goals (have kh1 := h1.out; have kh2 := h2.out; go_ret; exact ⟨ret_bool (by unfold Ak.scanB; rw [← hm'.out]; first | (simp [*]; done) | (obtain rfl : m = 0 := (by omega); simp [*]; done) | (have kL : (m == 0) = false := (by rw [beq_eq_false_iff_ne]; omega); simp only [kL, Bool.and_false]; done)), ((Ext.refl _).alloc _).alloc _⟩)
    · have hd0 : decide (x.many < 0) = false := decide_eq_false hm0
      have h2 : Hid (decide (0 ≤ x.many) = true) := Lib.hid (decide_eq_true (by omega))
      clear hm0
      by_cases hm6 : 64 < x.many
      · have hd6 : decide (64 < x.many) = true := decide_eq_true hm6
        have h3 : Hid (decide (x.many ≤ 64) = false) := Lib.hid (decide_eq_false (by omega))
        clear hm6
        go_wp2_with fail
        all_goals (have kh1 := h1.out; have kh2 := h2.out; have kh3 := h3.out; go_ret; exact ⟨ret_bool (by unfold Ak.scanB; rw [← hm'.out]; first | (simp [*]; done) | (obtain rfl : m = 0 := (by omega); simp [*]; done) | (have kL : (m == 0) = false := (by rw [beq_eq_false_iff_ne]; omega); simp only [kL, Bool.and_false]; done)), ((Ext.refl _).alloc _).alloc _⟩)
      · have hd6 : decide (64 < x.many) = false := decide_eq_false hm6
        have h3 : Hid (decide (x.many ≤ 64) = true) := Lib.hid (decide_eq_true (by omega))
        clear hm6
        go_wp2_with fail
        refine (keyR_any _ x.key s1).mono ?_
        rintro e w' ⟨rfl, rfl⟩
        cases hb : keyB x.key
        · have h4 := Lib.hid hb
          clear hb
          go_wp2_with fail
          all_goals (have kh1 := h1.out; have kh2 := h2.out; have kh3 := h3.out; have kh4 := h4.out; go_ret; exact ⟨ret_bool (by unfold Ak.scanB; rw [← hm'.out]; first | (simp [*]; done) | (obtain rfl : m = 0 := (by omega); simp [*]; done) | (have kL : (m == 0) = false := (by rw [beq_eq_false_iff_ne]; omega); simp only [kL, Bool.and_false]; done) | (have kV := val_empty kh5; simp [*]; done)), ((Ext.refl _).alloc _).alloc _⟩)
        · have h4 := Lib.hid hb
          clear hb
          go_wp2_with fail
          refine (valR_any _ x.val s2).mono ?_
          rintro e w' ⟨rfl, rfl⟩
          cases hb : valB x.val
          · have h5 := Lib.hid hb
            clear hb
            go_wp2_with fail
            all_goals (have kh1 := h1.out; have kh2 := h2.out; have kh3 := h3.out; have kh4 := h4.out; have kh5 := h5.out; go_ret; exact ⟨ret_bool (by unfold Ak.scanB; rw [← hm'.out]; first | (simp [*]; done) | (obtain rfl : m = 0 := (by omega); simp [*]; done) | (have kL : (m == 0) = false := (by rw [beq_eq_false_iff_ne]; omega); simp only [kL, Bool.and_false]; done) | (have kV := val_empty kh5; simp [*]; done)), ((Ext.refl _).alloc _).alloc _⟩)
          · have h5 := Lib.hid hb
            clear hb
            go_wp2_with fail
            all_goals (have kh1 := h1.out; have kh2 := h2.out; have kh3 := h3.out; have kh4 := h4.out; have kh5 := h5.out; go_ret; exact ⟨ret_bool (by unfold Ak.scanB; rw [← hm'.out]; first | (simp [*]; done) | (obtain rfl : m = 0 := (by omega); simp [*]; done) | (have kL : (m == 0) = false := (by rw [beq_eq_false_iff_ne]; omega); simp only [kL, Bool.and_false]; done) | (have kV := val_empty kh5; simp [*]; done)), ((Ext.refl _).alloc _).alloc _⟩)
theorem checkR_other (w : World) (x : Ak) (a : Option Addr) (cap : Nat) (h1 : x.kind ≠ 1) (h2 : x.kind ≠ 2) (h3 : x.kind ≠ 3) (h4 : x.kind ≠ 4) (h5 : x.kind ≠ 5) (h6 : x.kind ≠ 6) : Calls Tryz.prog 35 #[.agg (x.row (.slice a x.chs.length cap))] w fun e w' => e = .returned (.bool false) ∧ Ext w w' := by
  unfold Ak.row
  go_enter Tryz.func35, Tryz.ntmps35
  go_wp2_with fail
  go_ret
  exact ⟨rfl, ((Ext.refl _).alloc _).alloc _⟩
end Go.Proofs.YthageoibkeebhaaGreatDoor

/- The document's Check, a batch; and whole. No condition. -/
namespace Go.Proofs.YthageoibkeebhaaGreatDoor
open Go.RowKit
set_option maxRecDepth 100000
set_option maxHeartbeats 4000000
theorem checkR_batch (w : World) (x : Ak) (a : Option Addr) (cap : Nat) (h : ChsAt w x.chs a cap) (hs : x.small) (hk : x.kind = 4) : Calls Tryz.prog 35 #[.agg (x.row (.slice a x.chs.length cap))] w fun e w' => e = .returned (.bool x.batchB) ∧ Ext w w' := by
  obtain ⟨_, s1, s2, s3, s4, s5⟩ := hs
  obtain ⟨hr, hby, hsm⟩ := h
  obtain ⟨m, hm⟩ : ∃ m, m = x.chs.length := ⟨_, rfl⟩
  rw [← hm] at hr hby ⊢
  obtain ⟨V, hV⟩ : ∃ W, W = (w.alloc (.cells #[.int .u8 4, .string x.key, .string x.val, .string x.old, .bool x.new, .string x.to, .int .i64 x.many, .slice a m cap] 66)).alloc (.cells #[.int .u8 4, .string x.key, .string ⟨#[]⟩, .string ⟨#[]⟩, .bool false, .string ⟨#[]⟩, .int .i64 0, .slice none 0 0] 66) := ⟨_, rfl⟩
  have hE0 : Ext w V := by rw [hV]; exact ((Ext.refl _).alloc _).alloc _
  have hX : V.heap[w.heap.size]? = some (.cells #[.int .u8 4, .string x.key, .string x.val, .string x.old, .bool x.new, .string x.to, .int .i64 x.many, .slice a m cap] 66 (0, 0)) := by rw [hV]; exact ((Ext.refl _).alloc _).row (heap_alloc_new w _)
  have hx : Hid (∀ W, Ext V W → W.cell? ⟨w.heap.size, 1, none⟩ = some (.string x.key) ∧ W.cell? ⟨w.heap.size, 2, none⟩ = some (.string x.val) ∧ W.cell? ⟨w.heap.size, 3, none⟩ = some (.string x.old) ∧ W.cell? ⟨w.heap.size, 4, none⟩ = some (.bool x.new) ∧ W.cell? ⟨w.heap.size, 5, none⟩ = some (.string x.to) ∧ W.cell? ⟨w.heap.size, 6, none⟩ = some (.int .i64 x.many) ∧ W.cell? ⟨w.heap.size, 7, none⟩ = some (.slice a m cap)) := Lib.hid (fun W hE => by
    have h1 := hE.row hX
    refine ⟨?_, ?_, ?_, ?_, ?_, ?_, ?_⟩ <;> (rw [cell_of_row _ _ _ _ 66 (0, 0) h1]; rfl))
  have hm' := Lib.hid hm
  have hr' := Lib.hid hr
  have hsm' := Lib.hid hsm
  have hV' := Lib.hid hV
  have hmb : m ≤ 140737488351232 := by omega
  clear hm hr hsm hV hX hby
  unfold Ak.row
  rw [hk]
  clear hk
  go_enter Tryz.func35, Tryz.ntmps35
  go_upto_region 15 with fail
  rw [← hV'.out]
  go_wp2_with fail
  go_loopw [4] (fun i wr => ∃ k : Nat, k ≤ m ∧ i = .int .i64 k ∧ Hid (∀ c ∈ x.chs.take k, c.okB = true) ∧ Ext V wr) (fun i _ => m - (intOf i).toNat)
  case atStart => exact ⟨0, by omega, rfl, Lib.hid (fun _ h => nomatch h), Ext.refl _⟩
  case round =>
    obtain ⟨k, hk, rfl, hok, hE⟩ := hrel
    obtain ⟨x1, x2, x3, x4, x5, x6, x7⟩ := hx.out wr hE
    by_cases hlt : k < m
    · have hli : (k : Int) < (m : Int) := by omega
      obtain ⟨c, hc⟩ : ∃ c, x.chs[k]? = some c := ⟨_, List.getElem?_eq_getElem (by rw [← hm'.out]; exact hlt)⟩
      obtain ⟨b, off, hat⟩ := (hr'.out.ext (hE0.trans hE)).at
      obtain ⟨rfl, _, hd⟩ := hat (by omega)
      have p : wr.rangeAt b (off + k * 3) [.string c.key, .string c.val, .bool c.gone] := ch_range (by rw [← hm'.out]; exact hd) hc
      obtain ⟨z1, z2⟩ := hsm'.out c (List.mem_of_getElem? hc)
      have hnx : Hid (c.okB = true → ∀ y ∈ x.chs.take (k + 1), y.okB = true) := Lib.hid (fun hP y hy => by
        rw [List.take_add_one, hc] at hy
        rcases List.mem_append.1 hy with hy | hy
        · exact hok.out y hy
        · rw [List.mem_singleton.1 hy]; exact hP)
      have hbad : Hid (c.okB = false → x.batchB = false) := Lib.hid (fun hP => by
        have h1 : chsB x.chs = false := by
          unfold chsB
          rw [List.all_eq_false]
          exact ⟨c, List.mem_of_getElem? hc, by rw [hP]; simp⟩
        unfold Ak.batchB
        rw [h1]
        simp)
      clear hd hat hc
      go_upto_region 19 with (first | (refine wpList_load_mid (by rfl) 102 (.tmp 57) (by rfl) b (off + k * 3) (by rfl) [.string c.key, .string c.val, .bool c.gone] _ p Tryz.underlying102 rfl (by exact info_ch) ?_) | fail)
      have hE1 := hE.alloc (.cells #[.string c.key, .string c.val, .bool c.gone] 102)
      have hc1 := heap_alloc_new wr (.cells #[.string c.key, .string c.val, .bool c.gone] 102)
      clear p x1 x2 x3 x4 x5 x6 x7
      generalize wr.alloc _ = W1 at *
      have c0 : W1.cell? ⟨wr.heap.size, 0, none⟩ = some (.string c.key) := by rw [cell_of_row _ _ _ _ 102 (0, 0) hc1]; rfl
      have c1 : W1.cell? ⟨wr.heap.size, 1, none⟩ = some (.string c.val) := by rw [cell_of_row _ _ _ _ 102 (0, 0) hc1]; rfl
      have c2 : W1.cell? ⟨wr.heap.size, 2, none⟩ = some (.bool c.gone) := by rw [cell_of_row _ _ _ _ 102 (0, 0) hc1]; rfl
      clear hc1
      go_wp2_with fail
      refine (keyR_any W1 c.key z1).mono ?_
      rintro e w' ⟨rfl, rfl⟩
      cases hb : keyB c.key
      · have hf : Hid (x.batchB = false) := Lib.hid (hbad.out (by unfold Ch.okB; rw [hb]; rfl))
        clear hb
        go_wp2_with fail
        go_ret
        exact ⟨ret_bool hf.out.symm, hE0.trans hE1⟩
      · have h1 := Lib.hid hb
        clear hb
        go_wp2_with fail
        refine (valR_any W1 c.val z2).mono ?_
        rintro e w' ⟨rfl, rfl⟩
        cases hb : valB c.val
        · have hf : Hid (x.batchB = false) := Lib.hid (hbad.out (by unfold Ch.okB; rw [hb, h1.out]; rfl))
          clear hb
          go_wp2_with fail
          go_ret
          exact ⟨ret_bool hf.out.symm, hE0.trans hE1⟩
        · have h2 := Lib.hid hb
          clear hb
          cases hg : c.gone
          · rw [hg] at c2
            have hgo : Hid (c.okB = true) := Lib.hid (by unfold Ch.okB; rw [h1.out, h2.out, hg]; rfl)
            have hnx2 := Lib.hid (hnx.out hgo.out)
            clear hg
            go_wp2_with fail
            go_roundw
            case rel => exact ⟨k + 1, by omega, by go_num, hnx2, hE1⟩
            case measure => simp [intOf]; omega
          · rw [hg] at c2
            cases hv : c.val.toList.isEmpty
            · have hf : Hid (x.batchB = false) := Lib.hid (hbad.out (by unfold Ch.okB; rw [h1.out, h2.out, hg, hv]; rfl))
              clear hg
              go_wp2_with fail
              go_ret
              exact ⟨ret_bool hf.out.symm, hE0.trans hE1⟩
            · have hgo : Hid (c.okB = true) := Lib.hid (by unfold Ch.okB; rw [h1.out, h2.out, hg, hv]; rfl)
              have hnx2 := Lib.hid (hnx.out hgo.out)
              clear hg
              go_wp2_with fail
              go_roundw
              case rel => exact ⟨k + 1, by omega, by go_num, hnx2, hE1⟩
              case measure => simp [intOf]; omega
    · have hli : ¬ (k : Int) < (m : Int) := by omega
      have hall : Hid (chsB x.chs = true) := Lib.hid (by
        unfold chsB
        rw [List.all_eq_true]
        intro y hy
        exact hok.out y (by rw [List.take_of_length_le (by rw [← hm'.out]; omega)]; exact hy))
      have hEz := hE0.trans hE
      by_cases hm1 : 1 ≤ m
      · have hi1 : (1 : Int) ≤ (m : Int) := by omega
        have q1 : Hid (decide (0 < m) = true) := Lib.hid (decide_eq_true (by omega))
        by_cases hm16 : m ≤ 16
        · have hi16 : (m : Int) ≤ 16 := by omega
          have q2 : Hid (decide (m ≤ 16) = true) := Lib.hid (decide_eq_true (by omega))
          go_wp2_with fail
          all_goals (have k1 := q1.out; have k2 := q2.out; have k3 := hall.out; go_ret; exact ⟨ret_bool (by unfold Ak.batchB; rw [← hm'.out]; simp [*]; done), hEz⟩)
        · have hi16 : ¬ (m : Int) ≤ 16 := by omega
          have q2 : Hid (decide (m ≤ 16) = false) := Lib.hid (decide_eq_false (by omega))
          go_wp2_with fail
          all_goals (have k2 := q2.out; go_ret; exact ⟨ret_bool (by unfold Ak.batchB; rw [← hm'.out, k2]; simp), hEz⟩)
      · have hi1 : ¬ (1 : Int) ≤ (m : Int) := by omega
        have q1 : Hid (decide (0 < m) = false) := Lib.hid (decide_eq_false (by omega))
        go_wp2_with fail
        all_goals (have k2 := q1.out; go_ret; exact ⟨ret_bool (by unfold Ak.batchB; rw [← hm'.out, k2]; simp), hEz⟩)
theorem checkR_any (w : World) (x : Ak) (a : Option Addr) (cap : Nat) (h : ChsAt w x.chs a cap) (hs : x.small) : Calls Tryz.prog 35 #[.agg (x.row (.slice a x.chs.length cap))] w fun e w' => e = .returned (.bool x.okB) ∧ Ext w w' := by
  unfold Ak.okB
  by_cases h1 : x.kind = 1
  · rw [if_pos h1]; exact checkR_put w x a cap hs h1
  · rw [if_neg h1]
    by_cases h3 : x.kind = 3
    · rw [if_pos h3]; exact checkR_cas w x a cap hs h3
    · rw [if_neg h3]
      by_cases h4 : x.kind = 4
      · rw [if_pos h4]; exact checkR_batch w x a cap h hs h4
      · rw [if_neg h4]
        by_cases h6 : x.kind = 6
        · rw [if_pos h6]; exact checkR_scan w x a cap hs h6
        · rw [if_neg h6]
          by_cases h2 : x.kind = 2
          · rw [if_pos h2]; exact checkR_del w x a cap hs h2
          · rw [if_neg h2]
            by_cases h5 : x.kind = 5
            · rw [if_pos h5]; exact checkR_get w x a cap hs h5
            · rw [if_neg h5]; exact checkR_other w x a cap h1 h2 h3 h4 h5 h6
end Go.Proofs.YthageoibkeebhaaGreatDoor
