import Derived.Test.YtdkhcamckjidcaaSuf6
namespace Go.Proofs.Ytdkhcamckjidcaa
open Go.RowKit
def zIt (i : Nat) : It := ⟨i, 0, 0, 0, ⟨#[]⟩, ⟨#[]⟩, ⟨#[]⟩, false, ⟨#[]⟩, 0, []⟩
set_option maxRecDepth 100000 in
set_option maxHeartbeats 2000000 in
theorem lives_any (w : World) : Calls Try.prog 8 #[] w fun e w' => e = .returned (.bool true) ∧ Ext w w' := by
  have hz : ∀ (v : World), RowIs v 3 (.slice none (zIt 6).chs.length 0) (zIt 6).chs.length ((zIt 6).chs.flatMap Ch.cells) := fun v => RowIs.nil _ _ _ _ (fun _ => rfl)
  go_enter Try.func8, Try.ntmps8
  go_wp2_with fail
  refine (new_any 5 w).mono ?_
  rintro e w0 ⟨rfl, hw0⟩
  have hS0 : SufOf w0 w.heap.size 5 0 zIt := by rw [hw0]; exact SufOf.new w 5 (by omega) zIt
  have hE0 : OffB (fun k => k = w.heap.size) w w0 := by rw [hw0]; exact .of_ext ((Ext.refl _).alloc _)
  obtain ⟨b, hb⟩ : ∃ b, b = w.heap.size := ⟨_, rfl⟩
  rw [← hb] at hS0 hE0 ⊢
  have hb' := Lib.hid hb
  clear hw0 hb
  go_wp2_with fail
  refine (suf_add hS0 (by omega) (by omega) (zIt 6) rfl rfl none 0 (hz _) (by decide)).mono ?_
  rintro e w1 ⟨rfl, hS1, hE1⟩
  go_wp2_with fail
  refine (suf_add_arg hS1 (zIt 8) (.slice none 0 0) (by decide)).mono ?_
  rintro e w2 ⟨rfl, hS2, hE2⟩
  go_wp2_with fail
  refine (suf_add hS2 (by omega) (by omega) (zIt 7) rfl rfl none 0 (hz _) (by decide)).mono ?_
  rintro e w3 ⟨rfl, hS3, hE3⟩
  go_wp2_with fail
  refine (suf_from hS3 5 (by omega) (by omega)).mono ?_
  rintro e w4 ⟨a4, L4, rfl, hm4, _, hS4, hE4⟩
  have hl4 : L4.length = 2 := by have := congrArg List.length hm4; simpa using this
  rw [hl4]
  clear hm4 hl4
  go_wp2_with fail
  refine (suf_heard hS4 6 (by omega)).mono ?_
  rintro e w5 ⟨rfl, hS5, hE5⟩
  go_wp2_with fail
  refine (suf_from_none hS5 5 (by omega)).mono ?_
  rintro e w6 ⟨rfl, hS6, hE6⟩
  go_wp2_with fail
  refine (suf_from hS6 7 (by omega) (by omega)).mono ?_
  rintro e w7 ⟨a7, L7, rfl, hm7, _, hS7, hE7⟩
  have hl7 : L7.length = 0 := by have := congrArg List.length hm7; simpa using this
  rw [hl7]
  clear hm7 hl7
  go_wp2_with fail
  refine (suf_first hS7).mono ?_
  rintro e w8 ⟨rfl, rfl⟩
  go_wp2_with fail
  refine (suf_last hS7).mono ?_
  rintro e w9 ⟨rfl, rfl⟩
  go_wp2_with fail
  refine (heard_nil _ 0).mono ?_
  rintro e w10 ⟨rfl, rfl⟩
  go_wp2
  go_ret
  have hall : OffB (fun k => k = b) w w8.drew := (((((((hE0.trans hE1).trans (.of_ext hE2)).trans hE3).trans (.of_ext hE4)).trans hE5).trans (.of_ext hE6)).trans (.of_ext hE7)).drew
  exact ⟨rfl, hall.ext (fun k hk hkb => by have := hb'.out; omega)⟩
end Go.Proofs.Ytdkhcamckjidcaa
