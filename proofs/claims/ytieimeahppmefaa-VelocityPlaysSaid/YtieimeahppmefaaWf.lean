/-
  Velocity: walks over awake and the law VelocityFull. No condition.
-/
import Derived.Test.YtieimeahppmefaaWe
namespace Go.Proofs.Ytieimeahppmefaa
open Go.RowKit
set_option linter.unusedVariables false

abbrev kk : ByteArray := ⟨#[107]⟩
def A0 : VS := ⟨100, 0, []⟩
def A1 : VS := addS A0 kk 10 5
def A2 : VS := addS A1 kk 20 7
def A3 : VS := forS A2 110
theorem A0_ok : A0.Ok := VS.Ok.new (by decide) (by decide)
theorem A1_ok : A1.Ok := A0_ok.addS _ _ _
theorem A2_ok : A2.Ok := A1_ok.addS _ _ _
theorem aE0 : addE A0 kk 10 5 = 0 := by decide +kernel
theorem aE1 : addE A1 kk 20 7 = 0 := by decide +kernel
theorem aC1 : cntN A2 kk 20 10 = 1 := by decide +kernel
theorem aC2 : cntN A2 kk 20 11 = 2 := by decide +kernel
theorem aC3 : sumN A2 kk 29 10 = 7 := by decide +kernel
theorem aC4 : cntN A2 kk 30 10 = 0 := by decide +kernel
theorem aC5 : forN A2 110 = 1 := by decide +kernel
theorem aC6 : A3.us.length = 1 := by decide +kernel
theorem VRep.call {w w' : World} {B p : Nat} {s : VS} (h : VRep w B p s) (hb : Below w.heap.size w w') : VRep w' B p s := by
  obtain ⟨h1, A, c, h2, h3⟩ := h
  exact ⟨h1, A, c, h2.call hb, own_call h3 hb⟩

set_option maxHeartbeats 400000 in
theorem awake_any (w : World) : Calls Try.prog 8 #[] w fun e w' => e = .returned (.bool true) ∧ Below w.heap.size w w' := by
  go_enter Try.func8, Try.ntmps8
  go_wp2_with fail
  refine (new_yes 100 w (by decide) (by decide)).mono ?_
  rintro e w1 ⟨rfl, R1, b1⟩
  obtain ⟨p, hp⟩ : ∃ p, w.heap.size = p := ⟨_, rfl⟩
  have z1 := b1.size
  rw [hp] at R1 z1 ⊢
  go_wp2_with fail
  refine (add_any p p A0 A0_ok kk 10 5 w1 z1 R1).mono ?_
  rintro e w2 ⟨rfl, R2, T2⟩
  rw [aE0]
  have z2 := Nat.le_trans z1 T2.size
  go_wp2_with fail
  refine (add_any p p A1 A1_ok kk 20 7 w2 z2 R2).mono ?_
  rintro e w3 ⟨rfl, R3, T3⟩
  rw [aE1]
  have z3 := Nat.le_trans z2 T3.size
  go_wp2_with fail
  refine (count_any p p A2 A2_ok kk 20 10 w3 R3).mono ?_
  rintro e w4 ⟨rfl, b4⟩
  rw [aC1]
  have R4 := VRep.call R3 b4
  go_wp2_with fail
  refine (count_any p p A2 A2_ok kk 20 11 w4 R4).mono ?_
  rintro e w5 ⟨rfl, b5⟩
  rw [aC2]
  have R5 := VRep.call R4 b5
  go_wp2_with fail
  refine (sum_any p p A2 A2_ok kk 29 10 w5 R5).mono ?_
  rintro e w6 ⟨rfl, b6⟩
  rw [aC3]
  have R6 := VRep.call R5 b6
  go_wp2_with fail
  refine (count_any p p A2 A2_ok kk 30 10 w6 R6).mono ?_
  rintro e w7 ⟨rfl, b7⟩
  rw [aC4]
  have R7 := VRep.call R6 b7
  have z7 : p ≤ w7.heap.size := by have := b4.size; have := b5.size; have := b6.size; have := b7.size; omega
  go_wp2_with fail
  refine (for_any p p A2 A2_ok 110 w7 z7 R7).mono ?_
  rintro e w8 ⟨rfl, R8, T8⟩
  rw [aC5]
  go_wp2_with fail
  refine (len_any p p A3 w8 R8).mono ?_
  rintro e w9 ⟨rfl, rfl⟩
  rw [aC6]
  go_wp2_with fail
  go_ret
  refine ⟨rfl, ?_⟩
  have t : Below p w1 w8 := (((T2.trans T3).below.trans (b4.mono z3)).trans ((b5.mono (by have := b4.size; omega)).trans ((b6.mono (by have := b4.size; have := b5.size; omega)).trans ((b7.mono (by have := b4.size; have := b5.size; have := b6.size; omega)).trans T8.below))))
  rw [hp] at b1 ⊢
  exact b1.trans t

theorem k_repl (h : Int) (_h1 : 1 ≤ h) (i : Nat) (a : Int) (ha : a < h) : young (a - h) (List.replicate i ⟨kk, 0, 0⟩) = List.replicate i ⟨kk, 0, 0⟩ := by
  unfold young
  rw [List.filter_eq_self]
  intro u hu
  obtain ⟨_, rfl⟩ := List.mem_replicate.1 hu
  unfold isOld
  simp
  omega
def SF (h : Int) (i : Nat) : VS := ⟨h, 0, List.replicate i ⟨kk, 0, 0⟩⟩
theorem SF_ok (h : Int) (h1 : 1 ≤ h) (h2 : h ≤ 10000000) (i : Nat) (hi : i ≤ 1000) : (SF h i).Ok := by
  refine ⟨h1, h2, Int.le_refl 0, show (0 : Int) ≤ maxTime by decide, ?_, ?_, by simpa [SF] using hi⟩
  · intro u hu
    obtain ⟨_, rfl⟩ := List.mem_replicate.1 hu
    exact ⟨by decide, Int.le_refl 0, by decide, by decide⟩
  · unfold SF
    rw [List.pairwise_replicate]
    right
    decide
theorem SF_add (h : Int) (h1 : 1 ≤ h) (i : Nat) (hi : i < 1000) : addE (SF h i) kk 0 0 = 0 ∧ addS (SF h i) kk 0 0 = SF h (i + 1) := by
  have hy : young (0 - (SF h i).h) (SF h i).us = (SF h i).us := k_repl h h1 i 0 (by omega)
  have e : addE (SF h i) kk 0 0 = 0 := addE_0 (by decide) ⟨by decide, Int.le_refl 0⟩ (by decide) (by rw [hy]; simpa [SF] using hi)
  refine ⟨e, ?_⟩
  unfold addS
  rw [if_pos e, hy]
  unfold SF
  rw [List.replicate_succ']
theorem SF_full (h : Int) (h1 : 1 ≤ h) (h2 : h ≤ 10000000) : addE (SF h 1000) kk (h - 1) 0 = 12 := by
  have hy : young (h - 1 - (SF h 1000).h) (SF h 1000).us = (SF h 1000).us := k_repl h h1 1000 (h - 1) (by omega)
  exact addE_12 (by decide) ⟨⟨by omega, by unfold maxTime; omega⟩, show (0 : Int) ≤ h - 1 by omega⟩ (by decide) (by rw [hy]; exact Nat.le_of_eq (List.length_replicate (n := 1000)).symm)
theorem SF_free (h : Int) (h1 : 1 ≤ h) (h2 : h ≤ 10000000) : addE (SF h 1000) kk h 0 = 0 ∧ addS (SF h 1000) kk h 0 = ⟨h, h, [⟨kk, h, 0⟩]⟩ := by
  have hy : young (h - (SF h 1000).h) (SF h 1000).us = [] := by
    unfold young SF
    rw [List.filter_eq_nil_iff]
    intro u hu
    obtain ⟨_, rfl⟩ := List.mem_replicate.1 hu
    unfold isOld
    simp
  have e : addE (SF h 1000) kk h 0 = 0 := addE_0 (by decide) ⟨⟨by omega, by unfold maxTime; omega⟩, show (0 : Int) ≤ h by omega⟩ (by decide) (by rw [hy]; decide)
  refine ⟨e, ?_⟩
  unfold addS
  rw [if_pos e, hy]
  rfl

set_option maxHeartbeats 800000 in
set_option maxRecDepth 100000 in
theorem law_full (x : Int) (w : World) (hx0 : 0 ≤ x) (hx : x ≤ 255) :
    Calls Try.prog 4 #[.int .u8 x] w fun e w' => e = .returned (.bool true) ∧ Below w.heap.size w w' := by
  have h1 : 1 ≤ 1 + x := by omega
  have h2 : 1 + x ≤ 10000000 := by omega
  obtain ⟨p, hp⟩ : ∃ p, w.heap.size = p := ⟨_, rfl⟩
  have E1 := Lib.hid (SF_full (1 + x) h1 h2)
  obtain ⟨e2, e3⟩ := SF_free (1 + x) h1 h2
  have E2 := Lib.hid e2
  have E3 := Lib.hid e3
  clear e2 e3
  go_enter Try.func4, Try.ntmps4
  go_wp2_with fail
  refine (new_yes (1 + x) w h1 h2).mono ?_
  rintro e w1 ⟨rfl, R1, b1⟩
  have z1 := b1.size
  have HP := Lib.hid hp
  rw [hp] at R1 z1 b1 ⊢
  clear hp
  go_wp2_with fail
  go_loopw [6] (fun i wr => ∃ k : Nat, k ≤ 1000 ∧ i = .int .i64 k ∧ VRep wr p p (SF (1 + x) k) ∧ p ≤ wr.heap.size ∧ Below p w wr) (fun i _ => 1000 - (intOf i).toNat)
  case atStart => exact ⟨0, by omega, rfl, R1, z1, b1⟩
  case round =>
    clear R1 z1 b1
    obtain ⟨k, hk, rfl, R, z, b⟩ := hrel
    by_cases hlt : k < 1000
    · obtain ⟨e1, e2⟩ := SF_add (1 + x) h1 k hlt
      have F1 := Lib.hid e1
      have F2 := Lib.hid e2
      clear e1 e2
      go_wp2_with (go_at_call 9; refine (add_any p p _ (SF_ok _ h1 h2 k hk) kk 0 0 wr z R).mono ?_; rintro e w2 ⟨rfl, R2, T2⟩; rw [F1.out])
      go_roundw
      case rel => exact ⟨k + 1, by omega, by go_num, by rw [← F2.out]; exact R2, Nat.le_trans z T2.size, b.trans T2.below⟩
      case measure => simp [intOf]; omega
    · have hk2 : k = 1000 := by omega
      have F1 : Hid (addE (SF (1 + x) k) kk (1 + x - 1) 0 = 12) := Lib.hid (by rw [hk2]; exact E1.out)
      have F2 : Hid (addE (SF (1 + x) k) kk (1 + x) 0 = 0) := Lib.hid (by rw [hk2]; exact E2.out)
      have F3 : Hid (addS (SF (1 + x) k) kk (1 + x) 0 = ⟨1 + x, 1 + x, [⟨kk, 1 + x, 0⟩]⟩) := Lib.hid (by rw [hk2]; exact E3.out)
      have F4 : Hid ((SF (1 + x) k).us.length = 1000) := Lib.hid (by rw [← hk2]; exact List.length_replicate)
      have hS : addS (SF (1 + x) k) kk (1 + x - 1) 0 = SF (1 + x) k := by unfold addS; rw [F1.out]; rfl
      have HS := Lib.hid hS
      have OK1 := SF_ok _ h1 h2 k hk
      clear hS hk2 E1 E2 E3
      generalize SF (1 + x) k = s at *
      go_wp2_with fail
      refine (add_any p p s OK1 kk (1 + x - 1) 0 wr z R).mono ?_
      rintro e w2 ⟨rfl, R2, T2⟩
      rw [F1.out]
      rw [HS.out] at R2
      have z2 := Nat.le_trans z T2.size
      go_wp2_with fail
      refine (len_any p p s w2 R2).mono ?_
      rintro e w3 ⟨rfl, rfl⟩
      rw [F4.out]
      go_wp2_with fail
      refine (add_any p p s OK1 kk (1 + x) 0 w2 z2 R2).mono ?_
      rintro e w4 ⟨rfl, R4, T4⟩
      rw [F2.out]
      have OK2 : VS.Ok ⟨1 + x, 1 + x, [⟨kk, 1 + x, 0⟩]⟩ := by rw [← F3.out]; exact OK1.addS _ _ _
      rw [F3.out] at R4
      have z4 := Nat.le_trans z2 T4.size
      go_wp2_with fail
      refine (len_any p p _ w4 R4).mono ?_
      rintro e w5 ⟨rfl, rfl⟩
      go_wp2_with fail
      refine (last_any p p _ OK2 kk w4 R4).mono ?_
      rintro e w6 ⟨rfl, rfl⟩
      have G1 : lasN ⟨1 + x, 1 + x, [⟨kk, 1 + x, 0⟩]⟩ kk = 1 + x := rfl
      have G2 : lasB ⟨1 + x, 1 + x, [⟨kk, 1 + x, 0⟩]⟩ kk = true := rfl
      have G3 : addE ⟨1 + x, 1 + x, [⟨kk, 1 + x, 0⟩]⟩ kk (1 + x - 1) 0 = 14 := addE_14 (by decide) (.inr (show 1 + x - 1 < 1 + x by omega))
      rw [G1, G2]
      have HG := Lib.hid G3
      clear G1 G2 G3
      go_wp2_with fail
      refine (add_any p p _ OK2 kk (1 + x - 1) 0 w4 z4 R4).mono ?_
      rintro e w7 ⟨rfl, R7, T7⟩
      rw [HG.out]
      go_wp2_with (go_at_call 8; refine (awake_any _).mono ?_; rintro e w8 ⟨rfl, b8⟩)
      go_ret
      refine ⟨rfl, ?_⟩
      rw [HP.out]
      exact (((b.trans T2.below).trans T4.below).trans T7.below).trans (b8.mono (Nat.le_trans z4 T7.size))
end Go.Proofs.Ytieimeahppmefaa
