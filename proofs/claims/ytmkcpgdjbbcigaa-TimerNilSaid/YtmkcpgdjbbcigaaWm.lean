/-
  Timer: walk over the law TimerNil. No condition.
-/
import Derived.Test.YtmkcpgdjbbcigaaWl
namespace Go.Proofs.Ytmkcpgdjbbcigaa
open Go.RowKit
set_option linter.unusedVariables false

def N1 : TS := ⟨0, [⟨ka, 5⟩]⟩
def N2 : TS := ⟨4, [⟨ka, 5⟩]⟩
theorem nS1 : setE ⟨0, []⟩ ka 5 = 0 ∧ setS ⟨0, []⟩ ka 5 = N1 := ⟨by decide +kernel, TS.eq_ (by decide +kernel) (by decide +kernel)⟩
theorem nS2 : dueS N1 4 = N2 ∧ dueL N1 4 = [] := ⟨TS.eq_ (by decide +kernel) (by decide +kernel), by decide +kernel⟩
theorem nS3 : dueS N2 3 = N2 ∧ dueL N2 3 = [] := ⟨TS.eq_ (by decide +kernel) (by decide +kernel), by decide +kernel⟩
set_option maxRecDepth 100000 in
set_option maxHeartbeats 1600000 in
theorem law_nil (k : ByteArray) (a : Int) (w : World) : Calls Try.prog 4 #[.string k, .int .i64 a] w fun e w' => e = .returned (.bool true) ∧ Below w.heap.size w w' := by
  by_cases h : 100 < k.size
  · have h1 : (100 : Int) < (k.size : Int) := by omega
    clear h
    go_enter Try.func4, Try.ntmps4
    go_wp2_with (first
      | (go_at_call 21; refine (at_nil k _).mono ?_; rintro e w' ⟨rfl, rfl⟩)
      | (go_at_call 23; refine (next_nil _).mono ?_; rintro e w' ⟨rfl, rfl⟩)
      | (go_at_call 9; refine (awake_any _).mono ?_; rintro e w' ⟨rfl, b⟩))
    go_ret
    exact ⟨rfl, b⟩
  · have h1 : ¬ (100 : Int) < (k.size : Int) := by omega
    clear h
    go_enter Try.func4, Try.ntmps4
    go_wp2_with (first
      | (go_at_call 21; refine (at_nil k _).mono ?_; rintro e w' ⟨rfl, rfl⟩)
      | (go_at_call 23; refine (next_nil _).mono ?_; rintro e w' ⟨rfl, rfl⟩)
      | (go_at_call 14; refine (move_nil k a _).mono ?_; rintro e w' ⟨rfl, rfl⟩)
      | (go_at_call 16; refine (cancel_nil k _).mono ?_; rintro e w' ⟨rfl, rfl⟩)
      | (go_at_call 12; refine (set_nil k a _).mono ?_; rintro e w' ⟨rfl, rfl⟩)
      | (go_at_call 19; refine (due_nil a _).mono ?_; rintro e w' ⟨rfl, rfl⟩)
      | (go_at_call 25; refine (now_nil _).mono ?_; rintro e w' ⟨rfl, rfl⟩)
      | (go_at_call 27; refine (len_nil _).mono ?_; rintro e w' ⟨rfl, rfl⟩))
    refine (new_ok w).mono ?_
    rintro e w1 ⟨rfl, R1, b1⟩
    obtain ⟨p, hp⟩ : ∃ p, w.heap.size = p := ⟨_, rfl⟩
    rw [hp] at R1 b1 ⊢
    have z1 : p ≤ w1.heap.size := by have := b1.size; omega
    have HP := Lib.hid hp
    have HS1 := Lib.hid (set_any p p ⟨0, []⟩ ka 5 w1 z1 R1)
    clear hp
    go_wp2_with fail
    refine HS1.out.mono ?_
    rintro e w2 ⟨rfl, R2, T2⟩
    rw [nS1.1]
    rw [nS1.2] at R2
    have z2 := Nat.le_trans z1 T2.size
    have HD2 := Lib.hid (due_any p p N1 4 (by decide) w2 z2 R2)
    have b2 := Lib.hid (b1.trans T2.below)
    clear R1 R2 T2 b1 HS1
    go_wp2_with fail
    refine HD2.out.mono ?_
    rintro e w3 ⟨A3, c3, rfl, _, R3, T3⟩
    rw [nS2.1] at R3
    rw [nS2.2]
    have z3 := Nat.le_trans z2 T3.size
    have HD3 := Lib.hid (due_any p p N2 3 (by decide) w3 z3 R3)
    have b3 := Lib.hid (b2.out.trans T3.below)
    clear R3 T3 HD2
    go_wp2_with fail
    refine HD3.out.mono ?_
    rintro e w4 ⟨A4, c4, rfl, _, R4, T4⟩
    rw [nS3.1] at R4
    rw [nS3.2]
    have z4 := Nat.le_trans z3 T4.size
    have HR4 := Lib.hid R4
    have b4 := Lib.hid (b3.out.trans T4.below)
    clear R4 T4 HD3
    go_wp2_with (first
      | (go_at_call 25; refine (now_any p p N2 w4 HR4.out).mono ?_; rintro e w' ⟨rfl, rfl⟩; rw [show N2.now = 4 from rfl])
      | (go_at_call 27; refine (len_any p p N2 w4 HR4.out).mono ?_; rintro e w' ⟨rfl, rfl⟩; rw [show (N2.ts.length : Int) = 1 from rfl])
      | (go_at_call 9; refine (awake_any _).mono ?_; rintro e w5 ⟨rfl, b5⟩))
    go_ret
    exact ⟨rfl, by rw [HP.out]; exact b4.out.trans (b5.mono z4)⟩
end Go.Proofs.Ytmkcpgdjbbcigaa
