/-
  Forward: walk over the law ForwardHolds. Condition: times from 0 to 255.
-/
import Derived.Test.YthjgfheogbchkaaWf
namespace Go.Proofs.Ythjgfheogbchkaa
open Go.RowKit
set_option linter.unusedVariables false

abbrev ka : ByteArray := ⟨#[97]⟩
abbrev kb : ByteArray := ⟨#[98]⟩
abbrev kc : ByteArray := ⟨#[99]⟩
abbrev ke : ByteArray := ⟨#[]⟩
def H2 (u : Int) : FQ := ⟨1000, [[98], [97]], [⟨ka, ke, u, 0⟩, ⟨kb, ke, 0, 0⟩]⟩
def H3 (a : Int) : FQ := ⟨1000, [[98], [97]], [⟨ka, ke, a + 1000, 1⟩, ⟨kb, ke, a + 1000, 1⟩]⟩
theorem H2_ok (u : Int) : (H2 u).Ok := ⟨by simp [H2], by simp [H2], by simp [H2], by intro x hx; simp [H2] at hx; rcases hx with rfl | rfl <;> simp⟩
theorem H3_ok (u : Int) : (H3 u).Ok := ⟨by simp [H3], by simp [H3], by simp [H3], by intro x hx; simp [H3] at hx; rcases hx with rfl | rfl <;> simp⟩
theorem H2_held {u : Int} (hu : 0 ≤ u) : (⟨1000, [[98], [97]], [(⟨ka, ke, 0, 0⟩ : En), ⟨kb, ke, 0, 0⟩].set 0 (heldTo u ⟨ka, ke, 0, 0⟩)⟩ : FQ) = H2 u := by
  have : heldTo u ⟨ka, ke, 0, 0⟩ = ⟨ka, ke, u, 0⟩ := by
    unfold heldTo
    split
    · rfl
    · have : u = 0 := by simp at *; omega
      subst this
      rfl
  rw [this]
  rfl
theorem H3_held {a : Int} (ha : 0 ≤ a) : (⟨1000, [[98], [97]], [(⟨ka, ke, a + 1000, 1⟩ : En), ⟨kb, ke, a + 1000, 1⟩].set 0 (heldTo 0 ⟨ka, ke, a + 1000, 1⟩)⟩ : FQ) = H3 a := by
  have : heldTo 0 ⟨ka, ke, a + 1000, 1⟩ = ⟨ka, ke, a + 1000, 1⟩ := by
    unfold heldTo
    rw [if_neg (by simp; omega)]
  rw [this]
  rfl
theorem H2_find : ∀ u, findK ka (H2 u).ws = some 0 := fun u => by
  have : ka.toList = ka.toList := rfl
  unfold H2 findK
  rw [if_pos this]
theorem H2_findc : ∀ u, findK kc (H2 u).ws = none := fun u => by
  have h1 : ¬ ka.toList = kc.toList := by decide +kernel
  have h2 : ¬ kb.toList = kc.toList := by decide +kernel
  unfold H2 findK findK findK
  rw [if_neg h1, if_neg h2]
  rfl
theorem H3_find : ∀ u, findK ka (H3 u).ws = some 0 := fun u => by
  have : ka.toList = ka.toList := rfl
  unfold H3 findK
  rw [if_pos this]
theorem H2_pollI1 {u a : Int} (h : a < u) (ha : 0 ≤ a) : pollI a (H2 u).ws = [⟨kb, ke, 1⟩] := by
  have h2 : ¬ a < 0 := by omega
  simp [H2, pollI, h, h2]
theorem H2_pollI2 {u a : Int} (h : ¬ a < u) (ha : 0 ≤ a) : pollI a (H2 u).ws = [⟨ka, ke, 1⟩, ⟨kb, ke, 1⟩] := by
  have h2 : ¬ a < 0 := by omega
  simp [H2, pollI, h, h2]
theorem H2_pollW {u a : Int} (h : ¬ a < u) (ha : 0 ≤ a) : ({ H2 u with ws := pollW a (H2 u).retry (H2 u).ws } : FQ) = H3 a := by
  have h2 : ¬ a < 0 := by omega
  simp [H2, H3, pollW, h, h2]
theorem H3_pollI (a : Int) : pollI a (H3 a).ws = [] := by
  have h : a < a + 1000 := by omega
  simp [H3, pollI, h]

set_option maxRecDepth 100000 in
set_option maxHeartbeats 1600000 in
theorem law_holds (u a : Int) (hu : 0 ≤ u ∧ u ≤ 255) (ha : 0 ≤ a ∧ a ≤ 255) (w : World) : Calls Try.prog 5 #[.int .u8 u, .int .u8 a] w fun e w' => e = .returned (.bool true) ∧ Below w.heap.size w w' := by
  obtain ⟨u1, u2⟩ := hu
  obtain ⟨a1, a2⟩ := ha
  have tu : isT u := ⟨u1, by omega⟩
  have ta : isT a := ⟨a1, by omega⟩
  have hb : ((98 : UInt8) == 97) = false := by decide
  go_enter Try.func5, Try.ntmps5
  go_wp2_with fail
  refine (new_ok 1000 (by decide) (by decide) w).mono ?_
  rintro e w1 ⟨p, rfl, R1, b1⟩
  have z1 := b1.size
  go_wp2_with fail
  refine (put_ok w.heap.size p ⟨1000, [], []⟩ 0 ka ke ⟨by decide, by decide, by decide, by decide⟩ (by decide) (by decide) (by decide) w1 z1 R1).mono ?_
  rintro e w2 ⟨rfl, R2, T2⟩
  replace R2 : FRep w2 w.heap.size p ⟨1000, [[97]], [⟨ka, ke, 0, 0⟩]⟩ := R2
  have z2 := Nat.le_trans z1 T2.size
  go_wp2_with fail
  refine (put_ok w.heap.size p ⟨1000, [[97]], [⟨ka, ke, 0, 0⟩]⟩ 0 kb ke ⟨by decide, by decide, by decide, by decide⟩ (by decide) (by decide) (by decide) w2 z2 R2).mono ?_
  rintro e w3 ⟨rfl, R3, T3⟩
  replace R3 : FRep w3 w.heap.size p (H2 0) := R3
  have z3 := Nat.le_trans z2 T3.size
  go_wp2_with fail
  refine (hold_ok w.heap.size p (H2 0) ka 0 ⟨ka, ke, 0, 0⟩ u (H2_find 0) rfl (by simp [H2]) tu w3 z3 R3).mono ?_
  rintro e w4 ⟨rfl, R4, T4⟩
  replace R4 : FRep w4 w.heap.size p (H2 u) := by rw [← H2_held u1]; exact R4
  have z4 := Nat.le_trans z3 T4.size
  go_wp2_with fail
  refine (hold_none w.heap.size p (H2 u) kc 0 (H2_findc u) w4 R4).mono ?_
  rintro e w5 ⟨rfl, b5⟩
  have R5 := R4.call b5
  have z5 := Nat.le_trans z4 b5.size
  have T5 : Turn w.heap.size [43, 46] true w4 w5 := Turn.of_below b5 z4
  go_wp2_with fail
  refine (poll_any w.heap.size p (H2 u) (H2_ok u) a ta w5 z5 R5).mono ?_
  rintro e w6 ⟨g6, c6, rfl, W6, R6, T6⟩
  have z6 := Nat.le_trans z5 T6.size
  have TT := Lib.hid ((((T2.trans T3).trans T4).trans T5).trans T6)
  have B1 := Lib.hid b1
  clear R1 R2 R3 R4 R5 T2 T3 T4 T5 T6 b1 b5
  by_cases hlt : a < u
  · rw [H2_pollI1 hlt a1] at W6 ⊢
    obtain ⟨g, rfl, h6⟩ := row_first W6 (by simp)
    obtain ⟨h60, h61, h62⟩ := h6.out
    go_wp2_with fail
    refine (awake_any w6).mono ?_
    rintro e w7 ⟨rfl, b7⟩
    go_wp2_with fail
    go_ret
    exact ⟨rfl, (B1.out.trans TT.out.below).trans (b7.mono z6)⟩
  · rw [H2_pollI2 hlt a1] at W6 ⊢
    rw [H2_pollW hlt a1] at R6
    have h63 : ∃ g, g6 = some ⟨g, 0, none⟩ ∧ w6.cell? ⟨g, 0, none⟩ = some (.string ka) ∧ w6.cell? ⟨g, 3, none⟩ = some (.string kb) := by
      obtain ⟨g, e, _, _, hc, _⟩ := W6.cells (by simp)
      exact ⟨g, e, hc 0 _ (by simp [itC]), hc 3 _ (by simp [itC])⟩
    obtain ⟨g, rfl, h60, h63⟩ := h63
    go_wp2_with fail
    refine (hold_ok w.heap.size p (H3 a) ka 0 ⟨ka, ke, a + 1000, 1⟩ 0 (H3_find a) rfl (by simp [H3]) (by decide) w6 z6 R6).mono ?_
    rintro e w7 ⟨rfl, R7, T7⟩
    replace R7 : FRep w7 w.heap.size p (H3 a) := by rw [← H3_held a1]; exact R7
    have z7 := Nat.le_trans z6 T7.size
    clear h60 h63
    go_wp2_with fail
    refine (poll_any w.heap.size p (H3 a) (H3_ok a) a ta w7 z7 R7).mono ?_
    rintro e w8 ⟨g8, c8, rfl, W8, R8, T8⟩
    have z8 := Nat.le_trans z7 T8.size
    rw [H3_pollI]
    go_wp2_with fail
    refine (awake_any w8).mono ?_
    rintro e w9 ⟨rfl, b9⟩
    go_wp2_with fail
    go_ret
    exact ⟨rfl, (B1.out.trans ((TT.out.trans T7).trans T8).below).trans (b9.mono z8)⟩
end Go.Proofs.Ythjgfheogbchkaa
