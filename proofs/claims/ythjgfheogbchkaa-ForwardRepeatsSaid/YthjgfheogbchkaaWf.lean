/-
  Forward: walk over awake. No condition.
-/
import Derived.Test.YthjgfheogbchkaaWe
namespace Go.Proofs.Ythjgfheogbchkaa
open Go.RowKit
set_option linter.unusedVariables false

abbrev kk : ByteArray := ⟨#[107]⟩
abbrev tt : ByteArray := ⟨#[116]⟩
def A1 : FQ := ⟨10, [[107]], [⟨kk, tt, 0, 0⟩]⟩
def A2 : FQ := ⟨10, [[107]], [⟨kk, tt, 10, 1⟩]⟩
def A3 : FQ := ⟨10, [[107]], [⟨kk, tt, 20, 2⟩]⟩
def A4 : FQ := ⟨10, [[107]], []⟩
theorem A1_ok : A1.Ok := ⟨by decide, by decide, by decide, by intro x hx; simp [A1] at hx; subst hx; decide⟩
theorem A2_ok : A2.Ok := ⟨by decide, by decide, by decide, by intro x hx; simp [A2] at hx; subst hx; decide⟩
theorem A4_ok : A4.Ok := ⟨by decide, by decide, by decide, by intro x hx; simp [A4] at hx⟩
theorem bytes_inj {a b : ByteArray} (h : a.toList = b.toList) : a = b := by
  rw [ByteArray.toList_eq, ByteArray.toList_eq] at h
  exact ByteArray.ext (Array.toList_inj.1 h)
theorem eq32 (k1 k2 t1 t2 : ByteArray) (n1 n2 : Int) (w : World) : (Op.equalIn 10000 32 (.agg #[.string k1, .string t1, .int .i64 n1]) (.agg #[.string k2, .string t2, .int .i64 n2])).run Try.prog w = .ok (decide ((⟨k1, t1, n1⟩ : It) = ⟨k2, t2, n2⟩)) w := by
  unfold Op.equalIn
  simp [run_underlying Try.underlying32, go_sem]
  by_cases h1 : k1 = k2
  · subst h1
    by_cases h2 : t1 = t2
    · subst h2
      by_cases h3 : n1 = n2 <;> simp [h3]
    · have h4 : ¬ t1.toList = t2.toList := fun h => h2 (bytes_inj h)
      simp [h2, h4]
  · have h4 : ¬ k1.toList = k2.toList := fun h => h1 (bytes_inj h)
    simp [h1, h4]
/-- The cells of the first item. -/
theorem row_first {w : World} {base n c : Nat} {A : Option Addr} {x : It} {l : List It} (h : rowL w base 32 3 A n c ((x :: l).flatMap itC)) (hn : 0 < n) :
    ∃ g, A = some ⟨g, 0, none⟩ ∧ Hid (w.cell? ⟨g, 0, none⟩ = some (.string x.key) ∧ w.cell? ⟨g, 1, none⟩ = some (.string x.text) ∧ w.cell? ⟨g, 2, none⟩ = some (.int .i64 x.try_)) := by
  obtain ⟨g, e, _, _, hc, _⟩ := h.cells hn
  exact ⟨g, e, Lib.hid ⟨hc 0 _ (by simp [itC]), hc 1 _ (by simp [itC]), hc 2 _ (by simp [itC])⟩⟩

set_option maxRecDepth 100000 in
set_option maxHeartbeats 1600000 in
theorem awake_any (w : World) : Calls Try.prog 11 #[] w fun e w' => e = .returned (.bool true) ∧ Below w.heap.size w w' := by
  have heq := eq32
  go_enter Try.func11, Try.ntmps11
  go_wp2_with fail
  refine (new_ok 10 (by decide) (by decide) w).mono ?_
  rintro e w1 ⟨p, rfl, R1, b1⟩
  have z1 := b1.size
  go_wp2_with fail
  refine (put_ok w.heap.size p ⟨10, [], []⟩ 0 kk tt ⟨by decide, by decide, by decide, by decide⟩ (by decide) (by decide) (by decide) w1 z1 R1).mono ?_
  rintro e w2 ⟨rfl, R2, T2⟩
  replace R2 : FRep w2 w.heap.size p A1 := R2
  have z2 := Nat.le_trans z1 T2.size
  go_wp2_with fail
  refine (poll_any w.heap.size p A1 A1_ok 0 (by decide) w2 z2 R2).mono ?_
  rintro e w3 ⟨a1, c1, rfl, W3, R3, T3⟩
  replace R3 : FRep w3 w.heap.size p A2 := R3
  have z3 := Nat.le_trans z2 T3.size
  replace W3 : rowL w3 w2.heap.size 32 3 a1 1 c1 ([(⟨kk, tt, 1⟩ : It)].flatMap itC) := W3
  rw [show (pollI 0 A1.ws).length = 1 from rfl]
  go_wp2_with fail
  refine (poll_any w.heap.size p A2 A2_ok 9 (by decide) w3 z3 R3).mono ?_
  rintro e w4 ⟨a2, c2, rfl, W4, R4, T4⟩
  replace R4 : FRep w4 w.heap.size p A2 := R4
  have z4 := Nat.le_trans z3 T4.size
  rw [show (pollI 9 A2.ws).length = 0 from rfl]
  go_wp2_with fail
  refine (poll_any w.heap.size p A2 A2_ok 10 (by decide) w4 z4 R4).mono ?_
  rintro e w5 ⟨a3, c3, rfl, W5, R5, T5⟩
  replace R5 : FRep w5 w.heap.size p A3 := R5
  have z5 := Nat.le_trans z4 T5.size
  replace W5 : rowL w5 w4.heap.size 32 3 a3 1 c3 ([(⟨kk, tt, 2⟩ : It)].flatMap itC) := W5
  rw [show (pollI 10 A2.ws).length = 1 from rfl]
  obtain ⟨g1, rfl, h1⟩ := row_first ((W3.turn T4 rfl).turn T5 rfl) (by decide)
  obtain ⟨g3, rfl, h3⟩ := row_first W5 (by decide)
  obtain ⟨h10, h11, h12⟩ := h1.out
  obtain ⟨h30, h31, h32⟩ := h3.out
  go_wp2_with fail
  refine (ack_ok w.heap.size p A3 kk 0 (by decide +kernel) (by decide) w5 z5 R5).mono ?_
  rintro e w6 ⟨rfl, R6, T6⟩
  replace R6 : FRep w6 w.heap.size p A4 := R6
  have z6 := Nat.le_trans z5 T6.size
  clear h10 h11 h12 h30 h31 h32
  go_wp2_with fail
  refine (poll_any w.heap.size p A4 A4_ok 100 (by decide) w6 z6 R6).mono ?_
  rintro e w7 ⟨a4, c4, rfl, W7, R7, T7⟩
  replace R7 : FRep w7 w.heap.size p A4 := R7
  rw [show (pollI 100 A4.ws).length = 0 from rfl]
  go_wp2_with fail
  refine (put_exists w.heap.size p A4 0 kk tt ⟨by decide, by decide, by decide, by decide⟩ (by decide) w7 R7).mono ?_
  rintro e w8 ⟨rfl, rfl⟩
  go_wp2_with fail
  go_ret
  exact ⟨rfl, b1.trans (((((T2.trans T3).trans T4).trans T5).trans T6).trans T7).below⟩
end Go.Proofs.Ythjgfheogbchkaa
