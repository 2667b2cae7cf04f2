/-
  Exchange: walks over awake and the law ExchangeNobody. No condition.
-/
import Derived.Test.YtgacpkbpbckgiaaWj
namespace Go.Proofs.Ytgacpkbpbckgiaa
open Go.RowKit
set_option linter.unusedVariables false

abbrev ka : ByteArray := ⟨#[97]⟩
abbrev kb : ByteArray := ⟨#[98]⟩
abbrev kc : ByteArray := ⟨#[99]⟩
abbrev ke : ByteArray := ⟨#[]⟩
abbrev tBuy : ByteArray := ⟨#[98, 117, 121]⟩
abbrev tSell : ByteArray := ⟨#[115, 101, 108, 108]⟩
abbrev tYes : ByteArray := ⟨#[121, 101, 115]⟩
abbrev tNo : ByteArray := ⟨#[110, 111]⟩
def S0 : XS := ⟨30, 0, []⟩
def S1 : XS := ⟨30, 10, [⟨ka, tBuy, ke, 10, 0⟩]⟩
def S2 : XS := ⟨30, 10, [⟨ka, tBuy, ke, 10, 0⟩, ⟨kb, tBuy, ke, 10, 0⟩]⟩
def S3 : XS := ⟨30, 10, [⟨ka, tBuy, ke, 10, 0⟩, ⟨kb, tBuy, ke, 10, 0⟩, ⟨kc, tSell, ke, 10, 0⟩]⟩
def S4 : XS := ⟨30, 39, [⟨ka, tBuy, tYes, 10, 1⟩, ⟨kb, tBuy, ke, 10, 0⟩, ⟨kc, tSell, ke, 10, 0⟩]⟩
def S5 : XS := ⟨30, 40, [⟨ka, tBuy, tYes, 10, 1⟩, ⟨kb, tBuy, ke, 10, 2⟩, ⟨kc, tSell, ke, 10, 0⟩]⟩
def S6 : XS := ⟨30, 40, [⟨ka, tBuy, tYes, 10, 1⟩, ⟨kb, tBuy, ke, 10, 3⟩, ⟨kc, tSell, ke, 10, 3⟩]⟩
def S7 : XS := ⟨30, 50, [⟨ka, tBuy, tYes, 10, 1⟩, ⟨kb, tBuy, ke, 10, 3⟩, ⟨kc, tSell, ke, 10, 3⟩]⟩
theorem s1 : begE S0 10 ka tBuy = 0 ∧ begS S0 10 ka tBuy = S1 := by decide +kernel
theorem s2 : begE S1 10 kb tBuy = 0 ∧ begS S1 10 kb tBuy = S2 := by decide +kernel
theorem s3 : begE S2 10 kc tSell = 0 ∧ begS S2 10 kc tSell = S3 := by decide +kernel
theorem s3n : nexN S3 = 40 ∧ nexB S3 = true := by decide +kernel
theorem s4 : repN S3 39 ka tYes = 1 ∧ repE S3 39 ka tYes = 0 ∧ repS S3 39 ka tYes = S4 := by decide +kernel
theorem s4l : losL S4 39 = [] ∧ losS S4 39 = S4 := by decide +kernel
theorem s5 : repN S4 40 kb tYes = 2 ∧ repE S4 40 kb tYes = 0 ∧ repS S4 40 kb tYes = S5 := by decide +kernel
theorem s6 : losL S5 40 = [kb, kc] ∧ losS S5 40 = S6 := by decide +kernel
theorem s7 : repN S6 50 ka tNo = 3 ∧ repE S6 50 ka tNo = 0 ∧ repS S6 50 ka tNo = S7 := by decide +kernel
theorem s8 : resV S7 ka = tYes ∧ resE S7 ka = 0 ∧ resE S7 kb = 14 ∧ reqV S7 kc = tSell ∧ reqB S7 kc = true ∧ (waiL S7.its).length = 0 ∧ begE S7 60 ka ke = 7 := by decide +kernel
theorem s8v : resV S7 kb = ke := by decide +kernel
theorem o0 : S0.Ok := XS.Ok.new (by decide) (by decide)
theorem o1 : S1.Ok := s1.2 ▸ o0.beg 10 ka tBuy
theorem o2 : S2.Ok := s2.2 ▸ o1.beg 10 kb tBuy
theorem o3 : S3.Ok := s3.2 ▸ o2.beg 10 kc tSell
theorem o4 : S4.Ok := s4.2.2 ▸ o3.rep 39 ka tYes
theorem o5 : S5.Ok := s5.2.2 ▸ o4.rep 40 kb tYes
theorem o6 : S6.Ok := s6.2 ▸ o5.los 40
theorem o7 : S7.Ok := s7.2.2 ▸ o6.rep 50 ka tNo

set_option maxRecDepth 100000 in
set_option maxHeartbeats 3200000 in
theorem awake_any (w : World) : Calls Try.prog 11 #[] w fun e w' => e = .returned (.bool true) ∧ Below w.heap.size w w' := by
  go_enter Try.func11, Try.ntmps11
  go_wp2_with fail
  refine (new_ok 30 (by decide) (by decide) w).mono ?_
  rintro e w1 ⟨p, rfl, R1, b1⟩
  obtain ⟨B, hB⟩ : ∃ B, w.heap.size = B := ⟨_, rfl⟩
  rw [hB] at R1 b1
  have z1 : B ≤ w1.heap.size := by have := b1.size; omega
  have HB := Lib.hid hB
  have C1 := Lib.hid (begin_any B p S0 10 ka tBuy w1 o0 (by decide) z1 R1)
  have HB1 := Lib.hid b1
  clear R1 b1 hB
  go_wp2_with fail
  refine C1.out.mono ?_
  rintro e w2 ⟨rfl, R2, T2⟩
  rw [s1.1]
  rw [s1.2] at R2
  have z2 := Nat.le_trans z1 T2.size
  have b2 := Lib.hid (HB1.out.trans T2.below)
  have C2 := Lib.hid (begin_any B p S1 10 kb tBuy w2 o1 (by decide) z2 R2)
  clear R2 T2 C1
  go_wp2_with fail
  refine C2.out.mono ?_
  rintro e w3 ⟨rfl, R3, T3⟩
  rw [s2.1]
  rw [s2.2] at R3
  have z3 := Nat.le_trans z2 T3.size
  have b3 := Lib.hid (b2.out.trans T3.below)
  have C3 := Lib.hid (begin_any B p S2 10 kc tSell w3 o2 (by decide) z3 R3)
  clear R3 T3 C2
  go_wp2_with fail
  refine C3.out.mono ?_
  rintro e w4 ⟨rfl, R4, T4⟩
  rw [s3.1]
  rw [s3.2] at R4
  have z4 := Nat.le_trans z3 T4.size
  have b4 := Lib.hid (b3.out.trans T4.below)
  have C4 := Lib.hid (next_any B p S3 o3 (by decide) w4 R4)
  have C5 := Lib.hid (reply_any B p S3 39 ka tYes w4 o3 (by decide) (by decide) z4 R4)
  clear R4 T4 C3
  go_wp2_with (go_at_call 24; refine C4.out.mono ?_; rintro e w' ⟨rfl, rfl⟩; rw [s3n.1, s3n.2])
  refine C5.out.mono ?_
  rintro e w5 ⟨rfl, R5, T5⟩
  rw [s4.1, s4.2.1]
  rw [s4.2.2] at R5
  have z5 := Nat.le_trans z4 T5.size
  have b5 := Lib.hid (b4.out.trans T5.below)
  have C6 := Lib.hid (lost_any B p S4 39 w5 (by decide) z5 R5)
  clear R5 T5 C4 C5
  go_wp2_with fail
  refine C6.out.mono ?_
  rintro e w6 ⟨A6, c6, rfl, _, R6, T6⟩
  rw [s4l.1]
  rw [s4l.2] at R6
  have z6 := Nat.le_trans z5 T6.size
  have b6 := Lib.hid (b5.out.trans T6.below)
  have C7 := Lib.hid (reply_any B p S4 40 kb tYes w6 o4 (by decide) (by decide) z6 R6)
  clear R6 T6 C6
  go_wp2_with fail
  refine C7.out.mono ?_
  rintro e w7 ⟨rfl, R7, T7⟩
  rw [s5.1, s5.2.1]
  rw [s5.2.2] at R7
  have z7 := Nat.le_trans z6 T7.size
  have b7 := Lib.hid (b6.out.trans T7.below)
  have C8 := Lib.hid (lost_any B p S5 40 w7 (by decide) z7 R7)
  clear R7 T7 C7
  go_wp2_with fail
  refine C8.out.mono ?_
  rintro e w8 ⟨A8, c8, rfl, W8, R8, T8⟩
  rw [s6.1] at W8 ⊢
  rw [s6.2] at R8
  have z8 := Nat.le_trans z7 T8.size
  have b8 := Lib.hid (b7.out.trans T8.below)
  have C9 := Lib.hid (reply_any B p S6 50 ka tNo w8 o6 (by decide) (by decide) z8 R8)
  have HW8 := Lib.hid W8
  clear R8 T8 C8 W8
  go_wp2_with fail
  refine C9.out.mono ?_
  rintro e w9 ⟨rfl, R9, T9⟩
  rw [s7.1, s7.2.1]
  rw [s7.2.2] at R9
  have z9 := Nat.le_trans z8 T9.size
  have b9 := Lib.hid (b8.out.trans T9.below)
  have HR9 := Lib.hid R9
  have HW9 := Lib.hid (HW8.out.turn T9 rfl)
  clear R9 T9 C9 HW8
  go_wp2_with fail
  refine (result_any B p S7 w9 ka (by decide) HR9.out).mono ?_
  rintro e w' ⟨rfl, rfl⟩
  rw [s8.1, s8.2.1]
  go_wp2_with fail
  refine (result_any B p S7 w9 kb (by decide) HR9.out).mono ?_
  rintro e w' ⟨rfl, rfl⟩
  rw [s8.2.2.1, s8v]
  go_wp2_with fail
  refine (request_any B p S7 w9 kc (by decide) HR9.out).mono ?_
  rintro e w' ⟨rfl, rfl⟩
  rw [s8.2.2.2.1, s8.2.2.2.2.1]
  go_wp2_with fail
  have WA := HW9.out.alloc (.cells #[.string kb, .string kc] 9)
  have BA : RD (w9.alloc (.cells #[.string kb, .string kc] 9)) (some ⟨w9.heap.size, 0, none⟩) 2 ([kb, kc].map Value.string) := RD.of_blk (Blk.new w9 9 #[.string kb, .string kc])
  have HQ := same_ok A8 2 c8 [kb, kc] _ 2 2 [kb, kc] (by decide) _ (RD.of_rowL WA) BA
  rw [show decide ([kb, kc] = [kb, kc]) = true from rfl] at HQ
  refine HQ.mono ?_
  rintro e w10 ⟨rfl, q10⟩
  have b10 : Below w9.heap.size w9 w10 := ((Below.refl w9.heap.size w9).alloc (Nat.le_refl _) (.cells #[.string kb, .string kc] 9)).trans (q10.mono (by simp))
  have HR10 := Lib.hid (HR9.out.call b10)
  have z10 := Nat.le_trans z9 b10.size
  have HB10 := Lib.hid (b9.out.trans (b10.mono z9))
  clear WA BA HQ q10 b10
  go_wp2_with fail
  refine (waiting_any B p S7 (by decide) w10 HR10.out).mono ?_
  rintro e w11 ⟨A11, c11, rfl, _, b11⟩
  rw [s8.2.2.2.2.2.1]
  have z11 := Nat.le_trans z10 b11.size
  have HB11 := Lib.hid (HB10.out.trans (b11.mono z10))
  have C11 := Lib.hid (begin_any B p S7 60 ka ke w11 o7 (by decide) z11 (HR10.out.call b11))
  clear b11
  go_wp2_with fail
  refine C11.out.mono ?_
  rintro e w12 ⟨rfl, _, T12⟩
  rw [s8.2.2.2.2.2.2]
  have HB12 := Lib.hid (HB11.out.trans T12.below)
  clear T12 C11
  go_wp2_with fail
  go_ret
  exact ⟨rfl, by rw [HB.out]; exact HB12.out⟩

set_option maxRecDepth 100000 in
set_option maxHeartbeats 3200000 in
theorem law_nobody (a : Int) (k t : ByteArray) (w : World) : Calls Try.prog 7 #[.int .i64 a, .string k, .string t] w fun e w' => e = .returned (.bool true) ∧ Below w.heap.size w w' := by
  go_enter Try.func7, Try.ntmps7
  go_wp2_with fail
  refine (reply_nil a k t w).mono ?_
  rintro e w1 ⟨rfl, b1⟩
  go_wp2_with fail
  refine (result_nil k w1).mono ?_
  rintro e w' ⟨rfl, rfl⟩
  go_wp2_with fail
  refine (request_nil k w1).mono ?_
  rintro e w' ⟨rfl, rfl⟩
  go_wp2_with fail
  refine (next_nil w1).mono ?_
  rintro e w' ⟨rfl, rfl⟩
  go_wp2_with fail
  refine (begin_nil a k t w1).mono ?_
  rintro e w' ⟨rfl, rfl⟩
  go_wp2_with fail
  refine (lost_nil a w1).mono ?_
  rintro e w' ⟨rfl, rfl⟩
  go_wp2_with fail
  refine (waiting_nil w1).mono ?_
  rintro e w' ⟨rfl, rfl⟩
  go_wp2_with fail
  refine (awake_any w1).mono ?_
  rintro e w2 ⟨rfl, b2⟩
  go_wp2_with fail
  go_ret
  exact ⟨rfl, b1.trans (b2.mono b1.size)⟩
end Go.Proofs.Ytgacpkbpbckgiaa
