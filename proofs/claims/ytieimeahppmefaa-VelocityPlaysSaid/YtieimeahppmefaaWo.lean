/-
  Velocity: each call of the program and of the chapter, nil or not, in one form. No condition.
-/
import Derived.Test.YtieimeahppmefaaWn
import Derived.Test.YtieimeahppmefaaWf
namespace Go.Proofs.Ytieimeahppmefaa
open Go.RowKit
set_option linter.unusedVariables false

def VObj (w : World) (B : Nat) (v : Value) : Option VS → Prop
  | none => v = .pointer none
  | some s => ∃ p, v = .pointer (some ⟨p, 0, none⟩) ∧ VRep w B p s ∧ s.Ok
def RObj (w : World) (B : Nat) (v : Value) : Option VS → Prop
  | none => v = .pointer none
  | some s => ∃ p, v = .pointer (some ⟨p, 0, none⟩) ∧ RRep w B p s ∧ s.Ok

section
variable {w w' : World} {B : Nat} {v : Value} {s : Option VS}
theorem VObj.call (h : VObj w B v s) (hb : Below w.heap.size w w') : VObj w' B v s := by
  cases s with
  | none => exact h
  | some s => obtain ⟨p, hp, r, o⟩ := h; exact ⟨p, hp, VRep.call r hb, o⟩
theorem RObj.call (h : RObj w B v s) (hb : Below w.heap.size w w') : RObj w' B v s := by
  cases s with
  | none => exact h
  | some s => obtain ⟨p, hp, r, o⟩ := h; exact ⟨p, hp, RRep.call r hb, o⟩
theorem VObj.drewN (h : VObj w B v s) (n : Nat) : VObj (w.drewN n) B v s := by cases s <;> exact h
theorem RObj.drewN (h : RObj w B v s) (n : Nat) : RObj (w.drewN n) B v s := by cases s <;> exact h
theorem VObj.turn {B' : Nat} (h : VObj w B v s) (k : Turn B' [61, 64] false w w') : VObj w' B v s := by
  cases s with
  | none => exact h
  | some s =>
    obtain ⟨p, hp, ⟨h1, A, c, h2, h3⟩, o⟩ := h
    exact ⟨p, hp, ⟨h1, A, c, h2.turn k rfl, own_turn h3 k rfl⟩, o⟩
theorem RObj.turn {B' : Nat} (h : RObj w B v s) (k : Turn B' [52, 56] false w w') : RObj w' B v s := by
  cases s with
  | none => exact h
  | some s =>
    obtain ⟨p, hp, ⟨h1, A, c, h2, h3⟩, o⟩ := h
    exact ⟨p, hp, ⟨h1, A, c, h2.turn k rfl, own_turn h3 k rfl⟩, o⟩
end

/-! ### The answers -/
def nE (h : Int) : Int := if 1 ≤ h ∧ h ≤ 10000000 then 0 else 4
def nS (h : Int) : Option VS := if 1 ≤ h ∧ h ≤ 10000000 then some ⟨h, 0, []⟩ else none
def oAddE (s : Option VS) (k : ByteArray) (a m : Int) : Int := match s with | none => 6 | some s => addE s k a m
def oAddS (s : Option VS) (k : ByteArray) (a m : Int) : Option VS := s.map fun s => addS s k a m
def oRemE (s : Option VS) (k : ByteArray) (a m : Int) : Int := match s with | none => 6 | some s => remE s ⟨k, a, m⟩
def oRemS (s : Option VS) (k : ByteArray) (a m : Int) : Option VS := s.map fun s => remS s ⟨k, a, m⟩
def oCnt (s : Option VS) (k : ByteArray) (a win : Int) : Int := match s with | none => 0 | some s => cntN s k a win
def oSum (s : Option VS) (k : ByteArray) (a win : Int) : Int := match s with | none => 0 | some s => sumN s k a win
def oForE (s : Option VS) (a : Int) : Int := match s with | none => 0 | some s => forN s a
def oForS (s : Option VS) (a : Int) : Option VS := s.map fun s => forS s a
def oLasN (s : Option VS) (k : ByteArray) : Int := match s with | none => 0 | some s => lasN s k
def oLasB (s : Option VS) (k : ByteArray) : Bool := match s with | none => false | some s => lasB s k
def oLen (s : Option VS) : Int := match s with | none => 0 | some s => s.us.length

def RetI (n : Int) (w : World) (e : Ending) (w' : World) : Prop := e = .returned (.int .i64 n) ∧ Below w.heap.size w w'
/-- A call that answers n and turns the program's object to s'. -/
def VRet (B : Nat) (v : Value) (s' : Option VS) (n : Int) (w : World) (e : Ending) (w' : World) : Prop := e = .returned (.int .i64 n) ∧ VObj w' B v s' ∧ Turn B [52, 56] false w w'
def RRet (B : Nat) (v : Value) (s' : Option VS) (n : Int) (w : World) (e : Ending) (w' : World) : Prop := e = .returned (.int .i64 n) ∧ RObj w' B v s' ∧ Turn B [61, 64] false w w'

def NewRet (h : Int) (w : World) (e : Ending) (w' : World) : Prop := ∃ v, e = .returned (.tuple #[v, .int .i64 (nE h)]) ∧ VObj w' w.heap.size v (nS h) ∧ Below w.heap.size w w'
def RNewRet (h : Int) (w : World) (e : Ending) (w' : World) : Prop := ∃ v, e = .returned (.tuple #[v, .int .i64 (nE h)]) ∧ RObj w' w.heap.size v (nS h) ∧ Below w.heap.size w w'
theorem vnew (h : Int) (w : World) : Calls Try.prog 7 #[.int .i64 h] w (NewRet h w) := by
  unfold NewRet nE nS
  by_cases hh : 1 ≤ h ∧ h ≤ 10000000
  · rw [if_pos hh, if_pos hh]
    exact (new_yes h w hh.1 hh.2).mono fun e w' ⟨he, r, b⟩ => ⟨_, he, ⟨_, rfl, r, VS.Ok.new hh.1 hh.2⟩, b⟩
  · rw [if_neg hh, if_neg hh]
    exact (new_no h w (by omega)).mono fun e w' ⟨he, hw⟩ => ⟨_, he, rfl, hw ▸ Below.refl _ _⟩
theorem rnew (h : Int) (w : World) : Calls Try.prog 16 #[.int .i64 h] w (RNewRet h w) := by
  unfold RNewRet nE nS
  by_cases hh : 1 ≤ h ∧ h ≤ 10000000
  · rw [if_pos hh, if_pos hh]
    exact (rnew_yes h w hh.1 hh.2).mono fun e w' ⟨he, r, b⟩ => ⟨_, he, ⟨_, rfl, r, VS.Ok.new hh.1 hh.2⟩, b⟩
  · rw [if_neg hh, if_neg hh]
    exact (rnew_no h w (by omega)).mono fun e w' ⟨he, hw⟩ => ⟨_, he, rfl, hw ▸ Below.refl _ _⟩

section
variable {w : World} {B : Nat} {v : Value} {s : Option VS}
theorem vadd (hB : B ≤ w.heap.size) (h : VObj w B v s) (k : ByteArray) (a m : Int) : Calls Try.prog 9 #[v, .string k, .int .i64 a, .int .i64 m] w (VRet B v (oAddS s k a m) (oAddE s k a m) w) := by
  cases s with
  | none =>
    obtain rfl : v = .pointer none := h
    exact (add_nil k a m w).mono fun e w' ⟨he, hw⟩ => ⟨he, rfl, hw ▸ Turn.refl _ _ _ _⟩
  | some s =>
    obtain ⟨p, rfl, r, o⟩ := h
    exact (add_any B p s o k a m w hB r).mono fun e w' ⟨he, r', t⟩ => ⟨he, ⟨p, rfl, r', o.addS _ _ _⟩, t⟩
theorem radd_nil (k : ByteArray) (a m : Int) (w : World) : Calls Try.prog 17 #[.pointer none, .string k, .int .i64 a, .int .i64 m] w fun e w' => e = .returned (.int .i64 6) ∧ w = w' := by
  go_enter Try.func17, Try.ntmps17
  go_wp2_with fail
  go_ret
  exact ⟨rfl, rfl⟩
theorem radd (hB : B ≤ w.heap.size) (h : RObj w B v s) (k : ByteArray) (a m : Int) : Calls Try.prog 17 #[v, .string k, .int .i64 a, .int .i64 m] w (RRet B v (oAddS s k a m) (oAddE s k a m) w) := by
  cases s with
  | none =>
    obtain rfl : v = .pointer none := h
    exact (radd_nil k a m w).mono fun e w' ⟨he, hw⟩ => ⟨he, rfl, hw ▸ Turn.refl _ _ _ _⟩
  | some s =>
    obtain ⟨p, rfl, r, o⟩ := h
    exact (radd_any B p s o k a m w hB r).mono fun e w' ⟨he, r', t⟩ => ⟨he, ⟨p, rfl, r', o.addS _ _ _⟩, t⟩
theorem vrem_nil (k : ByteArray) (a m : Int) (w : World) : Calls Try.prog 15 #[.pointer none, .string k, .int .i64 a, .int .i64 m] w fun e w' => e = .returned (.int .i64 6) ∧ w = w' := by
  go_enter Try.func15, Try.ntmps15
  go_wp2_with fail
  go_ret
  exact ⟨rfl, rfl⟩
theorem vrem (hB : B ≤ w.heap.size) (h : VObj w B v s) (k : ByteArray) (a m : Int) : Calls Try.prog 15 #[v, .string k, .int .i64 a, .int .i64 m] w (VRet B v (oRemS s k a m) (oRemE s k a m) w) := by
  cases s with
  | none =>
    obtain rfl : v = .pointer none := h
    exact (vrem_nil k a m w).mono fun e w' ⟨he, hw⟩ => ⟨he, rfl, hw ▸ Turn.refl _ _ _ _⟩
  | some s =>
    obtain ⟨p, rfl, r, o⟩ := h
    exact (rem_any B p s o k a m w hB r).mono fun e w' ⟨he, r', t⟩ => ⟨he, ⟨p, rfl, r', o.remS _⟩, t⟩
theorem rrem_nil (k : ByteArray) (a m : Int) (w : World) : Calls Try.prog 18 #[.pointer none, .string k, .int .i64 a, .int .i64 m] w fun e w' => e = .returned (.int .i64 6) ∧ w = w' := by
  go_enter Try.func18, Try.ntmps18
  go_wp2_with fail
  go_ret
  exact ⟨rfl, rfl⟩
theorem rrem (hB : B ≤ w.heap.size) (h : RObj w B v s) (k : ByteArray) (a m : Int) : Calls Try.prog 18 #[v, .string k, .int .i64 a, .int .i64 m] w (RRet B v (oRemS s k a m) (oRemE s k a m) w) := by
  cases s with
  | none =>
    obtain rfl : v = .pointer none := h
    exact (rrem_nil k a m w).mono fun e w' ⟨he, hw⟩ => ⟨he, rfl, hw ▸ Turn.refl _ _ _ _⟩
  | some s =>
    obtain ⟨p, rfl, r, o⟩ := h
    exact (rrem_any B p s o k a m w hB r).mono fun e w' ⟨he, r', t⟩ => ⟨he, ⟨p, rfl, r', o.remS _⟩, t⟩
theorem within_nil (k : ByteArray) (a n : Int) (w : World) : Calls Try.prog 28 #[.pointer none, .string k, .int .i64 a, .int .i64 n] w fun e w' => e = .returned (.tuple #[.int .i64 0, .int .i64 0]) ∧ w = w' := by
  go_enter Try.func28, Try.ntmps28
  go_wp2_with fail
  go_ret2
  exact ⟨rfl, rfl⟩
theorem vcnt_nil (k : ByteArray) (a n : Int) (w : World) : Calls Try.prog 11 #[.pointer none, .string k, .int .i64 a, .int .i64 n] w fun e w' => e = .returned (.int .i64 0) ∧ w = w' := by
  go_enter Try.func11, Try.ntmps11
  go_wp2_with (go_at_call 28; refine (within_nil _ _ _ _).mono ?_; rintro e w' ⟨rfl, rfl⟩)
  go_ret
  exact ⟨rfl, rfl⟩
theorem vsum_nil (k : ByteArray) (a n : Int) (w : World) : Calls Try.prog 12 #[.pointer none, .string k, .int .i64 a, .int .i64 n] w fun e w' => e = .returned (.int .i64 0) ∧ w = w' := by
  go_enter Try.func12, Try.ntmps12
  go_wp2_with (go_at_call 28; refine (within_nil _ _ _ _).mono ?_; rintro e w' ⟨rfl, rfl⟩)
  go_ret
  exact ⟨rfl, rfl⟩
theorem in_nil (k : ByteArray) (a n : Int) (w : World) : Calls Try.prog 31 #[.pointer none, .string k, .int .i64 a, .int .i64 n] w fun e w' => e = .returned (.slice none 0 0) ∧ w = w' := by
  go_enter Try.func31, Try.ntmps31
  go_wp2_with fail
  go_ret
  exact ⟨rfl, rfl⟩
theorem rcnt_nil (k : ByteArray) (a n : Int) (w : World) : Calls Try.prog 19 #[.pointer none, .string k, .int .i64 a, .int .i64 n] w fun e w' => e = .returned (.int .i64 0) ∧ w = w' := by
  go_enter Try.func19, Try.ntmps19
  go_wp2_with (go_at_call 31; refine (in_nil _ _ _ _).mono ?_; rintro e w' ⟨rfl, rfl⟩)
  go_ret
  exact ⟨rfl, rfl⟩
theorem rsum_nil (k : ByteArray) (a n : Int) (w : World) : Calls Try.prog 20 #[.pointer none, .string k, .int .i64 a, .int .i64 n] w fun e w' => e = .returned (.int .i64 0) ∧ w = w' := by
  go_enter Try.func20, Try.ntmps20
  go_wp2_with (go_at_call 31; refine (in_nil _ _ _ _).mono ?_; rintro e w' ⟨rfl, rfl⟩)
  refine wp_loop_rounds 1 ?_
  rw [rounds_succ]
  go_wp2_with fail
  go_ret
  exact ⟨rfl, rfl⟩
theorem vcnt (h : VObj w B v s) (k : ByteArray) (a n : Int) : Calls Try.prog 11 #[v, .string k, .int .i64 a, .int .i64 n] w (RetI (oCnt s k a n) w) := by
  cases s with
  | none => obtain rfl : v = .pointer none := h; exact (vcnt_nil k a n w).mono fun e w' ⟨he, hw⟩ => ⟨he, hw ▸ Below.refl _ _⟩
  | some s => obtain ⟨p, rfl, r, o⟩ := h; exact count_any B p s o k a n w r
theorem vsum (h : VObj w B v s) (k : ByteArray) (a n : Int) : Calls Try.prog 12 #[v, .string k, .int .i64 a, .int .i64 n] w (RetI (oSum s k a n) w) := by
  cases s with
  | none => obtain rfl : v = .pointer none := h; exact (vsum_nil k a n w).mono fun e w' ⟨he, hw⟩ => ⟨he, hw ▸ Below.refl _ _⟩
  | some s => obtain ⟨p, rfl, r, o⟩ := h; exact sum_any B p s o k a n w r
theorem rcnt (h : RObj w B v s) (k : ByteArray) (a n : Int) : Calls Try.prog 19 #[v, .string k, .int .i64 a, .int .i64 n] w (RetI (oCnt s k a n) w) := by
  cases s with
  | none => obtain rfl : v = .pointer none := h; exact (rcnt_nil k a n w).mono fun e w' ⟨he, hw⟩ => ⟨he, hw ▸ Below.refl _ _⟩
  | some s => obtain ⟨p, rfl, r, o⟩ := h; exact rcount_any B p s o k a n w r
theorem rsum (h : RObj w B v s) (k : ByteArray) (a n : Int) : Calls Try.prog 20 #[v, .string k, .int .i64 a, .int .i64 n] w (RetI (oSum s k a n) w) := by
  cases s with
  | none => obtain rfl : v = .pointer none := h; exact (rsum_nil k a n w).mono fun e w' ⟨he, hw⟩ => ⟨he, hw ▸ Below.refl _ _⟩
  | some s => obtain ⟨p, rfl, r, o⟩ := h; exact rsum_any B p s o k a n w r
theorem vfor_nil (a : Int) (w : World) : Calls Try.prog 21 #[.pointer none, .int .i64 a] w fun e w' => e = .returned (.int .i64 0) ∧ w = w' := by
  go_enter Try.func21, Try.ntmps21
  go_wp2_with fail
  go_ret
  exact ⟨rfl, rfl⟩
theorem rfor_nil (a : Int) (w : World) : Calls Try.prog 22 #[.pointer none, .int .i64 a] w fun e w' => e = .returned (.int .i64 0) ∧ w = w' := by
  go_enter Try.func22, Try.ntmps22
  go_wp2_with fail
  go_ret
  exact ⟨rfl, rfl⟩
theorem vfor (hB : B ≤ w.heap.size) (h : VObj w B v s) (a : Int) : Calls Try.prog 21 #[v, .int .i64 a] w (VRet B v (oForS s a) (oForE s a) w) := by
  cases s with
  | none =>
    obtain rfl : v = .pointer none := h
    exact (vfor_nil a w).mono fun e w' ⟨he, hw⟩ => ⟨he, rfl, hw ▸ Turn.refl _ _ _ _⟩
  | some s =>
    obtain ⟨p, rfl, r, o⟩ := h
    exact (for_any B p s o a w hB r).mono fun e w' ⟨he, r', t⟩ => ⟨he, ⟨p, rfl, r', o.forS _⟩, t⟩
theorem rfor (hB : B ≤ w.heap.size) (h : RObj w B v s) (a : Int) : Calls Try.prog 22 #[v, .int .i64 a] w (RRet B v (oForS s a) (oForE s a) w) := by
  cases s with
  | none =>
    obtain rfl : v = .pointer none := h
    exact (rfor_nil a w).mono fun e w' ⟨he, hw⟩ => ⟨he, rfl, hw ▸ Turn.refl _ _ _ _⟩
  | some s =>
    obtain ⟨p, rfl, r, o⟩ := h
    exact (rfor_any B p s o a w hB r).mono fun e w' ⟨he, r', t⟩ => ⟨he, ⟨p, rfl, r', o.forS _⟩, t⟩
theorem vlas_nil (k : ByteArray) (w : World) : Calls Try.prog 14 #[.pointer none, .string k] w fun e w' => e = .returned (.tuple #[.int .i64 0, .bool false]) ∧ w = w' := by
  go_enter Try.func14, Try.ntmps14
  go_wp2_with fail
  go_ret2
  exact ⟨rfl, rfl⟩
theorem rlas_nil (k : ByteArray) (w : World) : Calls Try.prog 23 #[.pointer none, .string k] w fun e w' => e = .returned (.tuple #[.int .i64 0, .bool false]) ∧ w = w' := by
  go_enter Try.func23, Try.ntmps23
  go_wp2_with fail
  refine wp_loop_rounds 1 ?_
  rw [rounds_succ]
  go_wp2_with fail
  go_ret2
  exact ⟨rfl, rfl⟩
theorem vlas (h : VObj w B v s) (k : ByteArray) : Calls Try.prog 14 #[v, .string k] w fun e w' => e = .returned (.tuple #[.int .i64 (oLasN s k), .bool (oLasB s k)]) ∧ w = w' := by
  cases s with
  | none => obtain rfl : v = .pointer none := h; exact vlas_nil k w
  | some s => obtain ⟨p, rfl, r, o⟩ := h; exact last_any B p s o k w r
theorem rlas (h : RObj w B v s) (k : ByteArray) : Calls Try.prog 23 #[v, .string k] w fun e w' => e = .returned (.tuple #[.int .i64 (oLasN s k), .bool (oLasB s k)]) ∧ w = w' := by
  cases s with
  | none => obtain rfl : v = .pointer none := h; exact rlas_nil k w
  | some s => obtain ⟨p, rfl, r, o⟩ := h; exact rlast_any B p s o k w r
theorem vlen_nil (w : World) : Calls Try.prog 13 #[.pointer none] w fun e w' => e = .returned (.int .i64 0) ∧ w = w' := by
  go_enter Try.func13, Try.ntmps13
  go_wp2_with fail
  go_ret
  exact ⟨rfl, rfl⟩
theorem rlen_nil (w : World) : Calls Try.prog 24 #[.pointer none] w fun e w' => e = .returned (.int .i64 0) ∧ w = w' := by
  go_enter Try.func24, Try.ntmps24
  go_wp2_with fail
  go_ret
  exact ⟨rfl, rfl⟩
theorem vlen (h : VObj w B v s) : Calls Try.prog 13 #[v] w fun e w' => e = .returned (.int .i64 (oLen s)) ∧ w = w' := by
  cases s with
  | none => obtain rfl : v = .pointer none := h; exact vlen_nil w
  | some s => obtain ⟨p, rfl, r, o⟩ := h; exact len_any B p s w r
theorem rlen (h : RObj w B v s) : Calls Try.prog 24 #[v] w fun e w' => e = .returned (.int .i64 (oLen s)) ∧ w = w' := by
  cases s with
  | none => obtain rfl : v = .pointer none := h; exact rlen_nil w
  | some s => obtain ⟨p, rfl, r, o⟩ := h; exact rlen_any B p s w r
end
end Go.Proofs.Ytieimeahppmefaa
