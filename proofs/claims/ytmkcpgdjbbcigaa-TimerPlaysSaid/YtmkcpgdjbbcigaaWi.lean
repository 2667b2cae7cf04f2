/-
  Timer: walks over Set, Next and the found arm of At. Condition: the state is one that the calls make.
-/
import Derived.Test.YtmkcpgdjbbcigaaWh
namespace Go.Proofs.Ytmkcpgdjbbcigaa
open Go.RowKit
set_option linter.unusedVariables false

set_option maxRecDepth 100000 in
theorem ident_zero (k : ByteArray) (h : ¬ 1 ≤ k.size) (w : World) : Calls Try.prog 30 #[.string k] w fun e w' => e = .returned (.bool false) ∧ w = w' := by
  have h2 : (k.size : Int) < 1 := by omega
  go_enter Try.func30, Try.ntmps30
  go_wp2
  go_ret
  exact ⟨rfl, rfl⟩
theorem ident_ok (k : ByteArray) (w : World) : Calls Try.prog 30 #[.string k] w fun e w' => e = .returned (.bool (identOk k)) ∧ w = w' := by
  unfold identOk
  by_cases h1 : 1 ≤ k.size
  · by_cases h2 : k.size ≤ 16
    · rw [decide_eq_true h1, decide_eq_true h2, Bool.true_and, Bool.true_and]
      exact ident_any k h1 h2 w
    · rw [decide_eq_false h2, Bool.and_false, Bool.false_and]
      exact ident_len k (by omega) w
  · rw [decide_eq_false h1, Bool.false_and, Bool.false_and]
    exact ident_zero k h1 w

/-- What Set answers, and leaves. -/
def setE (s : TS) (key : ByteArray) (a : Int) : Int :=
  if identOk key = false then 5 else if ¬ posT s.now a then 14 else if (findK key s.ts).isSome then 7 else if 256 ≤ s.ts.length then 12 else 0
def setS (s : TS) (key : ByteArray) (a : Int) : TS := if setE s key a = 0 then { s with ts := insT ⟨key, a⟩ s.ts } else s

theorem set_5 (B p : Nat) (s : TS) (key : ByteArray) (a : Int) (h : identOk key = false) (w : World) (r : TRep w B p s) :
    Calls Try.prog 12 #[.pointer (some ⟨p, 0, none⟩), .string key, .int .i64 a] w fun e w' => e = .returned (.int .i64 5) ∧ Below w.heap.size w w' := by
  go_enter Try.func12, Try.ntmps12
  go_wp2_with (go_at_call 30; refine (ident_ok key _).mono ?_; rintro e w' ⟨rfl, rfl⟩; rw [h])
  go_ret
  exact ⟨rfl, Below.refl _ _⟩
theorem set_14 (B p : Nat) (s : TS) (key : ByteArray) (a : Int) (h : identOk key = true) (h2 : ¬ posT s.now a) (w : World) (r : TRep w B p s) :
    Calls Try.prog 12 #[.pointer (some ⟨p, 0, none⟩), .string key, .int .i64 a] w fun e w' => e = .returned (.int .i64 14) ∧ Below w.heap.size w w' := by
  have HQ := Lib.hid (possible_any B p s a w r)
  have hd : decide (posT s.now a) = false := decide_eq_false h2
  clear r h2
  go_enter Try.func12, Try.ntmps12
  go_wp2_with (first
    | (go_at_call 30; refine (ident_ok key _).mono ?_; rintro e w' ⟨rfl, rfl⟩; rw [h])
    | (go_at_call 31; refine HQ.out.mono ?_; rintro e w' ⟨rfl, rfl⟩; rw [hd]))
  go_ret
  exact ⟨rfl, Below.refl _ _⟩
theorem set_7 (B p : Nat) (s : TS) (key : ByteArray) (a : Int) (h : identOk key = true) (h2 : posT s.now a) (i : Nat) (h3 : findK key s.ts = some i) (w : World) (r : TRep w B p s) :
    Calls Try.prog 12 #[.pointer (some ⟨p, 0, none⟩), .string key, .int .i64 a] w fun e w' => e = .returned (.int .i64 7) ∧ Below w.heap.size w w' := by
  have HQ := Lib.hid (possible_any B p s a w r)
  have HF := find_any B p s key w r
  rw [h3] at HF
  replace HF := Lib.hid HF
  have hd : decide (posT s.now a) = true := decide_eq_true h2
  clear r h2
  go_enter Try.func12, Try.ntmps12
  go_wp2_with (first
    | (go_at_call 30; refine (ident_ok key _).mono ?_; rintro e w' ⟨rfl, rfl⟩; rw [h])
    | (go_at_call 31; refine HQ.out.mono ?_; rintro e w' ⟨rfl, rfl⟩; rw [hd])
    | (go_at_call 32; refine HF.out.mono ?_; rintro e w1 ⟨rfl, hb⟩; rw [show idxI (some i) = (i : Int) from rfl]))
  go_ret
  exact ⟨rfl, hb⟩
set_option maxRecDepth 100000 in
theorem set_12 (B p : Nat) (s : TS) (key : ByteArray) (a : Int) (h : identOk key = true) (h2 : posT s.now a) (h3 : findK key s.ts = none) (h4 : 256 ≤ s.ts.length) (w : World) (r : TRep w B p s) :
    Calls Try.prog 12 #[.pointer (some ⟨p, 0, none⟩), .string key, .int .i64 a] w fun e w' => e = .returned (.int .i64 12) ∧ Below w.heap.size w w' := by
  have HQ := Lib.hid (possible_any B p s a w r)
  have HF := find_any B p s key w r
  rw [h3] at HF
  replace HF := Lib.hid HF
  have hd : decide (posT s.now a) = true := decide_eq_true h2
  have i1 : (256 : Int) ≤ s.ts.length := by omega
  obtain ⟨hB, A, c, B0, hr⟩ := r
  clear hr h2
  go_enter Try.func12, Try.ntmps12
  go_wp2_with (first
    | (go_at_call 30; refine (ident_ok key _).mono ?_; rintro e w' ⟨rfl, rfl⟩; rw [h])
    | (go_at_call 31; refine HQ.out.mono ?_; rintro e w' ⟨rfl, rfl⟩; rw [hd])
    | (go_at_call 32; refine HF.out.mono ?_; rintro e w1 ⟨rfl, hb⟩; rw [show idxI none = -1 from rfl]; have c1 := (B0.call hb).c1))
  go_ret
  exact ⟨rfl, hb⟩
def SetRet (B p : Nat) (s : TS) (key : ByteArray) (a : Int) (w : World) (e : Ending) (w' : World) : Prop :=
  e = .returned (.int .i64 (setE s key a)) ∧ TRep w' B p (setS s key a) ∧ Turn B [52, 61] false w w'
set_option maxRecDepth 100000 in
theorem set_0 (B p : Nat) (s : TS) (key : ByteArray) (a : Int) (h : identOk key = true) (h2 : posT s.now a) (h3 : findK key s.ts = none) (h4 : s.ts.length < 256) (w : World) (hBw : B ≤ w.heap.size) (r : TRep w B p s) :
    Calls Try.prog 12 #[.pointer (some ⟨p, 0, none⟩), .string key, .int .i64 a] w fun e w' => e = .returned (.int .i64 0) ∧ TRep w' B p { s with ts := insT ⟨key, a⟩ s.ts } ∧ Turn B [52, 61] false w w' := by
  have HQ := Lib.hid (possible_any B p s a w r)
  have HF := find_any B p s key w r
  rw [h3] at HF
  replace HF := Lib.hid HF
  have HR := Lib.hid r
  have hd : decide (posT s.now a) = true := decide_eq_true h2
  have i1 : ¬ (256 : Int) ≤ s.ts.length := by omega
  obtain ⟨hB, A, c, B0, hr⟩ := r
  clear hr h2
  go_enter Try.func12, Try.ntmps12
  go_wp2_with (first
    | (go_at_call 30; refine (ident_ok key _).mono ?_; rintro e w' ⟨rfl, rfl⟩; rw [h])
    | (go_at_call 31; refine HQ.out.mono ?_; rintro e w' ⟨rfl, rfl⟩; rw [hd])
    | (go_at_call 32
       refine HF.out.mono ?_
       rintro e w1 ⟨rfl, hb⟩
       rw [show idxI none = -1 from rfl]
       have c1 := (B0.call hb).c1
       have z1 := Nat.le_trans hBw hb.size
       have T1 := Lib.hid (Turn.of_below (T := [52, 61]) (m := false) hb hBw)
       have HP := Lib.hid (put_any B p s ⟨key, a⟩ (by omega) w1 z1 (HR.out.call hb)))
    | (go_at_call 33; refine HP.out.mono ?_; rintro e w2 ⟨rfl, R2, T2⟩))
  go_ret
  exact ⟨rfl, R2, T1.out.trans T2⟩
theorem set_any (B p : Nat) (s : TS) (key : ByteArray) (a : Int) (w : World) (hBw : B ≤ w.heap.size) (r : TRep w B p s) :
    Calls Try.prog 12 #[.pointer (some ⟨p, 0, none⟩), .string key, .int .i64 a] w (SetRet B p s key a w) := by
  have no : ∀ n : Int, n ≠ 0 → setE s key a = n → ∀ e w', (e = .returned (.int .i64 n) ∧ Below w.heap.size w w') → SetRet B p s key a w e w' := fun n hn he e w' ⟨h1, h2⟩ =>
    ⟨by rw [he]; exact h1, by unfold setS; rw [he, if_neg hn]; exact r.call h2, Turn.of_below h2 hBw⟩
  cases h : identOk key with
  | false => exact (set_5 B p s key a h w r).mono (no 5 (by decide) (by unfold setE; rw [if_pos h]))
  | true =>
    have n1 : ¬ identOk key = false := by rw [h]; decide
    by_cases h2 : posT s.now a
    · have n2 : ¬ ¬ posT s.now a := fun e => e h2
      cases h3 : findK key s.ts with
      | some i => exact (set_7 B p s key a h h2 i h3 w r).mono (no 7 (by decide) (by unfold setE; rw [if_neg n1, if_neg n2, h3]; rfl))
      | none =>
        have n3 : ¬ (findK key s.ts).isSome = true := by rw [h3]; decide
        by_cases h4 : 256 ≤ s.ts.length
        · exact (set_12 B p s key a h h2 h3 h4 w r).mono (no 12 (by decide) (by unfold setE; rw [if_neg n1, if_neg n2, if_neg n3, if_pos h4]))
        · have he : setE s key a = 0 := by unfold setE; rw [if_neg n1, if_neg n2, if_neg n3, if_neg h4]
          refine (set_0 B p s key a h h2 h3 (by omega) w hBw r).mono fun e w' ⟨e1, e2, e3⟩ => ⟨by rw [he]; exact e1, ?_, e3⟩
          unfold setS
          rw [if_pos he]
          exact e2
    · exact (set_14 B p s key a h h2 w r).mono (no 14 (by decide) (by unfold setE; rw [if_neg n1, if_pos h2]))

theorem move_14 (B p : Nat) (s : TS) (key : ByteArray) (a : Int) (i : Nat) (hf : findK key s.ts = some i) (h2 : ¬ posT s.now a) (w : World) (r : TRep w B p s) :
    Calls Try.prog 14 #[.pointer (some ⟨p, 0, none⟩), .string key, .int .i64 a] w fun e w' => e = .returned (.int .i64 14) ∧ Below w.heap.size w w' := by
  have HF := find_any B p s key w r
  rw [hf] at HF
  replace HF := Lib.hid HF
  have HR := Lib.hid r
  have hd : decide (posT s.now a) = false := decide_eq_false h2
  clear r h2
  go_enter Try.func14, Try.ntmps14
  go_wp2_with (first
    | (go_at_call 32
       refine HF.out.mono ?_
       rintro e w1 ⟨rfl, hb⟩
       rw [show idxI (some i) = (i : Int) from rfl]
       have HQ := Lib.hid (possible_any B p s a w1 (HR.out.call hb)))
    | (go_at_call 31; refine HQ.out.mono ?_; rintro e w' ⟨rfl, rfl⟩; rw [hd]))
  go_ret
  exact ⟨rfl, hb⟩
theorem at_some (B p : Nat) (s : TS) (key : ByteArray) (i : Nat) (x : Ti) (hf : findK key s.ts = some i) (hx : s.ts[i]? = some x) (w : World) (r : TRep w B p s) :
    Calls Try.prog 21 #[.pointer (some ⟨p, 0, none⟩), .string key] w fun e w' => e = .returned (.tuple #[.int .i64 x.at_, .bool true]) ∧ Below w.heap.size w w' := by
  have HF := find_any B p s key w r
  rw [hf] at HF
  replace HF := Lib.hid HF
  have hi := findK_lt hf
  obtain ⟨hB, A, c, B0, hr⟩ := r
  obtain ⟨g, rfl, _, _, _, _⟩ := hr.cells (by omega)
  have HR := Lib.hid hr
  have HX := Lib.hid hx
  clear hr hx
  go_enter Try.func21, Try.ntmps21
  go_wp2_with (
    go_at_call 32
    refine HF.out.mono ?_
    rintro e w1 ⟨rfl, hb⟩
    rw [show idxI (some i) = (i : Int) from rfl]
    have c1 := (B0.call hb).c1
    have g1 : w1.cell? ⟨g, i * 2 + 1, none⟩ = some (.int .i64 x.at_) := by
      obtain ⟨g', e, _, _, hc, _⟩ := (HR.out.call hb).cells (by omega)
      injection e with e
      injection e with e
      subst e
      exact hc (i * 2 + 1) _ (by rw [atM tiC 2 tiC2 _ i _ 1 HX.out (by decide)]; rfl))
  go_ret2
  exact ⟨rfl, hb⟩
theorem next_none (B p : Nat) (s : TS) (h : s.ts.length = 0) (w : World) (r : TRep w B p s) :
    Calls Try.prog 23 #[.pointer (some ⟨p, 0, none⟩)] w fun e w' => e = .returned (.tuple #[.int .i64 0, .bool false]) ∧ w = w' := by
  obtain ⟨hB, A, c, B0, hr⟩ := r
  have c1 := B0.c1
  rw [h] at c1
  clear hr
  go_enter Try.func23, Try.ntmps23
  go_wp2
  go_ret2
  exact ⟨rfl, rfl⟩
theorem next_some (B p : Nat) (s : TS) (x : Ti) (hx : s.ts[0]? = some x) (w : World) (r : TRep w B p s) :
    Calls Try.prog 23 #[.pointer (some ⟨p, 0, none⟩)] w fun e w' => e = .returned (.tuple #[.int .i64 x.at_, .bool true]) ∧ w = w' := by
  obtain ⟨hB, A, c, B0, hr⟩ := r
  have c1 := B0.c1
  have hi : 0 < s.ts.length := (List.getElem?_eq_some_iff.1 hx).1
  obtain ⟨g, rfl, _, _, hc, _⟩ := hr.cells hi
  have g1 : w.cell? ⟨g, 1, none⟩ = some (.int .i64 x.at_) := hc 1 _ (by have := atM tiC 2 tiC2 _ 0 _ 1 hx (by decide); simpa [tiC] using this)
  have n1 : ¬ s.ts.length = 0 := by omega
  have n2 : ¬ (s.ts.length : Int) = 0 := by omega
  have n3 : (0 : Int) < s.ts.length := by omega
  clear hc hr hx
  go_enter Try.func23, Try.ntmps23
  go_wp2
  go_ret2
  exact ⟨rfl, rfl⟩
end Go.Proofs.Ytmkcpgdjbbcigaa
