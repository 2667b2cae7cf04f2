/-
  Exchange: walk over Begin. Condition: the state is one that the calls make.
-/
import Derived.Test.YtgacpkbpbckgiaaWc
namespace Go.Proofs.Ytgacpkbpbckgiaa
open Go.RowKit
set_option linter.unusedVariables false

def BegRet (B p : Nat) (s : XS) (a : Int) (key txt : ByteArray) (w : World) (e : Ending) (w' : World) : Prop :=
  e = .returned (.int .i64 (begE s a key txt)) ∧ PRep w' B p (begS s a key txt) ∧ Turn B PT true w w'
section
variable (B p : Nat) (s : XS) (a : Int) (key txt : ByteArray) (w : World)
theorem begin_14 (h : ¬ okT s a) (r : PRep w B p s) : Calls Try.prog 13 #[.pointer (some ⟨p, 0, none⟩), .int .i64 a, .string key, .string txt] w fun e w' => e = .returned (.int .i64 14) ∧ Below w.heap.size w w' := by
  have HQ := possible_any B p s w a r
  rw [decide_eq_false h] at HQ
  replace HQ := Lib.hid HQ
  clear h r
  go_enter Try.func13, Try.ntmps13
  go_wp2_with (go_at_call 29; refine HQ.out.mono ?_; rintro e w' ⟨rfl, rfl⟩)
  go_ret
  exact ⟨rfl, Below.refl _ _⟩
theorem begin_5 (h : okT s a) (hk : key.size < 1 ∨ 40 < key.size) (r : PRep w B p s) : Calls Try.prog 13 #[.pointer (some ⟨p, 0, none⟩), .int .i64 a, .string key, .string txt] w fun e w' => e = .returned (.int .i64 5) ∧ Below w.heap.size w w' := by
  have HQ := possible_any B p s w a r
  rw [decide_eq_true h] at HQ
  replace HQ := Lib.hid HQ
  clear h r
  by_cases k1 : (key.size : Int) < 1
  · clear hk
    go_enter Try.func13, Try.ntmps13
    go_wp2_with (go_at_call 29; refine HQ.out.mono ?_; rintro e w' ⟨rfl, rfl⟩)
    go_ret
    exact ⟨rfl, Below.refl _ _⟩
  · have k2 : 40 < (key.size : Int) := by omega
    clear hk
    go_enter Try.func13, Try.ntmps13
    go_wp2_with (go_at_call 29; refine HQ.out.mono ?_; rintro e w' ⟨rfl, rfl⟩)
    go_ret
    exact ⟨rfl, Below.refl _ _⟩
theorem begin_3 (h : okT s a) (hk : 1 ≤ key.size ∧ key.size ≤ 40) (ht : 4000 < txt.size) (r : PRep w B p s) : Calls Try.prog 13 #[.pointer (some ⟨p, 0, none⟩), .int .i64 a, .string key, .string txt] w fun e w' => e = .returned (.int .i64 3) ∧ Below w.heap.size w w' := by
  have HQ := possible_any B p s w a r
  rw [decide_eq_true h] at HQ
  replace HQ := Lib.hid HQ
  have k1 : ¬ (key.size : Int) < 1 := by omega
  have k2 : ¬ 40 < (key.size : Int) := by omega
  have k3 : 4000 < (txt.size : Int) := by omega
  clear h r hk ht
  go_enter Try.func13, Try.ntmps13
  go_wp2_with (go_at_call 29; refine HQ.out.mono ?_; rintro e w' ⟨rfl, rfl⟩)
  go_ret
  exact ⟨rfl, Below.refl _ _⟩
theorem begin_7 (h : okT s a) (hk : 1 ≤ key.size ∧ key.size ≤ 40) (ht : ¬ 4000 < txt.size) (x : Im) (hf : fnd key s.its = some x) (r : PRep w B p s) : Calls Try.prog 13 #[.pointer (some ⟨p, 0, none⟩), .int .i64 a, .string key, .string txt] w fun e w' => e = .returned (.int .i64 7) ∧ Below w.heap.size w w' := by
  have HQ := possible_any B p s w a r
  rw [decide_eq_true h] at HQ
  replace HQ := Lib.hid HQ
  have k1 : ¬ (key.size : Int) < 1 := by omega
  have k2 : ¬ 40 < (key.size : Int) := by omega
  have k3 : ¬ 4000 < (txt.size : Int) := by omega
  obtain ⟨h1, mb, zs, A, c, B0, h3, h4, h5, h6, h7⟩ := r
  have c2 : w.cell? ⟨p, 2, none⟩ = some (.map (some mb)) := B0.c 2 _ rfl
  obtain ⟨g, _, hl⟩ := look_some h4 (s := key) (by unfold maxLen; omega) (x := x) (by rw [h5]; exact hf)
  clear h hk ht h3 h4 h5 h6 h7 B0 hf
  go_enter Try.func13, Try.ntmps13
  go_wp2_with (go_at_call 29; refine HQ.out.mono ?_; rintro e w' ⟨rfl, rfl⟩)
  go_ret
  exact ⟨rfl, Below.refl _ _⟩
set_option maxRecDepth 100000 in
theorem begin_12 (h : okT s a) (hk : 1 ≤ key.size ∧ key.size ≤ 40) (ht : ¬ 4000 < txt.size) (hf : fnd key s.its = none) (hl : s.its.length ≤ 100000) (hw : 256 ≤ (waiL s.its).length) (r : PRep w B p s) : Calls Try.prog 13 #[.pointer (some ⟨p, 0, none⟩), .int .i64 a, .string key, .string txt] w fun e w' => e = .returned (.int .i64 12) ∧ Below w.heap.size w w' := by
  have HQ := possible_any B p s w a r
  rw [decide_eq_true h] at HQ
  replace HQ := Lib.hid HQ
  have HW := Lib.hid (waiting_any B p s hl w r)
  have k1 : ¬ (key.size : Int) < 1 := by omega
  have k2 : ¬ 40 < (key.size : Int) := by omega
  have k3 : ¬ 4000 < (txt.size : Int) := by omega
  have k4 : (256 : Int) ≤ (waiL s.its).length := by omega
  obtain ⟨h1, mb, zs, A, c, B0, h3, h4, h5, h6, h7⟩ := r
  have c2 : w.cell? ⟨p, 2, none⟩ = some (.map (some mb)) := B0.c 2 _ rfl
  have hlk := look_none h4 (s := key) (by unfold maxLen; omega) (by rw [h5]; exact hf)
  clear h hk ht h3 h4 h5 h6 h7 B0 hf hw
  go_enter Try.func13, Try.ntmps13
  go_wp2_with (first
    | (go_at_call 29; refine HQ.out.mono ?_; rintro e w' ⟨rfl, rfl⟩)
    | (go_at_call 26; refine HW.out.mono ?_; rintro e w1 ⟨A1, c1, rfl, W1, b1⟩; have HB1 := Lib.hid b1; clear W1 b1))
  go_ret
  exact ⟨rfl, HB1.out⟩
set_option maxRecDepth 100000 in
theorem begin_0 (o : s.Ok) (h : okT s a) (hk : 1 ≤ key.size ∧ key.size ≤ 40) (ht : ¬ 4000 < txt.size) (hf : fnd key s.its = none) (hl : s.its.length ≤ 100000) (hw : ¬ 256 ≤ (waiL s.its).length) (hBw : B ≤ w.heap.size) (r : PRep w B p s) :
    Calls Try.prog 13 #[.pointer (some ⟨p, 0, none⟩), .int .i64 a, .string key, .string txt] w fun e w' => e = .returned (.int .i64 0) ∧ PRep w' B p ⟨s.tmo, a, s.its ++ [⟨key, txt, ⟨#[]⟩, a, 0⟩]⟩ ∧ Turn B PT true w w' := by
  have HQ := possible_any B p s w a r
  rw [decide_eq_true h] at HQ
  replace HQ := Lib.hid HQ
  have HW := Lib.hid (waiting_any B p s hl w r)
  have HR := Lib.hid r
  have k1 : ¬ (key.size : Int) < 1 := by omega
  have k2 : ¬ 40 < (key.size : Int) := by omega
  have k3 : ¬ 4000 < (txt.size : Int) := by omega
  have k4 : ¬ (256 : Int) ≤ (waiL s.its).length := by omega
  have k5 : key.size ≤ 9223372036854775807 := by omega
  have HF := Lib.hid hf
  have o2 : ({ s with now := a } : XS).Ok := ⟨o.t1, o.t2, by have := o.n1; have := h.1; show 0 ≤ a; omega, h.2, fun x hx => by have h8 := o.at_ x hx; have := h.1; exact ⟨h8.1, by show x.at_ ≤ a; omega⟩, o.sort, o.keys, o.st, o.ks⟩
  have HO := Lib.hid o2
  obtain ⟨h1, mb, zs, A, c, B0, h3, h4, h5, h6, h7⟩ := r
  have c2 : w.cell? ⟨p, 2, none⟩ = some (.map (some mb)) := B0.c 2 _ rfl
  have hlk := look_none h4 (s := key) (by unfold maxLen; omega) (by rw [h5]; exact hf)
  clear h hk ht h3 h4 h5 h6 h7 B0 hf hw o o2
  go_enter Try.func13, Try.ntmps13
  go_wp2_with (first
    | (go_at_call 29; refine HQ.out.mono ?_; rintro e w' ⟨rfl, rfl⟩)
    | (go_at_call 26
       refine HW.out.mono ?_
       rintro e w1 ⟨A1, c1, rfl, W1, b1⟩
       have R1 := HR.out.call b1
       have T1 := Lib.hid (Turn.of_below (T := PT) (m := true) b1 hBw)
       obtain ⟨_, m1, v1, X1⟩ := R1.blk
       have l1 := X1.lt
       have f1 := X1.frozen
       have d1 : w1.cell? ⟨p, 1, none⟩ = some (.int .i64 s.now) := X1.c 1 _ rfl
       have R2 := R1.setNow a
       have T2 := Lib.hid (T1.out.setB X1 rfl h1 1 (.int .i64 a))
       have HA := Lib.hid (add_any B p { s with now := a } HO.out hl key txt k5 HF.out _ (Nat.le_trans hBw T2.out.size) R2)
       clear W1 b1 R1 R2 X1 T1)
    | (go_at_call 30
       refine HA.out.mono ?_
       rintro e w3 ⟨rfl, R3, T3⟩))
  go_ret
  exact ⟨rfl, R3, T2.out.trans T3⟩
theorem begin_any (o : s.Ok) (hl : s.its.length ≤ 100000) (hBw : B ≤ w.heap.size) (r : PRep w B p s) :
    Calls Try.prog 13 #[.pointer (some ⟨p, 0, none⟩), .int .i64 a, .string key, .string txt] w (BegRet B p s a key txt w) := by
  have no : ∀ n : Int, n ≠ 0 → begE s a key txt = n → ∀ e w', (e = .returned (.int .i64 n) ∧ Below w.heap.size w w') → BegRet B p s a key txt w e w' := fun n hn he e w' ⟨h1, h2⟩ =>
    ⟨by rw [he]; exact h1, by unfold begS; rw [he, if_neg hn]; exact r.call h2, Turn.of_below h2 hBw⟩
  by_cases h : okT s a
  · have n1 : ¬ ¬ okT s a := fun e => e h
    by_cases hk : key.size < 1 ∨ 40 < key.size
    · exact (begin_5 B p s a key txt w h hk r).mono (no 5 (by decide) (by unfold begE; rw [if_neg n1, if_pos hk]))
    · have hk' : 1 ≤ key.size ∧ key.size ≤ 40 := by omega
      by_cases ht : 4000 < txt.size
      · exact (begin_3 B p s a key txt w h hk' ht r).mono (no 3 (by decide) (by unfold begE; rw [if_neg n1, if_neg hk, if_pos ht]))
      · cases hf : fnd key s.its with
        | some x => exact (begin_7 B p s a key txt w h hk' ht x hf r).mono (no 7 (by decide) (by unfold begE; rw [if_neg n1, if_neg hk, if_neg ht, hf]; rfl))
        | none =>
          have n2 : ¬ (fnd key s.its).isSome = true := by rw [hf]; decide
          by_cases hw : 256 ≤ (waiL s.its).length
          · exact (begin_12 B p s a key txt w h hk' ht hf hl hw r).mono (no 12 (by decide) (by unfold begE; rw [if_neg n1, if_neg hk, if_neg ht, if_neg n2, if_pos hw]))
          · have he : begE s a key txt = 0 := by unfold begE; rw [if_neg n1, if_neg hk, if_neg ht, if_neg n2, if_neg hw]
            refine (begin_0 B p s a key txt w o h hk' ht hf hl hw hBw r).mono fun e w' ⟨e1, e2, e3⟩ => ⟨by rw [he]; exact e1, ?_, e3⟩
            unfold begS
            rw [if_pos he]
            exact e2
  · exact (begin_14 B p s a key txt w h r).mono (no 14 (by decide) (by unfold begE; rw [if_pos h]))
end
end Go.Proofs.Ytgacpkbpbckgiaa
