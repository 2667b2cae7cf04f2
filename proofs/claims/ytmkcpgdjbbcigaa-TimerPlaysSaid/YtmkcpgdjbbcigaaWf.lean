/-
  Timer: walks over Move, Cancel, At, Next, Now and Len. Condition: the state is one that the calls make.
-/
import Derived.Test.YtmkcpgdjbbcigaaWe
namespace Go.Proofs.Ytmkcpgdjbbcigaa
open Go.RowKit
set_option linter.unusedVariables false

theorem now_any (B p : Nat) (s : TS) (w : World) (r : TRep w B p s) : Calls Try.prog 25 #[.pointer (some ⟨p, 0, none⟩)] w fun e w' => e = .returned (.int .i64 s.now) ∧ w = w' := by
  obtain ⟨hB, A, c, B0, hr⟩ := r
  have c0 := B0.c0
  clear hr
  go_enter Try.func25, Try.ntmps25
  go_wp2
  go_ret
  exact ⟨rfl, rfl⟩
theorem len_any (B p : Nat) (s : TS) (w : World) (r : TRep w B p s) : Calls Try.prog 27 #[.pointer (some ⟨p, 0, none⟩)] w fun e w' => e = .returned (.int .i64 s.ts.length) ∧ w = w' := by
  obtain ⟨hB, A, c, B0, hr⟩ := r
  have c1 := B0.c1
  clear hr
  go_enter Try.func27, Try.ntmps27
  go_wp2
  go_ret
  exact ⟨rfl, rfl⟩
theorem cancel_none (B p : Nat) (s : TS) (key : ByteArray) (hf : findK key s.ts = none) (w : World) (r : TRep w B p s) :
    Calls Try.prog 16 #[.pointer (some ⟨p, 0, none⟩), .string key] w fun e w' => e = .returned (.int .i64 6) ∧ Below w.heap.size w w' := by
  have HF := find_any B p s key w r
  rw [hf] at HF
  replace HF := Lib.hid HF
  go_enter Try.func16, Try.ntmps16
  go_wp2_with (go_at_call 32; refine HF.out.mono ?_; rintro e w' ⟨rfl, hb⟩; rw [show idxI none = -1 from rfl])
  go_ret
  exact ⟨rfl, hb⟩
def CanRet (B p : Nat) (s : TS) (i : Nat) (w : World) (e : Ending) (w' : World) : Prop :=
  e = .returned (.int .i64 0) ∧ TRep w' B p { s with ts := remT i 1 s.ts } ∧ Turn B [52, 61] false w w'
theorem cancel_ok (B p : Nat) (s : TS) (key : ByteArray) (i : Nat) (hf : findK key s.ts = some i) (w : World) (hBw : B ≤ w.heap.size) (r : TRep w B p s) :
    Calls Try.prog 16 #[.pointer (some ⟨p, 0, none⟩), .string key] w (CanRet B p s i w) := by
  have HF := find_any B p s key w r
  rw [hf] at HF
  replace HF := Lib.hid HF
  have HR := Lib.hid r
  have hi := findK_lt hf
  clear r
  go_enter Try.func16, Try.ntmps16
  go_wp2_with (first
    | (go_at_call 32
       refine HF.out.mono ?_
       rintro e w1 ⟨rfl, hb⟩
       rw [show idxI (some i) = (i : Int) from rfl]
       have HD := Lib.hid (remove_any B p s i 1 hi w1 (Nat.le_trans hBw hb.size) (HR.out.call hb))
       have T1 := Lib.hid (Turn.of_below (T := [52, 61]) (m := false) hb hBw))
    | (go_at_call 38; refine HD.out.mono ?_; rintro e w2 ⟨rfl, R2, T2⟩))
  go_ret
  exact ⟨rfl, R2, T1.out.trans T2⟩
end Go.Proofs.Ytmkcpgdjbbcigaa
