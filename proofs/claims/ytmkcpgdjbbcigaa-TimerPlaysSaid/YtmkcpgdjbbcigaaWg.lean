/-
  Timer: walks over Move and At. Condition: the state is one that the calls make.
-/
import Derived.Test.YtmkcpgdjbbcigaaWf
namespace Go.Proofs.Ytmkcpgdjbbcigaa
open Go.RowKit
set_option linter.unusedVariables false

theorem at_none (B p : Nat) (s : TS) (key : ByteArray) (hf : findK key s.ts = none) (w : World) (r : TRep w B p s) :
    Calls Try.prog 21 #[.pointer (some ⟨p, 0, none⟩), .string key] w fun e w' => e = .returned (.tuple #[.int .i64 0, .bool false]) ∧ Below w.heap.size w w' := by
  have HF := find_any B p s key w r
  rw [hf] at HF
  replace HF := Lib.hid HF
  go_enter Try.func21, Try.ntmps21
  go_wp2_with (go_at_call 32; refine HF.out.mono ?_; rintro e w' ⟨rfl, hb⟩; rw [show idxI none = -1 from rfl])
  go_ret2
  exact ⟨rfl, hb⟩
theorem move_none (B p : Nat) (s : TS) (key : ByteArray) (a : Int) (hf : findK key s.ts = none) (w : World) (r : TRep w B p s) :
    Calls Try.prog 14 #[.pointer (some ⟨p, 0, none⟩), .string key, .int .i64 a] w fun e w' => e = .returned (.int .i64 6) ∧ Below w.heap.size w w' := by
  have HF := find_any B p s key w r
  rw [hf] at HF
  replace HF := Lib.hid HF
  go_enter Try.func14, Try.ntmps14
  go_wp2_with (go_at_call 32; refine HF.out.mono ?_; rintro e w' ⟨rfl, hb⟩; rw [show idxI none = -1 from rfl])
  go_ret
  exact ⟨rfl, hb⟩
def MoveRet (B p : Nat) (s : TS) (i : Nat) (x : Ti) (w : World) (e : Ending) (w' : World) : Prop :=
  e = .returned (.int .i64 0) ∧ TRep w' B p { s with ts := insT x (remT i 1 s.ts) } ∧ Turn B [52, 61] false w w'
theorem move_ok (B p : Nat) (s : TS) (x : Ti) (i : Nat) (hf : findK x.id s.ts = some i) (hl : s.ts.length < 1000) (hp : posT s.now x.at_) (w : World) (hBw : B ≤ w.heap.size) (r : TRep w B p s) :
    Calls Try.prog 14 #[.pointer (some ⟨p, 0, none⟩), .string x.id, .int .i64 x.at_] w (MoveRet B p s i x w) := by
  have HF := find_any B p s x.id w r
  rw [hf] at HF
  replace HF := Lib.hid HF
  have HR := Lib.hid r
  have hi := findK_lt hf
  have hd : decide (posT s.now x.at_) = true := decide_eq_true hp
  clear r hp
  go_enter Try.func14, Try.ntmps14
  go_wp2_with (first
    | (go_at_call 32
       refine HF.out.mono ?_
       rintro e w1 ⟨rfl, hb⟩
       rw [show idxI (some i) = (i : Int) from rfl]
       have z1 := Nat.le_trans hBw hb.size
       have R1 := HR.out.call hb
       have HQ := Lib.hid (possible_any B p s x.at_ w1 R1)
       have HD := Lib.hid (remove_any B p s i 1 hi w1 z1 R1)
       have T1 := Lib.hid (Turn.of_below (T := [52, 61]) (m := false) hb hBw)
       clear R1)
    | (go_at_call 31; refine HQ.out.mono ?_; rintro e w' ⟨rfl, rfl⟩; rw [hd])
    | (go_at_call 38
       refine HD.out.mono ?_
       rintro e w2 ⟨rfl, R2, T2⟩
       have hl2 : ({ s with ts := remT i 1 s.ts } : TS).ts.length < 1000 := by
         show (remT i 1 s.ts).length < 1000
         rw [remT_len hi]
         omega
       have HP := Lib.hid (put_any B p { s with ts := remT i 1 s.ts } x hl2 w2 (Nat.le_trans z1 T2.size) R2)
       have T2' := Lib.hid (T1.out.trans T2)
       clear R2 T2 hl2)
    | (go_at_call 33; refine HP.out.mono ?_; rintro e w3 ⟨rfl, R3, T3⟩))
  go_ret
  exact ⟨rfl, R3, T2'.out.trans T3⟩
end Go.Proofs.Ytmkcpgdjbbcigaa
