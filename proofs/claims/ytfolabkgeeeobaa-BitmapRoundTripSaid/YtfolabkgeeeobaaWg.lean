/-
  Walk over cardnetref05.Minus. No condition.
-/
import Derived.Test.YtfolabkgeeeobaaWf
namespace Go.Proofs.Ytfolabkgeeeobaa
open Go.RowKit

def exR (a b c d n : Int) : Bool := hasR a b n && !hasR c d n

theorem Three.grownx {w0 : World} {a b c d : Int} {w x : World} {v : Value} {base n : Nat} {xs : List Value} (h : Three w0 a b c d w) (hown : w.ownsRow base 3 1 v n xs) (hg : w.grownBy x v.ownBlock) (hb : w0.heap.size ≤ base) : Three w0 a b c d x := h.grown hown hg hb

theorem Three.start0 (w : World) (a b c d : Int) : Three w a b c d (((w.alloc (.cells #[.int .u64 a, .int .u64 b] 26)).alloc (.cells #[.int .u64 c, .int .u64 d] 26)).alloc (.cells #[.int .u64 0, .int .u64 0] 26)) :=
  have h := Three.start w a b c d
  ⟨h.b0, h.b1, h.b2, ⟨h.low.os, h.low.tape, h.low.output, h.low.size, h.low.block⟩⟩

set_option maxRecDepth 100000 in
set_option maxHeartbeats 1600000 in
theorem rminus_any (a b c d : Int) (w : World) (x y : Int) (hU : ofR (lst (exR a b c d) 127) 0 0 = some (x, y)) :
    Calls Try.prog 15 #[.agg #[.int .u64 a, .int .u64 b], .agg #[.int .u64 c, .int .u64 d]] w fun e w' => e = .returned (.agg #[.int .u64 x, .int .u64 y]) ∧ Below w.heap.size w w' := by
  have HU : Hid (ofRes (ofR (lst (exR a b c d) 127) 0 0) = .tuple #[.agg #[.int .u64 x, .int .u64 y], .int .i64 0]) := Lib.hid (by rw [hU]; rfl)
  clear hU
  have iss := isSome_setCell
  go_enter Try.func15, Try.ntmps15
  go_wp2_with fail
  go_loopw [5, 6] (fun v i wr => ∃ k : Nat, k ≤ 127 ∧ i = .int .i64 (k + 2) ∧ wr.ownsRow (w.heap.size + 1) 3 1 v (lst (exR a b c d) k).length ((lst (exR a b c d) k).map (Value.int .i64)) ∧ Three w a b c d wr) (fun _ i _ => 129 - (intOf i).toNat)
  case atStart => exact ⟨0, by omega, rfl, World.ownsRow_nil _ _ _ _, Three.start0 w a b c d⟩
  case round =>
    obtain ⟨k, hk, rfl, hown, T⟩ := hrel
    have hz := T.low.size
    have c0 := T.b0.c0; have c1 := T.b0.c1; have c2 := T.b1.c0; have c3 := T.b1.c1
    have z2 := T.b2.lt
    by_cases hlt : k < 127
    · cases hp : hasR a b (k + 2) with
      | true =>
        cases hq : hasR c d (k + 2) with
        | true =>
          have HP := Lib.hid hp
          have HQ := Lib.hid hq
          clear hp hq
          go_wp2_with (go_at_call 28; first | (have o0 := hown; clear hown; refine (rhas_in a b _ _ (by omega) (by omega)).mono ?_; rintro e w1 ⟨rfl, hb1⟩; rw [HP.out]; have T1 := T.keep hb1; have o1 := own_call o0 hb1; clear o0 T c0 c1 c2 c3; have c2 := T1.b1.c0; have c3 := T1.b1.c1; clear hb1) | (refine (rhas_in c d _ _ (by omega) (by omega)).mono ?_; rintro e w2 ⟨rfl, hb2⟩; rw [HQ.out]; have T2 := T1.keep hb2; have o2 := own_call o1 hb2))
          go_roundw
          case rel =>
            refine ⟨k + 1, by omega, by go_num, ?_, T2⟩
            rw [lst_no (by simp [exR, HP.out, HQ.out])]
            exact o2
          case measure => simp [intOf]; omega
        | false =>
          have HP := Lib.hid hp
          have HQ := Lib.hid hq
          clear hp hq
          go_wp2_with (first | (go_at_call 28; first | (have o0 := hown; clear hown; refine (rhas_in a b _ _ (by omega) (by omega)).mono ?_; rintro e w1 ⟨rfl, hb1⟩; rw [HP.out]; have T1 := T.keep hb1; have o1 := own_call o0 hb1; clear o0 T c0 c1 c2 c3; have c2 := T1.b1.c0; have c3 := T1.b1.c1; clear hb1) | (refine (rhas_in c d _ _ (by omega) (by omega)).mono ?_; rintro e w2 ⟨rfl, hb2⟩; rw [HQ.out]; have T2 := T1.keep hb2; have o2 := own_call o1 hb2; have hz2 := T2.low.size)) | (at_builtin; refine wpList_push intE _ _ rfl rfl (w.heap.size + 1) _ _ _ rfl (o2.alloc _) _ #[.int .i64 (k + 2)] (Blk.new w2 3 _) rfl rfl (fun u hu => by simp at hu; subst hu; rfl) (by unfold maxLen; have := lst_len (exR a b c d) k; omega) (by have := lst_len (exR a b c d) k; omega) (by have := T2.b0.lt; simp; omega) ?_; intro g cap w3 hown3 hg3 hor))
          go_roundw
          case rel =>
            refine ⟨k + 1, by omega, by go_num, ?_, (T2.alloc _).grown (o2.alloc _) hg3 (by omega)⟩
            rw [lst_yes (by simp [exR, HP.out, HQ.out])]
            simpa using hown3
          case measure => simp [intOf]; omega
      | false =>
        have HP := Lib.hid hp
        clear hp
        go_wp2_with (go_at_call 28; refine (rhas_in a b _ _ (by omega) (by omega)).mono ?_; rintro e w1 ⟨rfl, hb1⟩; rw [HP.out]; have T1 := T.keep hb1; have o1 := own_call hown hb1; clear hown T c0 c1 c2 c3; have c2 := T1.b1.c0; have c3 := T1.b1.c1; clear hb1)
        go_roundw
        case rel =>
          refine ⟨k + 1, by omega, by go_num, ?_, T1⟩
          rw [lst_no (by simp [exR, HP.out])]
          exact o1
        case measure => simp [intOf]; omega
    · have hk127 : k = 127 := by omega
      subst hk127
      obtain ⟨A, cc, rfl⟩ := own_slice hown
      go_wp2_with (go_at_call 11; refine (rof_any _ _ _ (lst (exR a b c d) 127) _ (by simp) (by have := lst_len (exR a b c d) 127; omega) (RD.of_own hown)).mono ?_; rintro e w1 ⟨rfl, hb⟩; rw [HU.out]; have T1 := T.keep hb; have r0 := T1.b2.c0; have r1 := T1.b2.c1; have rf := T1.b2.frozen; have rl := T1.b2.lt)
      refine post_cell1 (w.heap.size + 1 + 1) (.int .u64 x) (.int .u64 y) rfl (by simp) (fun w => by kernel_rfl) (fun w => by kernel_rfl) (((T1.b2.s0 _).s1 _).alloc _) rfl ⟨rfl, ?_⟩
      exact ((T1.low.setCell (by simp <;> omega) _).setCell (by simp <;> omega) _).alloc (by simpa using T1.low.size) _
end Go.Proofs.Ytfolabkgeeeobaa
