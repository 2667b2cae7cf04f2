/-
  Walks over cardnetref05.Has and List. No condition.
-/
import Derived.Test.YtfolabkgeeeobaaWc
namespace Go.Proofs.Ytfolabkgeeeobaa
open Go.RowKit

def hasR (x y n : Int) : Bool := ndI (if n ≤ 64 then x else y) (bitI n) != 0

theorem rhas_lo (x y n : Int) (w : World) (h2 : 2 ≤ n) (h3 : n ≤ 64) :
    Calls Try.prog 28 #[.agg #[.int .u64 x, .int .u64 y], .int .i64 n] w fun e w' => e = .returned (.bool (hasR x y n)) ∧ Below w.heap.size w w' := by
  have e1 : IntKind.i64.wrap (n - 1) = n - 1 := IntWalk.i64_in _ (by omega)
  have e2 : (n - 1).tdiv 64 = 0 := by rw [Int.tdiv_eq_ediv_of_nonneg (by omega)]; omega
  have h4 : n ≤ 128 := by omega
  go_enter Try.func28, Try.ntmps28
  go_wp2_with fail
  have C0 := fun n : Up _ => ((Blk.new w 26 #[.int .u64 x, .int .u64 y]).call n.2).c0
  have C1 := fun n : Up _ => ((Blk.new w 26 #[.int .u64 x, .int .u64 y]).call n.2).c1
  refine wp_region_up (by kernel_rfl) (by kernel_rfl) ?_
  repeat (go_big_quiet_step ((go_at_call 31; exact Calls.up_same _ (bit_any _ _ h2 h4))))
  refine wpQuiet_nil ?_
  intro N
  go_wp2
  go_ret
  exact ⟨by unfold hasR; rw [if_pos h3]; rfl, (((Below.refl _ _).alloc (Nat.le_refl _) _).trans (N.2.mono (by simp)))⟩
theorem rhas_hi (x y n : Int) (w : World) (h2 : 64 < n) (h4 : n ≤ 128) :
    Calls Try.prog 28 #[.agg #[.int .u64 x, .int .u64 y], .int .i64 n] w fun e w' => e = .returned (.bool (hasR x y n)) ∧ Below w.heap.size w w' := by
  have e1 : IntKind.i64.wrap (n - 1) = n - 1 := IntWalk.i64_in _ (by omega)
  have e2 : (n - 1).tdiv 64 = 1 := by rw [Int.tdiv_eq_ediv_of_nonneg (by omega)]; omega
  have h3 : 2 ≤ n := by omega
  go_enter Try.func28, Try.ntmps28
  go_wp2_with fail
  have C0 := fun n : Up _ => ((Blk.new w 26 #[.int .u64 x, .int .u64 y]).call n.2).c0
  have C1 := fun n : Up _ => ((Blk.new w 26 #[.int .u64 x, .int .u64 y]).call n.2).c1
  refine wp_region_up (by kernel_rfl) (by kernel_rfl) ?_
  repeat (go_big_quiet_step ((go_at_call 31; exact Calls.up_same _ (bit_any _ _ h3 h4))))
  refine wpQuiet_nil ?_
  intro N
  go_wp2
  go_ret
  exact ⟨by unfold hasR; rw [if_neg (by omega)]; rfl, (((Below.refl _ _).alloc (Nat.le_refl _) _).trans (N.2.mono (by simp)))⟩
theorem rhas_in (x y n : Int) (w : World) (h2 : 2 ≤ n) (h3 : n ≤ 128) :
    Calls Try.prog 28 #[.agg #[.int .u64 x, .int .u64 y], .int .i64 n] w fun e w' => e = .returned (.bool (hasR x y n)) ∧ Below w.heap.size w w' := by
  by_cases h : n ≤ 64
  · exact rhas_lo x y n w h2 h
  · exact rhas_hi x y n w (by omega) h3
theorem rhas_out (x y n : Int) (w : World) (h : n < 2 ∨ 128 < n) :
    Calls Try.prog 28 #[.agg #[.int .u64 x, .int .u64 y], .int .i64 n] w fun e w' => e = .returned (.bool false) ∧ Below w.heap.size w w' := by
  rcases h with h | h
  · have h1 : decide (2 ≤ n) = false := by simpa using h
    go_enter Try.func28, Try.ntmps28
    go_wp2_with fail
    refine wp_region_up (by kernel_rfl) (by kernel_rfl) ?_
    repeat (go_big_quiet_step (fail))
    refine wpQuiet_nil ?_
    intro N
    go_wp2
    go_ret
    exact ⟨rfl, (((Below.refl _ _).alloc (Nat.le_refl _) _).trans (N.2.mono (by simp)))⟩
  · have h1 : decide (2 ≤ n) = true := by simp; omega
    have h2 : decide (n ≤ 128) = false := by simpa using h
    go_enter Try.func28, Try.ntmps28
    go_wp2_with fail
    refine wp_region_up (by kernel_rfl) (by kernel_rfl) ?_
    repeat (go_big_quiet_step (fail))
    refine wpQuiet_nil ?_
    intro N
    go_wp2
    go_ret
    exact ⟨rfl, (((Below.refl _ _).alloc (Nat.le_refl _) _).trans (N.2.mono (by simp)))⟩

theorem intE : ElemT Try.prog 22 3 (.int .i64 0) 1 8 := ⟨Try.underlying22, by kernel_rfl, rfl, by decide⟩

/-- Of the first k numbers from 2 on those that p holds of. -/
def lst (p : Int → Bool) (k : Nat) : List Int := ((List.range k).map fun i : Nat => (i : Int) + 2).filter p
theorem lst_yes {p : Int → Bool} {k : Nat} (h : p (k + 2) = true) : lst p (k + 1) = lst p k ++ [(k : Int) + 2] := by
  simp [lst, List.range_succ, h]
theorem lst_no {p : Int → Bool} {k : Nat} (h : p (k + 2) = false) : lst p (k + 1) = lst p k := by
  simp [lst, List.range_succ, h]
theorem lst_len (p : Int → Bool) (k : Nat) : (lst p k).length ≤ k := by
  unfold lst
  exact Nat.le_trans (List.length_filter_le _ _) (by simp)

/-- The call returns a row of its own that holds the numbers L. -/
def RetRow (L : List Int) (w : World) (e : Ending) (w' : World) : Prop :=
  ∃ v, e = .returned v ∧ w'.ownsRow w.heap.size 3 1 v L.length (L.map (Value.int .i64)) ∧ Below w.heap.size w w'

set_option maxRecDepth 100000 in
set_option maxHeartbeats 400000 in
theorem rlist_any (x y : Int) (w : World) :
    Calls Try.prog 29 #[.agg #[.int .u64 x, .int .u64 y]] w (RetRow (lst (hasR x y) 127) w) := by
  go_enter Try.func29, Try.ntmps29
  go_wp2_with fail
  go_loopw [3, 4] (fun v i wr => ∃ k : Nat, k ≤ 127 ∧ i = .int .i64 (k + 2) ∧ wr.ownsRow w.heap.size 3 1 v (lst (hasR x y) k).length ((lst (hasR x y) k).map (Value.int .i64)) ∧ Blk wr w.heap.size 26 #[.int .u64 x, .int .u64 y] ∧ Below w.heap.size w wr) (fun _ i _ => 129 - (intOf i).toNat)
  case atStart => exact ⟨0, by omega, rfl, World.ownsRow_nil _ _ _ _, Blk.new w 26 _, (Below.refl _ _).alloc (Nat.le_refl _) _⟩
  case round =>
    obtain ⟨k, hk, rfl, hown, B0, hb⟩ := hrel
    have c0 := B0.c0; have c1 := B0.c1; have f0 := B0.frozen
    by_cases hlt : k < 127
    · cases hp : hasR x y (k + 2) with
      | true =>
        have HP := Lib.hid hp
        clear hp
        go_wp2_with (first | (go_at_call 28; refine (rhas_in _ _ _ _ (by omega) (by omega)).mono ?_; rintro e w1 ⟨rfl, hb1⟩; rw [HP.out]; have B1 := B0.call hb1) | (at_builtin; refine wpList_push intE _ _ rfl rfl w.heap.size _ _ _ rfl ((own_call hown hb1).alloc _) _ #[.int .i64 (k + 2)] (Blk.new w1 3 _) rfl rfl (fun u hu => by simp at hu; subst hu; rfl) (by unfold maxLen; have := lst_len (hasR x y) k; omega) (by have := lst_len (hasR x y) k; omega) (by have := B1.lt; simp; omega) ?_; intro g cap w2 hown2 hg2 hor))
        have hz := hb.size
        have hz1 := hb1.size
        have hne := own_blk_ne hown B0 (by decide)
        go_roundw
        case rel =>
          refine ⟨k + 1, by omega, by go_num, ?_, (B1.alloc _).grown hg2 (Ne.symm hne), (Below.alloc (hb.trans (hb1.mono hz)) (by omega) _).grown hg2 (by simp; omega) (fun q hq => (hown.lt q hq).1)⟩
          rw [lst_yes HP.out]
          simpa using hown2
        case measure => simp [intOf]; omega
      | false =>
        have HP := Lib.hid hp
        clear hp
        go_wp2_with (first | (go_at_call 28; refine (rhas_in _ _ _ _ (by omega) (by omega)).mono ?_; rintro e w1 ⟨rfl, hb1⟩; rw [HP.out]; have B1 := B0.call hb1))
        have hz := hb.size
        go_roundw
        case rel =>
          refine ⟨k + 1, by omega, by go_num, ?_, B1, hb.trans (hb1.mono hz)⟩
          rw [lst_no HP.out]
          exact own_call hown hb1
        case measure => simp [intOf]; omega
    · have hk127 : k = 127 := by omega
      subst hk127
      go_wp2
      go_ret
      exact ⟨_, rfl, hown, hb⟩
end Go.Proofs.Ytfolabkgeeeobaa
