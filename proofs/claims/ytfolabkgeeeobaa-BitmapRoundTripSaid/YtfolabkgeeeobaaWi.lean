/-
  Walks over Count and List of both sides, and numbers. No condition.
-/
import Derived.Test.YtfolabkgeeeobaaPc
namespace Go.Proofs.Ytfolabkgeeeobaa
open Go.RowKit

def pop (x : Int) : Nat := cnt (fun i => x.toNat.testBit i) 64
theorem pop_le (x : Int) : pop x ≤ 64 := cnt_le _ _
theorem ones_pop (x : Int) (w : World) (hx : Wd x) : Calls Try.prog 38 #[.int .u64 x] w fun e w' => e = .returned (.int .i64 (pop x : Nat)) ∧ w = w' :=
  (ones_any x w).mono fun e w' h => ⟨by rw [h.1, ones_cnt hx]; rfl, h.2.symm⟩
def cntB (x y : Int) : Nat := pop (clr x) + pop y

set_option maxRecDepth 100000 in
theorem count_any (x y : Int) (w : World) (hx : Wd x) (hy : Wd y) :
    Calls Try.prog 22 #[.agg #[.int .u64 x, .int .u64 y]] w fun e w' => e = .returned (.int .i64 (cntB x y : Nat)) ∧ Below w.heap.size w w' := by
  have hc := clr_wd hx
  have iss := isSome_setCell
  go_enter Try.func22, Try.ntmps22
  go_wp2_with (go_at_call 32; refine (clean_any _ _ _).mono ?_; rintro e w1 ⟨rfl, hb⟩; have B0 := (Blk.new w 26 #[.int .u64 x, .int .u64 y]).call hb; have c0 := B0.c0; have c1 := B0.c1; have f0 := B0.frozen; have l0 := B0.lt)
  have B1 := (B0.s0 (.int .u64 (clr x))).s1 (.int .u64 y)
  have C0 := fun n : Up _ => (B1.call n.2).c0
  have C1 := fun n : Up _ => (B1.call n.2).c1
  refine wp_region_up (by kernel_rfl) (by kernel_rfl) ?_
  repeat (go_big_quiet_step (first | (go_at_call 38; exact Calls.up_same _ (ones_pop _ _ hc)) | (go_at_call 38; exact Calls.up_same _ (ones_pop _ _ hy))))
  refine wpQuiet_nil ?_
  intro N
  go_wp2
  go_ret
  refine ⟨?_, ?_⟩
  · have := pop_le (clr x); have := pop_le y
    simp [cntB]
    unfold wrap64
    omega
  · exact ((((Below.refl _ _).alloc (Nat.le_refl _) _).trans (hb.mono (by simp))).setCell (by simp) _).setCell (by simp) _ |>.trans (N.2.mono (by simp; omega))

theorem rcount_any (x y : Int) (w : World) :
    Calls Try.prog 30 #[.agg #[.int .u64 x, .int .u64 y]] w fun e w' => e = .returned (.int .i64 ((lst (hasR x y) 127).length : Nat)) ∧ Below w.heap.size w w' := by
  go_enter Try.func30, Try.ntmps30
  go_wp2_with (go_at_call 29; refine (rlist_any _ _ _).mono ?_; rintro e w1 ⟨v, rfl, own, hb⟩; obtain ⟨A, c, rfl⟩ := own_slice own)
  go_ret
  exact ⟨rfl, ((Below.refl _ _).alloc (Nat.le_refl _) _).trans (hb.mono (by simp))⟩

set_option maxRecDepth 100000 in
set_option maxHeartbeats 1600000 in
theorem list_any (x y : Int) (w : World) (hx : Wd x) (hy : Wd y) :
    Calls Try.prog 20 #[.agg #[.int .u64 x, .int .u64 y]] w (RetRow (lst (hasR x y) 127) w) := by
  have hcnt : cntB x y ≤ 128 := by have := pop_le (clr x); have := pop_le y; unfold cntB; omega
  obtain ⟨ii, hi, hz0, hz1, hz2⟩ := info_parts intE.hi
  go_enter Try.func20, Try.ntmps20
  go_wp2_with (first | (go_at_call 22; refine (count_any x y _ hx hy).mono ?_; rintro e w1 ⟨rfl, hb⟩; have B0 := (Blk.new w 26 #[.int .u64 x, .int .u64 y]).call hb) | (refine wpList_make_own _ rfl _ _ _ rfl w.heap.size 3 ii _ 1 intE.ht hi hz0 hz1 _ _ _ (cntB x y) rfl rfl rfl (by rw [hz2]; omega) (by unfold maxLen; omega) (by have := hb.size; simp at this; omega) ?_; intro w2 own0 hg0))
  go_loopw [3, 4] (fun v i wr => ∃ k : Nat, k ≤ 127 ∧ i = .int .i64 (k + 2) ∧ wr.ownsRow w.heap.size 3 1 v (lst (hasR x y) k).length ((lst (hasR x y) k).map (Value.int .i64)) ∧ Blk wr w.heap.size 26 #[.int .u64 x, .int .u64 y] ∧ Below w.heap.size w wr) (fun _ i _ => 129 - (intOf i).toNat)
  case atStart => exact ⟨0, by omega, rfl, own0, B0.grown hg0 (by simp), (((Below.refl _ _).alloc (Nat.le_refl _) _).trans (hb.mono (by simp))).grown hg0 (by have := hb.size; simp at this; omega) (fun q hq => by cases hq)⟩
  case round =>
    obtain ⟨k, hk, rfl, hown, B0, hb⟩ := hrel
    have f0 := B0.frozen
    have hne := own_blk_ne hown B0 (by decide)
    have drewB : ∀ q, Below wr.heap.size wr (wr.drewN q) := fun q => drewN_below (Below.refl _ _) q
    by_cases hlt : k < 127
    · by_cases h64 : (k : Int) + 2 ≤ 64
      · cases hp : hasR x y (k + 2) with
        | true =>
          have HP := Lib.hid hp
          have ht : (bits BinOp.and .u64 x (bitI (k + 2)) != 0) = true := by have h := hp; unfold hasR at h; rw [if_pos h64] at h; exact h
          clear hp
          go_wp2_with (first | (go_at_call 37; refine (place_lo _ _ (by omega) (by omega)).mono ?_; rintro e w1 ⟨rfl, q, rfl⟩; have B1 := B0.drewN q; have c0 := B1.c0; have c1 := B1.c1) | (at_builtin; refine wpList_push intE _ _ rfl rfl w.heap.size _ _ _ rfl ((own_call hown (drewB q)).alloc _) _ #[.int .i64 (k + 2)] (Blk.new (wr.drewN q) 3 _) rfl rfl (fun u hu => by simp at hu; subst hu; rfl) (by unfold maxLen; have := lst_len (hasR x y) k; omega) (by have := lst_len (hasR x y) k; omega) (by have := B0.lt; simp; omega) ?_; intro g cap w2 hown2 hg2 hor))
          have hz := hb.size
          go_roundw
          case rel =>
            refine ⟨k + 1, by omega, by go_num, ?_, (B1.alloc _).grown hg2 (Ne.symm hne), (Below.alloc (drewN_below hb q) (by simpa using hz) _).grown hg2 (by simp; omega) (fun q hq => (hown.lt q hq).1)⟩
            rw [lst_yes HP.out]
            simpa using hown2
          case measure => simp [intOf]; omega
        | false =>
          have HP := Lib.hid hp
          have ht : (bits BinOp.and .u64 x (bitI (k + 2)) != 0) = false := by have h := hp; unfold hasR at h; rw [if_pos h64] at h; exact h
          clear hp
          go_wp2_with (first | (go_at_call 37; refine (place_lo _ _ (by omega) (by omega)).mono ?_; rintro e w1 ⟨rfl, q, rfl⟩; have B1 := B0.drewN q; have c0 := B1.c0; have c1 := B1.c1))
          have hz := hb.size
          go_roundw
          case rel =>
            refine ⟨k + 1, by omega, by go_num, ?_, B1, drewN_below hb q⟩
            rw [lst_no HP.out]
            exact own_call hown (drewB q)
          case measure => simp [intOf]; omega
      · cases hp : hasR x y (k + 2) with
        | true =>
          have HP := Lib.hid hp
          have ht : (bits BinOp.and .u64 y (bitI (k + 2)) != 0) = true := by have h := hp; unfold hasR at h; rw [if_neg h64] at h; exact h
          have h65 : 64 < (k : Int) + 2 := by omega
          clear hp h64
          go_wp2_with (first | (go_at_call 37; refine (place_hi _ _ h65 (by omega)).mono ?_; rintro e w1 ⟨rfl, q, rfl⟩; have B1 := B0.drewN q; have c0 := B1.c0; have c1 := B1.c1) | (at_builtin; refine wpList_push intE _ _ rfl rfl w.heap.size _ _ _ rfl ((own_call hown (drewB q)).alloc _) _ #[.int .i64 (k + 2)] (Blk.new (wr.drewN q) 3 _) rfl rfl (fun u hu => by simp at hu; subst hu; rfl) (by unfold maxLen; have := lst_len (hasR x y) k; omega) (by have := lst_len (hasR x y) k; omega) (by have := B0.lt; simp; omega) ?_; intro g cap w2 hown2 hg2 hor))
          have hz := hb.size
          go_roundw
          case rel =>
            refine ⟨k + 1, by omega, by go_num, ?_, (B1.alloc _).grown hg2 (Ne.symm hne), (Below.alloc (drewN_below hb q) (by simpa using hz) _).grown hg2 (by simp; omega) (fun q hq => (hown.lt q hq).1)⟩
            rw [lst_yes HP.out]
            simpa using hown2
          case measure => simp [intOf]; omega
        | false =>
          have HP := Lib.hid hp
          have ht : (bits BinOp.and .u64 y (bitI (k + 2)) != 0) = false := by have h := hp; unfold hasR at h; rw [if_neg h64] at h; exact h
          have h65 : 64 < (k : Int) + 2 := by omega
          clear hp h64
          go_wp2_with (first | (go_at_call 37; refine (place_hi _ _ h65 (by omega)).mono ?_; rintro e w1 ⟨rfl, q, rfl⟩; have B1 := B0.drewN q; have c0 := B1.c0; have c1 := B1.c1))
          have hz := hb.size
          go_roundw
          case rel =>
            refine ⟨k + 1, by omega, by go_num, ?_, B1, drewN_below hb q⟩
            rw [lst_no HP.out]
            exact own_call hown (drewB q)
          case measure => simp [intOf]; omega
    · have hk127 : k = 127 := by omega
      subst hk127
      go_wp2
      go_ret
      exact ⟨_, rfl, hown, hb⟩
end Go.Proofs.Ytfolabkgeeeobaa
