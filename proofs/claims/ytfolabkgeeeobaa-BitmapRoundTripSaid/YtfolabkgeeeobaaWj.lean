/-
  Walks over numbers, Clear, and the chapter's Set and Clear. No condition.
-/
import Derived.Test.YtfolabkgeeeobaaPc
namespace Go.Proofs.Ytfolabkgeeeobaa
open Go.RowKit

set_option maxRecDepth 100000 in
/-- Two lists that hold the same numbers. -/
theorem numbers_any (A B : Option Addr) (n c d : Nat) (zs : List Int) (w : World) (hm : n ≤ 9223372036854775807) (ha : RD w A n (zs.map (Value.int .i64))) (hb : RD w B n (zs.map (Value.int .i64))) :
    Calls Try.prog 21 #[.slice A n c, .slice B n d] w fun e w' => e = .returned (.bool true) ∧ Below w.heap.size w w' := by
  have HA := Lib.hid ha
  have HB := Lib.hid hb
  clear ha hb
  go_enter Try.func21, Try.ntmps21
  go_wp2
  go_loopw [5] (fun i wr => ∃ k : Nat, k ≤ n ∧ i = .int .i64 k ∧ Below w.heap.size w wr) (fun i _ => n - (intOf i).toNat)
  case atStart => exact ⟨0, Nat.zero_le _, rfl, Below.refl _ _⟩
  case round =>
    obtain ⟨k, hk, rfl, hb⟩ := hrel
    by_cases hlt : k < n
    · obtain ⟨b, off, rfl, hbl, hcell⟩ := HA.out.2 (by omega)
      obtain ⟨b', off', rfl, hbl', hcell'⟩ := HB.out.2 (by omega)
      have hkz : k < zs.length := by have := HA.out.1; simp at this; omega
      have hc := (hb.cell hbl).trans (hcell k (.int .i64 zs[k]) (by simp [hkz]))
      have hc' := (hb.cell hbl').trans (hcell' k (.int .i64 zs[k]) (by simp [hkz]))
      clear hcell hcell'
      go_wp2
      go_quiet (fail)
      go_wp2
      go_roundw
      case rel => exact ⟨k + 1, by omega, by go_num, drewN_below hb _⟩
      case measure => simp [intOf]; omega
    · have hkn : k = n := by omega
      subst hkn
      go_wp2
      go_ret
      exact ⟨rfl, hb⟩

theorem clear_no (x y n : Int) (w : World) (h : n < 2 ∨ 128 < n) :
    Calls Try.prog 25 #[.agg #[.int .u64 x, .int .u64 y], .int .i64 n] w fun e w' => e = .returned (.tuple #[.agg #[.int .u64 0, .int .u64 0], .int .i64 4]) ∧ Below w.heap.size w w' := by
  go_enter Try.func25, Try.ntmps25
  go_wp2_with (go_at_call 39; refine (isNumber_no _ _ h).mono ?_; rintro e w' ⟨rfl, rfl⟩)
  simp [bodyPost, results, Try.results25, go_sem]
  exact ((Below.refl _ _).alloc (Nat.le_refl _) _).alloc (by simp <;> omega) _
theorem clear_lo (x y n : Int) (w : World) (h2 : 2 ≤ n) (h3 : n ≤ 64) :
    Calls Try.prog 25 #[.agg #[.int .u64 x, .int .u64 y], .int .i64 n] w fun e w' => e = .returned (.tuple #[.agg #[.int .u64 (cutX n x), .int .u64 (cutY n y)], .int .i64 0]) ∧ Below w.heap.size w w' := by
  go_enter Try.func25, Try.ntmps25
  go_wp2_with (first | (go_at_call 39; refine (isNumber_yes _ _ h2 (by omega)).mono ?_; rintro e w' ⟨rfl, rfl⟩) | (go_at_call 37; refine (place_lo _ _ h2 h3).mono ?_; rintro e w' ⟨rfl, q, rfl⟩) | (go_at_call 32; refine (clean_any _ _ _).mono ?_; rintro e w1 ⟨rfl, hb⟩; have B0 := ((((Blk.new w 26 #[.int .u64 x, .int .u64 y]).alloc (.cells #[.int .u64 0, .int .u64 0] 26)).drewN q).call hb); have B1 := (((Blk.new (w.alloc (.cells #[.int .u64 x, .int .u64 y] 26)) 26 #[.int .u64 0, .int .u64 0]).drewN q).call hb); have c0 := B0.c 0 _ rfl; have c1 := B0.c 1 _ rfl; have d0 := B1.c 0 _ rfl; have d1 := B1.c 1 _ rfl; have f0 := B0.frozen; have f1 := B1.frozen; simp only [World.size_alloc] at d0 d1 f1))
  simp [bodyPost, results, Try.results25, go_sem, d0, d1]
  refine ⟨⟨by simp [cutX, h3]; rfl, by simp [cutY, h3]⟩, ?_⟩
  repeat' (first | refine Below.setCell ?_ (by simp <;> omega) _ | refine Below.alloc ?_ (by simp <;> omega) _ | refine drewN_below ?_ _ | exact Below.refl _ _ | refine Below.trans ?_ (hb.mono (by simp <;> omega)))
theorem clear_hi (x y n : Int) (w : World) (h2 : 64 < n) (h3 : n ≤ 128) :
    Calls Try.prog 25 #[.agg #[.int .u64 x, .int .u64 y], .int .i64 n] w fun e w' => e = .returned (.tuple #[.agg #[.int .u64 (cutX n x), .int .u64 (cutY n y)], .int .i64 0]) ∧ Below w.heap.size w w' := by
  have iss := isSome_setCell
  go_enter Try.func25, Try.ntmps25
  go_wp2_with (first | (go_at_call 39; refine (isNumber_yes _ _ (by omega) (by omega)).mono ?_; rintro e w' ⟨rfl, rfl⟩) | (go_at_call 37; refine (place_hi _ _ h2 h3).mono ?_; rintro e w' ⟨rfl, q, rfl⟩) | (go_at_call 32; refine (clean_any _ _ _).mono ?_; rintro e w1 ⟨rfl, hb⟩; have B0 := ((((Blk.new w 26 #[.int .u64 x, .int .u64 y]).alloc (.cells #[.int .u64 0, .int .u64 0] 26)).drewN q).call hb); have B1 := (((Blk.new (w.alloc (.cells #[.int .u64 x, .int .u64 y] 26)) 26 #[.int .u64 0, .int .u64 0]).drewN q).call hb); have c0 := B0.c 0 _ rfl; have c1 := B0.c 1 _ rfl; have d0 := B1.c 0 _ rfl; have d1 := B1.c 1 _ rfl; have f0 := B0.frozen; have f1 := B1.frozen; simp only [World.size_alloc] at d0 d1 f1))
  simp [bodyPost, results, Try.results25, go_sem, d0, d1]
  have h4 : ¬ n ≤ 64 := by omega
  refine ⟨⟨by simp [cutX, h4], by simp [cutY, h4]; rfl⟩, ?_⟩
  repeat' (first | refine Below.setCell ?_ (by simp <;> omega) _ | refine Below.alloc ?_ (by simp <;> omega) _ | refine drewN_below ?_ _ | exact Below.refl _ _ | refine Below.trans ?_ (hb.mono (by simp <;> omega)))
end Go.Proofs.Ytfolabkgeeeobaa
