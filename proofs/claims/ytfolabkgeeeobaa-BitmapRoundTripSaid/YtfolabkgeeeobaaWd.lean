/-
  Walks over awake and the law BitmapOf: it returns true at every slice of numbers. No condition but that a slice's length is a Go int.
-/
import Derived.Test.YtfolabkgeeeobaaWc
namespace Go.Proofs.Ytfolabkgeeeobaa
open Go.RowKit
theorem aw1 : ofRes (ofL [65, 2] 0 0) = .tuple #[.agg #[.int .u64 4611686018427387904, .int .u64 9223372036854775808], .int .i64 0] := by kernel_rfl
theorem aw2 : encL 4611686018427387904 9223372036854775808 = [99, 48, 48, 48, 48, 48, 48, 48, 48, 48, 48, 48, 48, 48, 48, 48, 56, 48, 48, 48, 48, 48, 48, 48, 48, 48, 48, 48, 48, 48, 48, 48] := by kernel_rfl
theorem aw3 : hasB 4611686018427387904 9223372036854775808 65 = true := by kernel_rfl
theorem aw4 : hasB 4611686018427387904 9223372036854775808 3 = false := by kernel_rfl

theorem awake_any (w : World) : Calls Try.prog 9 #[] w fun e w' => e = .returned (.bool true) ∧ Below w.heap.size w w' := by
  have iss := isSome_setCell
  have heq := eq26
  go_enter Try.func9, Try.ntmps9
  go_wp2_with fail
  refine (of_any _ 2 _ [65, 2] _ rfl (by decide) ?_).mono ?_
  · exact RD.of_blk (Blk.new w 3 #[.int .i64 65, .int .i64 2])
  · rintro e w1 ⟨rfl, hb1⟩
    rw [aw1]
    have B0 := hb1.size
    simp at B0
    have a2 := aw2
    have a3 := aw3
    have a4 := aw4
    go_wp2_with (first | (go_at_call 18; refine (encode_any _ _ _ ⟨by decide, by decide⟩ ⟨by decide, by decide⟩).mono ?_; rintro e w2 ⟨rfl, hb2⟩; have B1 := (Blk.new w1 26 #[.int .u64 4611686018427387904, .int .u64 9223372036854775808]).call hb2; have c0 := B1.c0; have c1 := B1.c1) | (go_at_call 27; refine (has_in _ _ _ _ (by decide) (by decide)).mono ?_; rintro e w3 ⟨rfl, hb3⟩; rw [aw3]; have B2 := B1.call hb3; have d0 := B2.c0; have d1 := B2.c1) | (go_at_call 27; refine (has_in _ _ _ _ (by decide) (by decide)).mono ?_; rintro e w4 ⟨rfl, hb4⟩; rw [aw4]))
    go_ret
    refine ⟨rfl, ?_⟩
    have s1 := hb1.size
    have s2 := hb2.size
    have s3 := hb3.size
    simp at s1 s2
    exact (((((((Below.refl _ _).alloc (Nat.le_refl _) _).trans (hb1.mono (by simp))).alloc (by omega) _).trans (hb2.mono (by simp; omega))).trans (hb3.mono (by omega))).trans (hb4.mono (by omega)))

theorem law_of (A : Option Addr) (n c : Nat) (zs : List Int) (w : World) (hz : zs.length = n) (hm : n ≤ 9223372036854775807) (hr : RD w A n (zs.map (Value.int .i64))) :
    Calls Try.prog 3 #[.slice A n c] w fun e w' => e = .returned (.bool true) ∧ Below w.heap.size w w' := by
  have iss := isSome_setCell
  have heq := eq26
  by_cases h : 300 < n
  · go_enter Try.func3, Try.ntmps3
    go_wp2_with (go_at_call 9; refine (awake_any _).mono ?_; rintro e w1 ⟨rfl, hb1⟩)
    go_ret
    exact ⟨rfl, hb1⟩
  · have hs := of_same zs 0 0 (by decide) (by decide)
    obtain ⟨x, y, er, hx⟩ : ∃ x y er, ofRes (ofL zs 0 0) = .tuple #[.agg #[.int .u64 x, .int .u64 y], .int .i64 er] := by
      cases ofL zs 0 0 with
      | none => exact ⟨_, _, _, rfl⟩
      | some p => exact ⟨_, _, _, rfl⟩
    have hy : ofRes (ofR zs 0 0) = .tuple #[.agg #[.int .u64 x, .int .u64 y], .int .i64 er] := by rw [← hs]; exact hx
    have HR := Lib.hid hr
    have HX := Lib.hid hx
    have HY := Lib.hid hy
    clear hr hx hy hs
    go_enter Try.func3, Try.ntmps3
    go_wp2_with (first | (go_at_call 10; refine (of_any _ _ _ zs _ hz hm HR.out).mono ?_; rintro e w1 ⟨rfl, hb1⟩; rw [HX.out]) | (go_at_call 11; refine (rof_any _ _ _ zs _ hz hm ((HR.out.keep hb1).keep ((Below.refl _ _).alloc (Nat.le_refl _) _))).mono ?_; rintro e w2 ⟨rfl, hb2⟩; rw [HY.out]; have B0 := (Blk.new w1 26 #[.int .u64 x, .int .u64 y]).call hb2; have c0 := B0.c0; have c1 := B0.c1; have z0 := B0.lt) | (go_at_call 9; refine (awake_any _).mono ?_; rintro e w3 ⟨rfl, hb3⟩))
    go_ret
    refine ⟨rfl, ?_⟩
    have s1 := hb1.size
    have s2 := hb2.size
    have s3 := hb3.size
    simp at s2 s3
    exact ((((hb1.alloc (by omega) _).trans (hb2.mono (by simp; omega))).alloc (by omega) _).trans (hb3.mono (by simp; omega)))
end Go.Proofs.Ytfolabkgeeeobaa
