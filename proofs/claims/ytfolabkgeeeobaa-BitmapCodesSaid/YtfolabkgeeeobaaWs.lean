/-
  Walk over the law BitmapCodes: it returns true at all bitmaps and all strings. No condition but that the words are 64-bit words and that the string's length is a Go int.
-/
import Derived.Test.YtfolabkgeeeobaaWr
import Derived.Test.YtfolabkgeeeobaaWd
namespace Go.Proofs.Ytfolabkgeeeobaa
open Go.RowKit

set_option maxRecDepth 100000 in
set_option maxHeartbeats 1600000 in
theorem law_codes (x y : Int) (s : ByteArray) (w : World) (hx : Wd x) (hy : Wd y) (hm : s.size ≤ 9223372036854775807) :
    Calls Try.prog 5 #[.agg #[.int .u64 x, .int .u64 y], .string s] w fun e w' => e = .returned (.bool true) ∧ Below w.heap.size w w' := by
  have iss := isSome_setCell
  have heq := eq26
  by_cases h : 300 < s.size
  · have h' : 300 < (s.size : Int) := by omega
    go_enter Try.func5, Try.ntmps5
    go_wp2_with (go_at_call 9; refine (awake_any _).mono ?_; rintro e w1 ⟨rfl, hb1⟩)
    go_ret
    exact ⟨rfl, ((Below.refl _ _).alloc (Nat.le_refl _) _).trans (hb1.mono (by simp))⟩
  · obtain ⟨a, b, n, er, hD⟩ := dec_is s
    have HD := Lib.hid hD
    clear hD
    have h' : s.size ≤ 300 := by omega
    clear h
    go_enter Try.func5, Try.ntmps5
    go_wp2_with (first
      | (go_at_call 16; refine (dec_any s _ (by omega) a b n er HD.out).mono ?_; rintro e w1 ⟨rfl, hb1⟩
         have A1 := ((Blk.new w 26 #[.int .u64 x, .int .u64 y]).call hb1).alloc (.cells #[.int .u64 a, .int .u64 b] 26)
         have B1 := Blk.new w1 26 #[.int .u64 a, .int .u64 b])
      | (go_at_call 17; refine (rdec_any s _ (by omega) a b n er HD.out).mono ?_; rintro e w2 ⟨rfl, hb2⟩
         have A2 := (A1.call hb2).alloc (.cells #[.int .u64 a, .int .u64 b] 26)
         have B2 := (B1.call hb2).alloc (.cells #[.int .u64 a, .int .u64 b] 26)
         have D2 := Blk.new w2 26 #[.int .u64 a, .int .u64 b]))
    have b1 : Below w.heap.size w w1 := ((Below.refl _ _).alloc (Nat.le_refl _) _).trans (hb1.mono (by simp))
    have b2 : Below w.heap.size w w2 := (b1.alloc b1.size _).trans (hb2.mono (by simp; have := b1.size; omega))
    have b5 := b2.alloc b2.size (.cells #[.int .u64 a, .int .u64 b] 26)
    rename_i K hKK
    generalize w2.heap.size = g2 at D2 ⊢
    generalize w2.alloc (.cells #[.int .u64 a, .int .u64 b] 26) = w5 at A2 B2 D2 b5 ⊢
    have q0 := fun n : Cls (UpC w5) => (A2.call n.2).c0
    have q1 := fun n : Cls (UpC w5) => (A2.call n.2).c1
    have q2 := fun n : Cls (UpC w5) => (B2.call n.2).c0
    have q3 := fun n : Cls (UpC w5) => (B2.call n.2).c1
    have q4 := fun n : Cls (UpC w5) => (D2.call n.2).c0
    have q5 := fun n : Cls (UpC w5) => (D2.call n.2).c1
    refine wp_region_reg (UpC w5) 24 rfl (by kernel_rfl) ?_
    have T : UpC w5 w5.drew := (Below.refl _ _).drew
    haveI : Nonempty (Cls (UpC w5)) := ⟨⟨_, T⟩⟩
    refine reg_seg (f := 22) (by kernel_rfl) [0, 2] _ _ _ T (by kernel_rfl) ?_
    simp only [pickL, List.filterMap_cons, List.filterMap_nil, List.getElem?_toArray, List.getElem?_cons_zero, List.getElem?_cons_succ]
    show wpQuiet _ _ _ _ [_, _] _
    repeat (go_big_quiet_step (fail))
    refine wpQuiet_nil ?_
    refine reg_call 1 _ (by kernel_rfl) rfl rfl ?_
    go_simp
    refine (encode_any x y _ hx hy).mono ?_
    rintro e v1 ⟨rfl, hb⟩
    have T := T.call hb
    refine ⟨T, ?_⟩
    refine reg_call 3 _ (by kernel_rfl) rfl rfl ?_
    go_simp
    refine (rencode_any x y _ hx hy).mono ?_
    rintro e v2 ⟨rfl, hb⟩
    have T := T.call hb
    refine ⟨T, ?_⟩
    refine reg_seg (f := 3) (by kernel_rfl) [4, 5, 6, 7, 8, 9, 10, 11, 12, 13, 14, 15, 16, 17, 18, 19, 20] _ _ _ T (by kernel_rfl) ?_
    simp only [pickL, List.filterMap_cons, List.filterMap_nil, List.getElem?_toArray, List.getElem?_cons_zero, List.getElem?_cons_succ]
    show wpQuiet _ _ _ _ [_, _, _, _, _, _, _, _, _, _, _, _, _, _, _, _, _] _
    repeat (go_big_quiet_step (fail))
    refine wpQuiet_nil ?_
    refine reg_call 21 _ (by kernel_rfl) rfl rfl ?_
    go_simp
    refine (awake_any _).mono ?_
    rintro e v3 ⟨rfl, hb⟩
    have T := T.call hb
    refine ⟨T, ?_⟩
    refine reg_seg (f := 0) (by kernel_rfl) [22, 23] _ _ _ T (by kernel_rfl) ?_
    simp only [pickL, List.filterMap_cons, List.filterMap_nil, List.getElem?_toArray, List.getElem?_cons_zero, List.getElem?_cons_succ]
    show wpQuiet _ _ _ _ [_, _] _
    repeat (go_big_quiet_step (fail))
    refine wpQuiet_nil ?_
    refine reg_end (by kernel_rfl) ?_
    refine hKK _ _ ?_
    go_wp2
    go_ret
    exact ⟨rfl, b5.trans (Below.mono T b5.size)⟩
end Go.Proofs.Ytfolabkgeeeobaa
