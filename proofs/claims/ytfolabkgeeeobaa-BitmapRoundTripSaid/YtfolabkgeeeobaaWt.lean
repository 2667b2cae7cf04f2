/-
  Walk over the law BitmapRoundTrip: it returns true at all bitmaps and all strings. No condition but that the words are 64-bit words and that the string's length is a Go int.
-/
import Derived.Test.YtfolabkgeeeobaaPf
import Derived.Test.YtfolabkgeeeobaaWd
namespace Go.Proofs.Ytfolabkgeeeobaa
open Go.RowKit

set_option maxRecDepth 100000 in
set_option maxHeartbeats 1600000 in
theorem law_trip (x y : Int) (s : ByteArray) (w : World) (hx : Wd x) (hy : Wd y) (hm : s.size ≤ 9223372036854775807) :
    Calls Try.prog 8 #[.agg #[.int .u64 x, .int .u64 y], .string s] w fun e w' => e = .returned (.bool true) ∧ Below w.heap.size w w' := by
  have iss := isSome_setCell
  have heq := eq26
  by_cases h : 300 < s.size
  · have h' : 300 < (s.size : Int) := by omega
    go_enter Try.func8, Try.ntmps8
    go_wp2_with (go_at_call 9; refine (awake_any _).mono ?_; rintro e w1 ⟨rfl, hb1⟩)
    go_ret
    exact ⟨rfl, ((Below.refl _ _).alloc (Nat.le_refl _) _).trans (hb1.mono (by simp))⟩
  · have h' : s.size ≤ 300 := by omega
    clear h
    obtain ⟨t, ht⟩ : ∃ t : ByteArray, t = ⟨(encL x y).toArray⟩ := ⟨_, rfl⟩
    have hts : t.size = (encL x y).length := by rw [ht]; rfl
    have htl : t.size = 16 ∨ t.size = 32 := by rw [hts, encL_len]; split <;> omega
    have HD : Hid (Dec (t ++ s) (clr x) y (t.size : Nat) 0) := Lib.hid (by rw [hts, ht]; exact dec_enc hx hy s)
    have HT := Lib.hid ht
    have hsz : (t ++ s).size ≤ 1000 := by rw [ByteArray.size_append]; omega
    have LC : Hid (lst (hasR (clr x) y) 127 = lst (hasR x y) 127) := Lib.hid (list_clr hx)
    obtain ⟨a, b, n, er, hD2⟩ := dec_is s
    have HD2 := Lib.hid hD2
    obtain ⟨c, hc⟩ : ∃ c, c = clr x := ⟨_, rfl⟩
    rw [← hc] at HD LC
    have hcw : Wd c := by rw [hc]; exact clr_wd hx
    obtain ⟨hc0, hc1⟩ : 0 ≤ c ∧ c < 9223372036854775808 := by rw [hc]; exact clr_lt hx
    clear ht hts hD2 hc
    go_enter Try.func8, Try.ntmps8
    go_wp2_with (first
      | (go_at_call 18; refine (encode_any x y _ hx hy).mono ?_; rintro e w1 ⟨rfl, hb1⟩; rw [← HT.out])
      | (go_at_call 16; refine (dec_any (t ++ s) _ (by omega) c y (t.size : Nat) 0 HD.out).mono ?_; rintro e w2 ⟨rfl, hb2⟩))
    have A1 := (Blk.new w 26 #[.int .u64 x, .int .u64 y]).call hb1
    have A2 := (A1.call hb2).alloc (.cells #[.int .u64 c, .int .u64 y] 26)
    have D2 := Blk.new w2 26 #[.int .u64 c, .int .u64 y]
    have b1 : Below w.heap.size w w1 := ((Below.refl _ _).alloc (Nat.le_refl _) _).trans (hb1.mono (by simp))
    have b2 : Below w.heap.size w w2 := b1.trans (hb2.mono b1.size)
    have b5 := b2.alloc b2.size (.cells #[.int .u64 c, .int .u64 y] 26)
    rename_i K1 hK1 K hKK
    generalize w2.heap.size = g2 at D2 ⊢
    generalize w2.alloc (.cells #[.int .u64 c, .int .u64 y] 26) = w5 at A2 D2 b5 ⊢
    have q0 := fun n : Cls (UpC w5) => (A2.call n.2).c0
    have q1 := fun n : Cls (UpC w5) => (A2.call n.2).c1
    have q4 := fun n : Cls (UpC w5) => (D2.call n.2).c0
    have q5 := fun n : Cls (UpC w5) => (D2.call n.2).c1
    refine wp_region_reg (UpC w5) 26 rfl (by kernel_rfl) ?_
    have T : UpC w5 w5.drew := (Below.refl _ _).drew
    haveI : Nonempty (Cls (UpC w5)) := ⟨⟨_, T⟩⟩
    refine reg_seg (f := 21) (by kernel_rfl) [0, 1, 2, 3, 4] _ _ _ T (by kernel_rfl) ?_
    simp only [pickL, List.filterMap_cons, List.filterMap_nil, List.getElem?_toArray, List.getElem?_cons_zero, List.getElem?_cons_succ]
    show wpQuiet _ _ _ _ [_, _, _, _, _] _
    repeat (go_big_quiet_step (fail))
    refine wpQuiet_nil ?_
    refine reg_call 5 _ (by kernel_rfl) rfl rfl ?_
    go_simp
    refine reg_seg (f := 15) (by kernel_rfl) [6, 7, 8, 9, 11] _ _ _ T (by kernel_rfl) ?_
    simp only [pickL, List.filterMap_cons, List.filterMap_nil, List.getElem?_toArray, List.getElem?_cons_zero, List.getElem?_cons_succ]
    show wpQuiet _ _ _ _ [_, _, _, _, _] _
    repeat (go_big_quiet_step (fail))
    refine wpQuiet_nil ?_
    refine reg_call 10 _ (by kernel_rfl) rfl rfl ?_
    go_simp
    refine (list_any c y _ hcw hy).mono ?_
    rintro e v1 ⟨r1, rfl, o1, hb⟩
    rw [LC.out] at o1
    have T := T.call hb
    refine ⟨T, ?_⟩
    refine reg_call 12 _ (by kernel_rfl) rfl rfl ?_
    go_simp
    refine (list_any x y _ hx hy).mono ?_
    rintro e v2 ⟨r2, rfl, o2, hb⟩
    have o1 := own_call o1 hb
    obtain ⟨L1, c1, rfl⟩ := own_slice o1
    obtain ⟨L2, c2, rfl⟩ := own_slice o2
    have T := T.call hb
    refine ⟨T, ?_⟩
    refine reg_call 13 _ (by kernel_rfl) rfl rfl ?_
    go_simp
    refine (numbers_any _ _ _ _ _ (lst (hasR x y) 127) _ (by have := lst_len (hasR x y) 127; omega) (RD.of_own o1) (RD.of_own o2)).mono ?_
    rintro e v3 ⟨rfl, hb⟩
    have T := T.call hb
    refine ⟨T, ?_⟩
    refine reg_seg (f := 8) (by kernel_rfl) [14, 15, 16, 17] _ _ _ T (by kernel_rfl) ?_
    simp only [pickL, List.filterMap_cons, List.filterMap_nil, List.getElem?_toArray, List.getElem?_cons_zero, List.getElem?_cons_succ]
    show wpQuiet _ _ _ _ [_, _, _, _] _
    repeat (go_big_quiet_step (fail))
    refine wpQuiet_nil ?_
    refine reg_call 18 _ (by kernel_rfl) rfl rfl ?_
    go_simp
    refine (has_out c y 1 _ (by omega)).mono ?_
    rintro e v4 ⟨rfl, hb⟩
    have T := T.call hb
    refine ⟨T, ?_⟩
    refine reg_seg (f := 0) (by kernel_rfl) [19, 20, 21, 22, 23, 24, 25] _ _ _ T (by kernel_rfl) ?_
    simp only [pickL, List.filterMap_cons, List.filterMap_nil, List.getElem?_toArray, List.getElem?_cons_zero, List.getElem?_cons_succ]
    show wpQuiet _ _ _ _ [_, _, _, _, _, _, _] _
    repeat (go_big_quiet_step (fail))
    refine wpQuiet_nil ?_
    refine reg_end (by kernel_rfl) ?_
    refine hKK _ _ ?_
    have b6 : Below w.heap.size w v4 := b5.trans (Below.mono T b5.size)
    clear T hb o1 o2 q0 q1 q4 q5 A2 D2 LC HD
    by_cases her : er = 0
    · subst her
      obtain ⟨ha, hb0, hn1, hn2, hE⟩ := enc_dec HD2.out
      have HE := Lib.hid hE
      clear hE
      go_wp2_with (go_at_call 16; refine (dec_any s _ (by omega) a b n 0 HD2.out).mono ?_; rintro e w6 ⟨rfl, hb6⟩)
      have b7 : Below w.heap.size w w6 := b6.trans (hb6.mono b6.size)
      have b8 := b7.alloc b7.size (.cells #[.int .u64 a, .int .u64 b] 26)
      have D3 := Blk.new w6 26 #[.int .u64 a, .int .u64 b]
      rename_i K2 hK2
      generalize w6.heap.size = g3 at D3 ⊢
      generalize w6.alloc (.cells #[.int .u64 a, .int .u64 b] 26) = w8 at D3 b8 ⊢
      have q4 := fun n : Cls (UpC w8) => (D3.call n.2).c0
      have q5 := fun n : Cls (UpC w8) => (D3.call n.2).c1
      refine wp_region_reg (UpC w8) 20 rfl (by kernel_rfl) ?_
      have T : UpC w8 w8.drew := (Below.refl _ _).drew
      haveI : Nonempty (Cls (UpC w8)) := ⟨⟨_, T⟩⟩
      refine reg_seg (f := 15) (by kernel_rfl) [0, 1, 2, 3, 4] _ _ _ T (by kernel_rfl) ?_
      simp only [pickL, List.filterMap_cons, List.filterMap_nil, List.getElem?_toArray, List.getElem?_cons_zero, List.getElem?_cons_succ]
      show wpQuiet _ _ _ _ [_, _, _, _, _] _
      repeat (go_big_quiet_step (fail))
      refine wpQuiet_nil ?_
      refine reg_call 5 _ (by kernel_rfl) rfl rfl ?_
      go_simp
      refine reg_seg (f := 7) (by kernel_rfl) [6, 7, 8, 9, 11, 12, 13] _ _ _ T (by kernel_rfl) ?_
      simp only [pickL, List.filterMap_cons, List.filterMap_nil, List.getElem?_toArray, List.getElem?_cons_zero, List.getElem?_cons_succ]
      show wpQuiet _ _ _ _ [_, _, _, _, _, _, _] _
      repeat (go_big_quiet_step (fail))
      refine wpQuiet_nil ?_
      refine reg_call 10 _ (by kernel_rfl) rfl rfl ?_
      go_simp
      refine (encode_any a b _ ha hb0).mono ?_
      rintro e v5 ⟨rfl, hb⟩
      rw [HE.out]
      have T := T.call hb
      refine ⟨T, ?_⟩
      refine reg_seg (f := 3) (by kernel_rfl) [14, 15, 16] _ _ _ T (by kernel_rfl) ?_
      simp only [pickL, List.filterMap_cons, List.filterMap_nil, List.getElem?_toArray, List.getElem?_cons_zero, List.getElem?_cons_succ]
      show wpQuiet _ _ _ _ [_, _, _] _
      repeat (go_big_quiet_step (fail))
      refine wpQuiet_nil ?_
      refine reg_call 17 _ (by kernel_rfl) rfl rfl ?_
      go_simp
      refine (awake_any _).mono ?_
      rintro e v3 ⟨rfl, hb⟩
      have T := T.call hb
      refine ⟨T, ?_⟩
      refine reg_seg (f := 0) (by kernel_rfl) [18, 19] _ _ _ T (by kernel_rfl) ?_
      simp only [pickL, List.filterMap_cons, List.filterMap_nil, List.getElem?_toArray, List.getElem?_cons_zero, List.getElem?_cons_succ]
      show wpQuiet _ _ _ _ [_, _] _
      repeat (go_big_quiet_step (fail))
      refine wpQuiet_nil ?_
      refine reg_end (by kernel_rfl) ?_
      refine hK2 _ _ ?_
      go_wp2
      go_ret
      exact ⟨rfl, b8.trans (Below.mono T b8.size)⟩
    · obtain ⟨rfl, rfl, rfl⟩ := dec_not HD2.out her
      have he1 : (er != 0) = true := by simpa using her
      go_wp2_with (first | (go_at_call 16; refine (dec_any s _ (by omega) 0 0 0 er HD2.out).mono ?_; rintro e w6 ⟨rfl, hb6⟩) | (go_at_call 9; refine (awake_any _).mono ?_; rintro e w7 ⟨rfl, hb7⟩))
      go_ret
      have b7 : Below w.heap.size w w6 := b6.trans (hb6.mono b6.size)
      exact ⟨rfl, (b7.alloc b7.size _).trans (hb7.mono (by simp; have := b7.size; omega))⟩
end Go.Proofs.Ytfolabkgeeeobaa
