/-
  Walk over the law BitmapSets: it returns true at all bitmaps and all numbers. No condition but that the words are 64-bit words.
-/
import Derived.Test.YtfolabkgeeeobaaWk
import Derived.Test.YtfolabkgeeeobaaWd
namespace Go.Proofs.Ytfolabkgeeeobaa
open Go.RowKit

def Ret3 (K : Nat) (x y n a b e : Int) : Prop := ∀ w, Calls Try.prog K #[.agg #[.int .u64 x, .int .u64 y], .int .i64 n] w fun en w' => en = .returned (.tuple #[.agg #[.int .u64 a, .int .u64 b], .int .i64 e]) ∧ Below w.heap.size w w'
def RetB (K : Nat) (x y n : Int) (h : Bool) : Prop := ∀ w, Calls Try.prog K #[.agg #[.int .u64 x, .int .u64 y], .int .i64 n] w fun en w' => en = .returned (.bool h) ∧ Below w.heap.size w w'

set_option maxRecDepth 100000 in
set_option maxHeartbeats 4000000 in
theorem law_sets_of (x y n s0 s1 se k0 k1 ke : Int) (h : Bool) (w : World) (hx : Wd x) (hy : Wd y)
    (S : Ret3 23 x y n s0 s1 se) (S' : Ret3 24 x y n s0 s1 se) (K : Ret3 25 x y n k0 k1 ke) (K' : Ret3 26 x y n k0 k1 ke) (H : RetB 27 x y n h) (H' : RetB 28 x y n h) :
    Calls Try.prog 7 #[.agg #[.int .u64 x, .int .u64 y], .int .i64 n] w fun e w' => e = .returned (.bool true) ∧ Below w.heap.size w w' := by
  have hS := Lib.hid S; have hS' := Lib.hid S'; have hK := Lib.hid K; have hK' := Lib.hid K'; have hH := Lib.hid H; have hH' := Lib.hid H'
  clear S S' K K' H H'
  have iss := isSome_setCell
  have heq := eq26
  go_enter Try.func7, Try.ntmps7
  go_wp2_with (first
    | (go_at_call 23; refine (hS.out _).mono ?_; rintro e w1 ⟨rfl, hb1⟩
       have A1 := ((Blk.new w 26 #[.int .u64 x, .int .u64 y]).call hb1).alloc (.cells #[.int .u64 s0, .int .u64 s1] 26)
       have B1 := Blk.new w1 26 #[.int .u64 s0, .int .u64 s1]
       have a0 := A1.c0; have a1 := A1.c1)
    | (go_at_call 24; refine (hS'.out _).mono ?_; rintro e w2 ⟨rfl, hb2⟩
       have A2 := A1.call hb2; have B2 := B1.call hb2
       have c0 := A2.c0; have c1 := A2.c1; have b0 := B2.c0; have b1 := B2.c1; have bf := B2.frozen; have l2 := A2.lt; have l3 := B2.lt)
    | (go_at_call 25; refine (hK.out _).mono ?_; rintro e w3 ⟨rfl, hb3⟩
       have z1 : w.heap.size < w1.heap.size := by have := hb1.size; simp at this; omega
       have z2 : w1.heap.size < w2.heap.size := by have := hb2.size; simp at this; omega
       have A3 := (A2.alloc (.cells #[.int .u64 s0, .int .u64 s1] 26)).call hb3
       have B3 := (B2.alloc (.cells #[.int .u64 s0, .int .u64 s1] 26)).call hb3
       have D3 := (Blk.new w2 26 #[.int .u64 s0, .int .u64 s1]).call hb3
       have n1 : w.heap.size ≠ w1.heap.size := by omega
       have n2 : w.heap.size ≠ w2.heap.size := by omega
       have n3 : w1.heap.size ≠ w2.heap.size := by omega
       have n1' : w1.heap.size ≠ w.heap.size := by omega
       have n2' : w2.heap.size ≠ w.heap.size := by omega
       have n3' : w2.heap.size ≠ w1.heap.size := by omega
       have e0 := A3.c0; have e1 := A3.c1; have g0 := B3.c0; have g1 := B3.c1; have gf := B3.frozen; have gl := B3.lt)
    | (go_at_call 26; refine (hK'.out _).mono ?_; rintro e w4 ⟨rfl, hb4⟩
       have A4 := ((A3.far n1 (p := ⟨w1.heap.size, 0, none⟩) (.int .u64 k0)).far n1 (p := ⟨w1.heap.size, 1, none⟩) (.int .u64 k1)).call hb4
       have B4 := ((B3.s0 (.int .u64 k0)).s1 (.int .u64 k1)).call hb4
       have D4 := ((D3.far n3' (p := ⟨w1.heap.size, 0, none⟩) (.int .u64 k0)).far n3' (p := ⟨w1.heap.size, 1, none⟩) (.int .u64 k1)).call hb4
       have d0 := D4.c0; have d1 := D4.c1; have df := D4.frozen; have dl := D4.lt))
  have A5 := (A4.far n2 (p := ⟨w2.heap.size, 0, none⟩) (.int .u64 k0)).far n2 (p := ⟨w2.heap.size, 1, none⟩) (.int .u64 k1)
  have B5 := (B4.far n3 (p := ⟨w2.heap.size, 0, none⟩) (.int .u64 k0)).far n3 (p := ⟨w2.heap.size, 1, none⟩) (.int .u64 k1)
  have D5 := (D4.s0 (.int .u64 k0)).s1 (.int .u64 k1)
  have b1 : Below w.heap.size w w1 := ((Below.refl _ _).alloc (Nat.le_refl _) _).trans (hb1.mono (by simp))
  have b2 : Below w.heap.size w w2 := (b1.alloc (by omega) _).trans (hb2.mono (by simp; omega))
  have b3 : Below w.heap.size w w3 := (b2.alloc (by omega) _).trans (hb3.mono (by simp; omega))
  have b4 : Below w.heap.size w w4 := ((b3.setCell (by simp; omega) _).setCell (by simp; omega) _).trans (hb4.mono (by simp; omega))
  have b5 := (b4.setCell (p := ⟨w2.heap.size, 0, none⟩) (by simp; omega) (.int .u64 k0)).setCell (p := ⟨w2.heap.size, 1, none⟩) (by simp; omega) (.int .u64 k1)
  rename_i K hKK
  generalize (w4.setCell ⟨w2.heap.size, 0, none⟩ (.int .u64 k0)).setCell ⟨w2.heap.size, 1, none⟩ (.int .u64 k1) = w5 at A5 B5 D5 b5 ⊢
  have hrc : ∀ w, Calls Try.prog 30 #[.agg #[.int .u64 x, .int .u64 y]] w fun e w' => e = .returned (.int .i64 (cntB x y : Nat)) ∧ Below w.heap.size w w' := by
    intro w
    rw [← count_eq hx hy]
    exact rcount_any x y w
  clear iss a0 a1 c0 c1 b0 b1 bf l2 l3 e0 e1 g0 g1 gf gl d0 d1 df dl
  have q0 := fun n : Cls (UpC w5) => (A5.call n.2).c0
  have q1 := fun n : Cls (UpC w5) => (A5.call n.2).c1
  have q2 := fun n : Cls (UpC w5) => (B5.call n.2).c0
  have q3 := fun n : Cls (UpC w5) => (B5.call n.2).c1
  have q4 := fun n : Cls (UpC w5) => (D5.call n.2).c0
  have q5 := fun n : Cls (UpC w5) => (D5.call n.2).c1
  refine wp_region_reg (UpC w5) 35 rfl (by kernel_rfl) ?_
  have T : UpC w5 w5.drew := (Below.refl _ _).drew
  haveI : Nonempty (Cls (UpC w5)) := ⟨⟨_, T⟩⟩
  refine reg_seg (f := 22) (by kernel_rfl) [0, 1, 2, 3, 4, 5, 6, 7, 8, 9, 10, 12, 13] _ _ _ T (by kernel_rfl) ?_
  simp only [pickL, List.filterMap_cons, List.filterMap_nil, List.getElem?_toArray, List.getElem?_cons_zero, List.getElem?_cons_succ]
  show wpQuiet _ _ _ _ [_, _, _, _, _, _, _, _, _, _, _, _, _] _
  repeat (go_big_quiet_step (fail))
  refine wpQuiet_nil ?_
  refine reg_call 11 _ (by kernel_rfl) rfl rfl ?_
  go_simp
  refine (hH.out _).mono ?_
  rintro e v1 ⟨rfl, hb⟩
  have T := T.call hb
  refine ⟨T, ?_⟩
  refine reg_call 14 _ (by kernel_rfl) rfl rfl ?_
  go_simp
  refine (hH'.out _).mono ?_
  rintro e v2 ⟨rfl, hb⟩
  have T := T.call hb
  refine ⟨T, ?_⟩
  refine reg_seg (f := 15) (by kernel_rfl) [15, 16, 17, 18, 20] _ _ _ T (by kernel_rfl) ?_
  simp only [pickL, List.filterMap_cons, List.filterMap_nil, List.getElem?_toArray, List.getElem?_cons_zero, List.getElem?_cons_succ]
  show wpQuiet _ _ _ _ [_, _, _, _, _] _
  repeat (go_big_quiet_step (fail))
  refine wpQuiet_nil ?_
  refine reg_call 19 _ (by kernel_rfl) rfl rfl ?_
  go_simp
  refine (list_any x y _ hx hy).mono ?_
  rintro e v3 ⟨r1, rfl, o1, hb⟩
  have T := T.call hb
  refine ⟨T, ?_⟩
  refine reg_call 21 _ (by kernel_rfl) rfl rfl ?_
  go_simp
  refine (rlist_any x y _).mono ?_
  rintro e v4 ⟨r2, rfl, o2, hb⟩
  have o1 := own_call o1 hb
  obtain ⟨L1, c1, rfl⟩ := own_slice o1
  obtain ⟨L2, c2, rfl⟩ := own_slice o2
  have T := T.call hb
  refine ⟨T, ?_⟩
  refine reg_call 22 _ (by kernel_rfl) rfl rfl ?_
  go_simp
  refine (numbers_any _ _ _ _ _ (lst (hasR x y) 127) _ (by have := lst_len (hasR x y) 127; omega) (RD.of_own o1) (RD.of_own o2)).mono ?_
  rintro e v5 ⟨rfl, hb⟩
  have T := T.call hb
  refine ⟨T, ?_⟩
  refine reg_seg (f := 8) (by kernel_rfl) [23, 24, 25, 27] _ _ _ T (by kernel_rfl) ?_
  simp only [pickL, List.filterMap_cons, List.filterMap_nil, List.getElem?_toArray, List.getElem?_cons_zero, List.getElem?_cons_succ]
  show wpQuiet _ _ _ _ [_, _, _, _] _
  repeat (go_big_quiet_step (fail))
  refine wpQuiet_nil ?_
  refine reg_call 26 _ (by kernel_rfl) rfl rfl ?_
  go_simp
  refine (count_any x y _ hx hy).mono ?_
  rintro e v6 ⟨rfl, hb⟩
  have T := T.call hb
  refine ⟨T, ?_⟩
  refine reg_call 28 _ (by kernel_rfl) rfl rfl ?_
  go_simp
  refine (hrc _).mono ?_
  rintro e v7 ⟨rfl, hb⟩
  have T := T.call hb
  refine ⟨T, ?_⟩
  refine reg_seg (f := 3) (by kernel_rfl) [29, 30, 31] _ _ _ T (by kernel_rfl) ?_
  simp only [pickL, List.filterMap_cons, List.filterMap_nil, List.getElem?_toArray, List.getElem?_cons_zero, List.getElem?_cons_succ]
  show wpQuiet _ _ _ _ [_, _, _] _
  repeat (go_big_quiet_step (fail))
  refine wpQuiet_nil ?_
  refine reg_call 32 _ (by kernel_rfl) rfl rfl ?_
  go_simp
  refine (awake_any _).mono ?_
  rintro e v8 ⟨rfl, hb⟩
  have T := T.call hb
  refine ⟨T, ?_⟩
  refine reg_seg (f := 0) (by kernel_rfl) [33, 34] _ _ _ T (by kernel_rfl) ?_
  simp only [pickL, List.filterMap_cons, List.filterMap_nil, List.getElem?_toArray, List.getElem?_cons_zero, List.getElem?_cons_succ]
  show wpQuiet _ _ _ _ [_, _] _
  repeat (go_big_quiet_step (fail))
  refine wpQuiet_nil ?_
  refine reg_end (by kernel_rfl) ?_
  refine hKK _ _ ?_
  go_wp2
  go_ret
  exact ⟨rfl, b5.trans (Below.mono T b5.size)⟩
end Go.Proofs.Ytfolabkgeeeobaa
