import Derived.Test.YtfolabkgeeeobaaWe
import Derived.Test.YtfolabkgeeeobaaPlan
namespace Go.Proofs.Ytfolabkgeeeobaa
open Go.RowKit

/-- Two boxed bitmaps and a result variable lie in the blocks from w's end on. -/
structure Three (w : World) (a b c d : Int) (x : World) : Prop where
  b0 : Blk x w.heap.size 26 #[.int .u64 a, .int .u64 b]
  b1 : Blk x (w.heap.size + 1) 26 #[.int .u64 c, .int .u64 d]
  b2 : Blk x (w.heap.size + 1 + 1) 26 #[.int .u64 0, .int .u64 0]
  low : Below w.heap.size w x
theorem Three.keep {w0 : World} {a b c d : Int} {w x : World} (h : Three w0 a b c d w) (hb : Below w.heap.size w x) : Three w0 a b c d x :=
  ⟨h.b0.call hb, h.b1.call hb, h.b2.call hb, h.low.trans (hb.mono h.low.size)⟩
theorem Three.grown {w0 : World} {a b c d : Int} {w x : World} {v : Value} {base n : Nat} {xs : List Value} (h : Three w0 a b c d w) (hown : w.ownsRow base 3 1 v n xs) (hg : w.grownBy x v.ownBlock) (hb : w0.heap.size ≤ base) : Three w0 a b c d x :=
  ⟨h.b0.grown hg (Ne.symm (own_blk_ne hown h.b0 (by decide))), h.b1.grown hg (Ne.symm (own_blk_ne hown h.b1 (by decide))), h.b2.grown hg (Ne.symm (own_blk_ne hown h.b2 (by decide))), below_grown h.low hown hg hb h.low.size⟩
theorem Three.alloc {w0 : World} {a b c d : Int} {w : World} (h : Three w0 a b c d w) (o : Obj) : Three w0 a b c d (w.alloc o) :=
  ⟨h.b0.alloc o, h.b1.alloc o, h.b2.alloc o, h.low.alloc h.low.size o⟩
/-- A new variable of a bitmap's type, zero, behind w0's three. -/
def NB (w0 : World) (x : World) (g : Nat) : Prop := Blk x g 26 #[.int .u64 0, .int .u64 0] ∧ w0.heap.size + 1 + 1 < g
theorem NB.new {w0 : World} {a b c d : Int} {x : World} (h : Three w0 a b c d x) : NB w0 (x.alloc (.cells #[.int .u64 0, .int .u64 0] 26)) x.heap.size := ⟨Blk.new x 26 _, h.b2.lt⟩
theorem NB.keep {w0 : World} {w x : World} {g : Nat} (hb : Below w.heap.size w x) (h : NB w0 w g) : NB w0 x g := ⟨Blk.call h.1 hb, h.2⟩
theorem NB.grown {w0 : World} {w x : World} {g : Nat} {v : Value} {base n : Nat} {xs : List Value} (hown : w.ownsRow base 3 1 v n xs) (hg : w.grownBy x v.ownBlock) (h : NB w0 w g) : NB w0 x g :=
  ⟨Blk.grown h.1 hg (Ne.symm (own_blk_ne hown h.1 (by decide))), h.2⟩
theorem NB.cells {w0 : World} {x : World} {g : Nat} (h : NB w0 x g) : x.cell? ⟨g, 0, none⟩ = some (.int .u64 0) ∧ x.cell? ⟨g, 1, none⟩ = some (.int .u64 0) ∧ (∀ i, x.frozen? ⟨g, i, none⟩ = false) ∧ g < x.heap.size ∧ w0.heap.size + 1 + 1 < g := ⟨Blk.c0 h.1, Blk.c1 h.1, Blk.frozen h.1, Blk.lt h.1, h.2⟩
theorem Three.far {w0 : World} {a b c d : Int} {x : World} {g i : Nat} (h : Three w0 a b c d x) (hg : w0.heap.size + 1 + 1 < g) (u : Value) : Three w0 a b c d (x.setCell ⟨g, i, none⟩ u) :=
  ⟨h.b0.far (by simp <;> omega) u, h.b1.far (by simp <;> omega) u, h.b2.far (by simp <;> omega) u, h.low.setCell (by simp <;> omega) u⟩
theorem size_alloc_le (x : World) (o : Obj) : x.heap.size ≤ (x.alloc o).heap.size := by simp
theorem Three.start (w : World) (a b c d : Int) : Three w a b c d (((w.alloc (.cells #[.int .u64 a, .int .u64 b] 26)).alloc (.cells #[.int .u64 c, .int .u64 d] 26)).alloc (.cells #[.int .u64 0, .int .u64 0] 26)).drew := by
  have h1 := (Blk.new (w.alloc (.cells #[.int .u64 a, .int .u64 b] 26)) 26 #[.int .u64 c, .int .u64 d]).alloc (.cells #[.int .u64 0, .int .u64 0] 26)
  have h2 := Blk.new ((w.alloc (.cells #[.int .u64 a, .int .u64 b] 26)).alloc (.cells #[.int .u64 c, .int .u64 d] 26)) 26 #[.int .u64 0, .int .u64 0]
  simp at h1 h2
  exact ⟨((Blk.new w 26 _).alloc _).alloc _, h1, h2, Below.drew ((((Below.refl _ _).alloc (Nat.le_refl _) _).alloc (by simp) _).alloc (by simp <;> omega) _)⟩


structure In (w0 : World) (a b c d : Int) (x : World) : Prop where
  t : Three w0 a b c d x

set_option maxRecDepth 100000 in
set_option maxHeartbeats 1600000 in
theorem runion_any (a b c d : Int) (w : World) (x y : Int) (hU : ofR (lst (hasR a b) 127 ++ lst (hasR c d) 127) 0 0 = some (x, y)) :
    Calls Try.prog 13 #[.agg #[.int .u64 a, .int .u64 b], .agg #[.int .u64 c, .int .u64 d]] w fun e w' => e = .returned (.agg #[.int .u64 x, .int .u64 y]) ∧ Below w.heap.size w w' := by
  have HU : Hid (ofRes (ofR (lst (hasR a b) 127 ++ lst (hasR c d) 127) 0 0) = .tuple #[.agg #[.int .u64 x, .int .u64 y], .int .i64 0]) := Lib.hid (by rw [hU]; rfl)
  clear hU
  have iss := isSome_setCell
  have ll := fun x y => lst_len (hasR x y) 127
  go_enter Try.func13, Try.ntmps13
  go_wp2_with fail
  rename_i Q' K hK
  have fin : ∀ (x1 : World) (g : Nat) (v9 v11 v12 : Value), Three w a b c d x1 → Blk x1 g 26 #[.int .u64 x, .int .u64 y] →
      K { tmps := #[.agg #[.int .u64 a, .int .u64 b], .agg #[.int .u64 c, .int .u64 d], .pointer (some ⟨w.heap.size, 0, none⟩), .pointer (some ⟨w.heap.size + 1, 0, none⟩), .pointer (some ⟨w.heap.size + 1 + 1, 0, none⟩), .pointer (some ⟨g, 0, none⟩), .int .i64 0, .tuple #[.agg #[.int .u64 x, .int .u64 y], .int .i64 0], .agg #[.int .u64 a, .int .u64 b], v9, .agg #[.int .u64 c, .int .u64 d], v11, v12, .tuple #[.agg #[.int .u64 x, .int .u64 y], .int .i64 0], .agg #[.int .u64 x, .int .u64 y], .int .i64 0, undef], defers := [] } x1 := by
    intro x1 g v9 v11 v12 T N
    refine hK _ _ ?_
    have c4 := N.c0
    have c5 := N.c1
    have r0 := T.b2.c0
    have r1 := T.b2.c1
    have rf := T.b2.frozen
    go_wp2_with fail
    refine post_cell1 (w.heap.size + 1 + 1) (.int .u64 x) (.int .u64 y) rfl (by simp) (fun w => by kernel_rfl) (fun w => by kernel_rfl) ((T.b2.s0 _).s1 _) rfl ⟨rfl, (T.low.setCell (by simp <;> omega) _).setCell (by simp <;> omega) _⟩
  have T := Three.start w a b c d
  refine wp_region_reg (In w a b c d) 12 rfl (by kernel_rfl) ?_
  generalize (((w.alloc (.cells #[.int .u64 a, .int .u64 b] 26)).alloc (.cells #[.int .u64 c, .int .u64 d] 26)).alloc (.cells #[.int .u64 0, .int .u64 0] 26)).drew = x1 at T ⊢
  have q0 := fun n : Cls (In w a b c d) => n.2.t.b0.c0
  have q1 := fun n : Cls (In w a b c d) => n.2.t.b0.c1
  have q2 := fun n : Cls (In w a b c d) => n.2.t.b1.c0
  have q3 := fun n : Cls (In w a b c d) => n.2.t.b1.c1
  haveI : Nonempty (Cls (In w a b c d)) := ⟨⟨_, ⟨T⟩⟩⟩
  refine reg_seg (f := 10) (by kernel_rfl) [0, 2] _ _ _ ⟨T⟩ (by kernel_rfl) ?_
  simp only [pickL, List.filterMap_cons, List.filterMap_nil, List.getElem?_toArray, List.getElem?_cons_zero, List.getElem?_cons_succ]
  show wpQuiet _ _ _ _ [_, _] _
  repeat (go_big_quiet_step (fail))
  refine wpQuiet_nil ?_
  refine reg_branch 1 9 _ _ (by kernel_rfl) rfl rfl rfl rfl ?_ ?_
  · have z1 := T.low.size
    go_simp
    refine (rlist_any _ _ _).mono ?_
    rintro e x1 ⟨v1, rfl, o1, hb⟩
    have T := T.keep hb
    have z2 := hb.size
    refine ⟨⟨T⟩, ?_⟩
    refine reg_branch 3 9 _ _ (by kernel_rfl) rfl rfl rfl rfl ?_ ?_
    · go_simp
      refine (rlist_any _ _ _).mono ?_
      rintro e x1 ⟨v2, rfl, o2, hb⟩
      have T := T.keep hb
      have o1 := own_call o1 hb
      have z4 := hb.size
      refine ⟨⟨T⟩, ?_⟩
      refine reg_branch 4 9 _ _ (by kernel_rfl) rfl rfl rfl rfl ?_ ?_
      · refine wp_concat intE (.tmp 9) (.tmp 11) rfl rfl rfl o1 o2 (ints_oneCell _ _) (by unfold maxLen; have := ll a b; have := ll c d; simp; omega) (by have := ll a b; have := ll c d; simp; omega) (by omega) ?_
        intro v3 x1 o3 hg _
        obtain ⟨A3, c3, rfl⟩ := own_slice o3
        rw [← List.map_append] at o3
        have T := T.grown o1 hg (by omega)
        refine ⟨⟨T⟩, ?_⟩
        refine reg_branch 5 9 _ _ (by kernel_rfl) rfl rfl rfl rfl ?_ ?_
        · go_simp
          refine (rof_any _ _ _ (lst (hasR a b) 127 ++ lst (hasR c d) 127) _ (by simp) (by have := ll a b; have := ll c d; omega) (RD.of_own o3)).mono ?_
          rintro e x1 ⟨rfl, hb⟩
          rw [HU.out]
          have T := T.keep hb
          refine ⟨⟨T⟩, ?_⟩
          refine reg_seg (f := 3) (by kernel_rfl) [6, 7, 8] _ _ _ ⟨T⟩ (by kernel_rfl) ?_
          simp only [pickL, List.filterMap_cons, List.filterMap_nil, List.getElem?_toArray, List.getElem?_cons_zero, List.getElem?_cons_succ]
          show wpQuiet _ _ _ _ [_, _, _] _
          repeat (go_big_quiet_step (fail))
          refine wpQuiet_nil ?_
          refine reg_noisy 9 _ (by kernel_rfl) rfl rfl ?_
          go_simp
          have N := NB.new T
          have T := T.alloc (.cells #[.int .u64 0, .int .u64 0] 26)
          have zz := size_alloc_le x1 (.cells #[.int .u64 0, .int .u64 0] 26)
          refine ⟨⟨T⟩, ?_⟩
          generalize x1.heap.size = g at N ⊢
          generalize x1.alloc (.cells #[.int .u64 0, .int .u64 0] 26) = x1 at T N zz  ⊢
          refine reg_noisy 10 _ (by kernel_rfl) rfl rfl ?_
          obtain ⟨c4, c5, fr, hlt, hgt⟩ := NB.cells N
          go_simp
          have T := (T.far hgt (.int .u64 x) (i := 0)).far hgt (.int .u64 y) (i := 1)
          have N := (N.1.s0 (.int .u64 x)).s1 (.int .u64 y)
          refine ⟨⟨T⟩, ?_⟩
          generalize World.setCell _ _ _ = x1 at T N ⊢
          refine reg_noisy 11 _ (by kernel_rfl) rfl rfl ?_
          go_simp
          refine ⟨⟨T⟩, ?_⟩
          refine reg_end (by kernel_rfl) ?_
          exact fin _ _ _ _ _ T N
        · go_simp
          have N := NB.new T
          have T := T.alloc (.cells #[.int .u64 0, .int .u64 0] 26)
          have zz := size_alloc_le x1 (.cells #[.int .u64 0, .int .u64 0] 26)
          have o3 := o3.alloc (.cells #[.int .u64 0, .int .u64 0] 26)
          refine ⟨⟨T⟩, ?_⟩
          generalize x1.heap.size = g at N ⊢
          generalize x1.alloc (.cells #[.int .u64 0, .int .u64 0] 26) = x1 at T N zz o3 ⊢
          refine reg_noisy 5 _ (by kernel_rfl) rfl rfl ?_
          go_simp
          refine (rof_any _ _ _ (lst (hasR a b) 127 ++ lst (hasR c d) 127) _ (by simp) (by have := ll a b; have := ll c d; omega) (RD.of_own o3)).mono ?_
          rintro e x1 ⟨rfl, hb⟩
          rw [HU.out]
          have T := T.keep hb
          have N := NB.keep hb N
          refine ⟨⟨T⟩, ?_⟩
          refine reg_seg (f := 2) (by kernel_rfl) [6, 7, 8] _ _ _ ⟨T⟩ (by kernel_rfl) ?_
          simp only [pickL, List.filterMap_cons, List.filterMap_nil, List.getElem?_toArray, List.getElem?_cons_zero, List.getElem?_cons_succ]
          show wpQuiet _ _ _ _ [_, _, _] _
          repeat (go_big_quiet_step (fail))
          refine wpQuiet_nil ?_
          refine reg_noisy 10 _ (by kernel_rfl) rfl rfl ?_
          obtain ⟨c4, c5, fr, hlt, hgt⟩ := NB.cells N
          go_simp
          have T := (T.far hgt (.int .u64 x) (i := 0)).far hgt (.int .u64 y) (i := 1)
          have N := (N.1.s0 (.int .u64 x)).s1 (.int .u64 y)
          refine ⟨⟨T⟩, ?_⟩
          generalize World.setCell _ _ _ = x1 at T N ⊢
          refine reg_noisy 11 _ (by kernel_rfl) rfl rfl ?_
          go_simp
          refine ⟨⟨T⟩, ?_⟩
          refine reg_end (by kernel_rfl) ?_
          exact fin _ _ _ _ _ T N
      · go_simp
        have N := NB.new T
        have T := T.alloc (.cells #[.int .u64 0, .int .u64 0] 26)
        have zz := size_alloc_le x1 (.cells #[.int .u64 0, .int .u64 0] 26)
        have o1 := o1.alloc (.cells #[.int .u64 0, .int .u64 0] 26)
        have o2 := o2.alloc (.cells #[.int .u64 0, .int .u64 0] 26)
        refine ⟨⟨T⟩, ?_⟩
        generalize x1.heap.size = g at N ⊢
        generalize x1.alloc (.cells #[.int .u64 0, .int .u64 0] 26) = x1 at T N zz o1 o2 ⊢
        refine reg_noisy 4 _ (by kernel_rfl) rfl rfl ?_
        refine wp_concat intE (.tmp 9) (.tmp 11) rfl rfl rfl o1 o2 (ints_oneCell _ _) (by unfold maxLen; have := ll a b; have := ll c d; simp; omega) (by have := ll a b; have := ll c d; simp; omega) (by omega) ?_
        intro v3 x1 o3 hg _
        obtain ⟨A3, c3, rfl⟩ := own_slice o3
        rw [← List.map_append] at o3
        have N := NB.grown o1 hg N
        have T := T.grown o1 hg (by omega)
        refine ⟨⟨T⟩, ?_⟩
        refine reg_noisy 5 _ (by kernel_rfl) rfl rfl ?_
        go_simp
        refine (rof_any _ _ _ (lst (hasR a b) 127 ++ lst (hasR c d) 127) _ (by simp) (by have := ll a b; have := ll c d; omega) (RD.of_own o3)).mono ?_
        rintro e x1 ⟨rfl, hb⟩
        rw [HU.out]
        have T := T.keep hb
        have N := NB.keep hb N
        refine ⟨⟨T⟩, ?_⟩
        refine reg_seg (f := 2) (by kernel_rfl) [6, 7, 8] _ _ _ ⟨T⟩ (by kernel_rfl) ?_
        simp only [pickL, List.filterMap_cons, List.filterMap_nil, List.getElem?_toArray, List.getElem?_cons_zero, List.getElem?_cons_succ]
        show wpQuiet _ _ _ _ [_, _, _] _
        repeat (go_big_quiet_step (fail))
        refine wpQuiet_nil ?_
        refine reg_noisy 10 _ (by kernel_rfl) rfl rfl ?_
        obtain ⟨c4, c5, fr, hlt, hgt⟩ := NB.cells N
        go_simp
        have T := (T.far hgt (.int .u64 x) (i := 0)).far hgt (.int .u64 y) (i := 1)
        have N := (N.1.s0 (.int .u64 x)).s1 (.int .u64 y)
        refine ⟨⟨T⟩, ?_⟩
        generalize World.setCell _ _ _ = x1 at T N ⊢
        refine reg_noisy 11 _ (by kernel_rfl) rfl rfl ?_
        go_simp
        refine ⟨⟨T⟩, ?_⟩
        refine reg_end (by kernel_rfl) ?_
        exact fin _ _ _ _ _ T N
    · go_simp
      have N := NB.new T
      have T := T.alloc (.cells #[.int .u64 0, .int .u64 0] 26)
      have zz := size_alloc_le x1 (.cells #[.int .u64 0, .int .u64 0] 26)
      have o1 := o1.alloc (.cells #[.int .u64 0, .int .u64 0] 26)
      refine ⟨⟨T⟩, ?_⟩
      generalize x1.heap.size = g at N ⊢
      generalize x1.alloc (.cells #[.int .u64 0, .int .u64 0] 26) = x1 at T N zz o1 ⊢
      refine reg_noisy 3 _ (by kernel_rfl) rfl rfl ?_
      go_simp
      refine (rlist_any _ _ _).mono ?_
      rintro e x1 ⟨v2, rfl, o2, hb⟩
      have T := T.keep hb
      have o1 := own_call o1 hb
      have N := NB.keep hb N
      have z4 := hb.size
      refine ⟨⟨T⟩, ?_⟩
      refine reg_noisy 4 _ (by kernel_rfl) rfl rfl ?_
      refine wp_concat intE (.tmp 9) (.tmp 11) rfl rfl rfl o1 o2 (ints_oneCell _ _) (by unfold maxLen; have := ll a b; have := ll c d; simp; omega) (by have := ll a b; have := ll c d; simp; omega) (by omega) ?_
      intro v3 x1 o3 hg _
      obtain ⟨A3, c3, rfl⟩ := own_slice o3
      rw [← List.map_append] at o3
      have N := NB.grown o1 hg N
      have T := T.grown o1 hg (by omega)
      refine ⟨⟨T⟩, ?_⟩
      refine reg_noisy 5 _ (by kernel_rfl) rfl rfl ?_
      go_simp
      refine (rof_any _ _ _ (lst (hasR a b) 127 ++ lst (hasR c d) 127) _ (by simp) (by have := ll a b; have := ll c d; omega) (RD.of_own o3)).mono ?_
      rintro e x1 ⟨rfl, hb⟩
      rw [HU.out]
      have T := T.keep hb
      have N := NB.keep hb N
      refine ⟨⟨T⟩, ?_⟩
      refine reg_seg (f := 2) (by kernel_rfl) [6, 7, 8] _ _ _ ⟨T⟩ (by kernel_rfl) ?_
      simp only [pickL, List.filterMap_cons, List.filterMap_nil, List.getElem?_toArray, List.getElem?_cons_zero, List.getElem?_cons_succ]
      show wpQuiet _ _ _ _ [_, _, _] _
      repeat (go_big_quiet_step (fail))
      refine wpQuiet_nil ?_
      refine reg_noisy 10 _ (by kernel_rfl) rfl rfl ?_
      obtain ⟨c4, c5, fr, hlt, hgt⟩ := NB.cells N
      go_simp
      have T := (T.far hgt (.int .u64 x) (i := 0)).far hgt (.int .u64 y) (i := 1)
      have N := (N.1.s0 (.int .u64 x)).s1 (.int .u64 y)
      refine ⟨⟨T⟩, ?_⟩
      generalize World.setCell _ _ _ = x1 at T N ⊢
      refine reg_noisy 11 _ (by kernel_rfl) rfl rfl ?_
      go_simp
      refine ⟨⟨T⟩, ?_⟩
      refine reg_end (by kernel_rfl) ?_
      exact fin _ _ _ _ _ T N
  · go_simp
    have N := NB.new T
    have T := T.alloc (.cells #[.int .u64 0, .int .u64 0] 26)
    have zz := size_alloc_le x1 (.cells #[.int .u64 0, .int .u64 0] 26)
    refine ⟨⟨T⟩, ?_⟩
    generalize x1.heap.size = g at N ⊢
    generalize x1.alloc (.cells #[.int .u64 0, .int .u64 0] 26) = x1 at T N zz  ⊢
    refine reg_noisy 1 _ (by kernel_rfl) rfl rfl ?_
    have z1 := T.low.size
    go_simp
    refine (rlist_any _ _ _).mono ?_
    rintro e x1 ⟨v1, rfl, o1, hb⟩
    have T := T.keep hb
    have N := NB.keep hb N
    have z2 := hb.size
    refine ⟨⟨T⟩, ?_⟩
    refine reg_noisy 3 _ (by kernel_rfl) rfl rfl ?_
    go_simp
    refine (rlist_any _ _ _).mono ?_
    rintro e x1 ⟨v2, rfl, o2, hb⟩
    have T := T.keep hb
    have N := NB.keep hb N
    have o1 := own_call o1 hb
    have z4 := hb.size
    refine ⟨⟨T⟩, ?_⟩
    refine reg_noisy 4 _ (by kernel_rfl) rfl rfl ?_
    refine wp_concat intE (.tmp 9) (.tmp 11) rfl rfl rfl o1 o2 (ints_oneCell _ _) (by unfold maxLen; have := ll a b; have := ll c d; simp; omega) (by have := ll a b; have := ll c d; simp; omega) (by omega) ?_
    intro v3 x1 o3 hg _
    obtain ⟨A3, c3, rfl⟩ := own_slice o3
    rw [← List.map_append] at o3
    have N := NB.grown o1 hg N
    have T := T.grown o1 hg (by omega)
    refine ⟨⟨T⟩, ?_⟩
    refine reg_noisy 5 _ (by kernel_rfl) rfl rfl ?_
    go_simp
    refine (rof_any _ _ _ (lst (hasR a b) 127 ++ lst (hasR c d) 127) _ (by simp) (by have := ll a b; have := ll c d; omega) (RD.of_own o3)).mono ?_
    rintro e x1 ⟨rfl, hb⟩
    rw [HU.out]
    have T := T.keep hb
    have N := NB.keep hb N
    refine ⟨⟨T⟩, ?_⟩
    refine reg_seg (f := 2) (by kernel_rfl) [6, 7, 8] _ _ _ ⟨T⟩ (by kernel_rfl) ?_
    simp only [pickL, List.filterMap_cons, List.filterMap_nil, List.getElem?_toArray, List.getElem?_cons_zero, List.getElem?_cons_succ]
    show wpQuiet _ _ _ _ [_, _, _] _
    repeat (go_big_quiet_step (fail))
    refine wpQuiet_nil ?_
    refine reg_noisy 10 _ (by kernel_rfl) rfl rfl ?_
    obtain ⟨c4, c5, fr, hlt, hgt⟩ := NB.cells N
    go_simp
    have T := (T.far hgt (.int .u64 x) (i := 0)).far hgt (.int .u64 y) (i := 1)
    have N := (N.1.s0 (.int .u64 x)).s1 (.int .u64 y)
    refine ⟨⟨T⟩, ?_⟩
    generalize World.setCell _ _ _ = x1 at T N ⊢
    refine reg_noisy 11 _ (by kernel_rfl) rfl rfl ?_
    go_simp
    refine ⟨⟨T⟩, ?_⟩
    refine reg_end (by kernel_rfl) ?_
    exact fin _ _ _ _ _ T N
  
end Go.Proofs.Ytfolabkgeeeobaa
