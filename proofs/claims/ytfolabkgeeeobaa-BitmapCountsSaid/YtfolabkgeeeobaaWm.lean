/-
  Walk over the law BitmapCounts, over its callees' contracts. No condition of its own.
-/
import Derived.Test.YtfolabkgeeeobaaPe
import Derived.Test.YtfolabkgeeeobaaWd
namespace Go.Proofs.Ytfolabkgeeeobaa
open Go.RowKit

def Ret2 (K : Nat) (x y z t a b : Int) : Prop := ∀ w, Calls Try.prog K #[.agg #[.int .u64 x, .int .u64 y], .agg #[.int .u64 z, .int .u64 t]] w fun en w' => en = .returned (.agg #[.int .u64 a, .int .u64 b]) ∧ Below w.heap.size w w'
def RetN (K : Nat) (x y : Int) (n : Int) : Prop := ∀ w, Calls Try.prog K #[.agg #[.int .u64 x, .int .u64 y]] w fun en w' => en = .returned (.int .i64 n) ∧ Below w.heap.size w w'
def RetL (K : Nat) (x y : Int) (L : List Int) : Prop := ∀ w, Calls Try.prog K #[.agg #[.int .u64 x, .int .u64 y]] w (RetRow L w)

set_option maxRecDepth 100000 in
set_option maxHeartbeats 4000000 in
theorem law_counts_of (a b c d e0 e1 u0 u1 m0 m1 z0 z1 cu ca cm : Int) (L : List Int) (w : World) (hLen : L.length ≤ 127)
    (O : ofRes (ofL L 0 0) = .tuple #[.agg #[.int .u64 e0, .int .u64 e1], .int .i64 0]) (hl : RetL 20 a b L) (hl' : RetL 20 e0 e1 L)
    (U : Ret2 12 a b c d u0 u1) (U' : Ret2 12 c d a b u0 u1) (M : Ret2 14 c d a b m0 m1) (Z : Ret2 14 a b a b z0 z1)
    (CU : RetN 22 u0 u1 cu) (CA : RetN 22 a b ca) (CM : RetN 22 m0 m1 cm) (CZ : RetN 22 z0 z1 0) (hadd : wrap64 (ca + cm) = cu) :
    Calls Try.prog 6 #[.agg #[.int .u64 a, .int .u64 b], .agg #[.int .u64 c, .int .u64 d]] w fun e w' => e = .returned (.bool true) ∧ Below w.heap.size w w' := by
  have hO := Lib.hid O; have hL := Lib.hid hl; have hL' := Lib.hid hl'; have hU := Lib.hid U; have hU' := Lib.hid U'; have hM := Lib.hid M; have hZ := Lib.hid Z
  have hCU := Lib.hid CU; have hCA := Lib.hid CA; have hCM := Lib.hid CM; have hCZ := Lib.hid CZ
  clear O hl hl' U U' M Z CU CA CM CZ
  have iss := isSome_setCell
  have heq := eq26
  go_enter Try.func6, Try.ntmps6
  go_wp2_with (first
    | (go_at_call 20; refine (hL.out _).mono ?_; rintro e w1 ⟨r0, rfl, o0, hb1⟩
       obtain ⟨L0, k0, rfl⟩ := own_slice o0
       have A1 := ((Blk.new w 26 #[.int .u64 a, .int .u64 b]).alloc (.cells #[.int .u64 c, .int .u64 d] 26)).call hb1
       have B1 := (Blk.new (w.alloc (.cells #[.int .u64 a, .int .u64 b] 26)) 26 #[.int .u64 c, .int .u64 d]).call hb1
       simp only [World.size_alloc] at B1)
    | (go_at_call 10; refine (of_any _ _ _ L _ rfl (by omega) (RD.of_own o0)).mono ?_; rintro e w2 ⟨rfl, hb2⟩; rw [hO.out]))
  have A2 := (A1.call hb2).alloc (.cells #[.int .u64 e0, .int .u64 e1] 26)
  have B2 := (B1.call hb2).alloc (.cells #[.int .u64 e0, .int .u64 e1] 26)
  have D2 := Blk.new w2 26 #[.int .u64 e0, .int .u64 e1]
  have b1 : Below w.heap.size w w1 := (((Below.refl _ _).alloc (Nat.le_refl _) _).alloc (by simp) _).trans (hb1.mono (by simp; omega))
  have b2 : Below w.heap.size w w2 := b1.trans (hb2.mono b1.size)
  have b5 := b2.alloc b2.size (.cells #[.int .u64 e0, .int .u64 e1] 26)
  rename_i K hKK
  generalize w2.heap.size = g2 at D2 ⊢
  generalize w2.alloc (.cells #[.int .u64 e0, .int .u64 e1] 26) = w5 at A2 B2 D2 b5 ⊢
  have q0 := fun n : Cls (UpC w5) => (A2.call n.2).c0
  have q1 := fun n : Cls (UpC w5) => (A2.call n.2).c1
  have q2 := fun n : Cls (UpC w5) => (B2.call n.2).c0
  have q3 := fun n : Cls (UpC w5) => (B2.call n.2).c1
  have q4 := fun n : Cls (UpC w5) => (D2.call n.2).c0
  have q5 := fun n : Cls (UpC w5) => (D2.call n.2).c1
  refine wp_region_reg (UpC w5) 43 rfl (by kernel_rfl) ?_
  have T : UpC w5 w5.drew := (Below.refl _ _).drew
  haveI : Nonempty (Cls (UpC w5)) := ⟨⟨_, T⟩⟩
  refine reg_seg (f := 38) (by kernel_rfl) [0, 1, 2, 3, 5] _ _ _ T (by kernel_rfl) ?_
  simp only [pickL, List.filterMap_cons, List.filterMap_nil, List.getElem?_toArray, List.getElem?_cons_zero, List.getElem?_cons_succ]
  show wpQuiet _ _ _ _ [_, _, _, _, _] _
  repeat (go_big_quiet_step (fail))
  refine wpQuiet_nil ?_
  refine reg_call 4 _ (by kernel_rfl) rfl rfl ?_
  go_simp
  refine (hL'.out _).mono ?_
  rintro e v1 ⟨r1, rfl, o1, hb⟩
  have T := T.call hb
  refine ⟨T, ?_⟩
  refine reg_call 6 _ (by kernel_rfl) rfl rfl ?_
  go_simp
  refine (hL.out _).mono ?_
  rintro e v2 ⟨r2, rfl, o2, hb⟩
  have o1 := own_call o1 hb
  obtain ⟨L1, k1, rfl⟩ := own_slice o1
  obtain ⟨L2, k2, rfl⟩ := own_slice o2
  have T := T.call hb
  refine ⟨T, ?_⟩
  refine reg_call 7 _ (by kernel_rfl) rfl rfl ?_
  go_simp
  refine (numbers_any _ _ _ _ _ L _ (by omega) (RD.of_own o1) (RD.of_own o2)).mono ?_
  rintro e v3 ⟨rfl, hb⟩
  have T := T.call hb
  refine ⟨T, ?_⟩
  refine reg_seg (f := 28) (by kernel_rfl) [8, 9, 10, 11, 14, 16, 17] _ _ _ T (by kernel_rfl) ?_
  simp only [pickL, List.filterMap_cons, List.filterMap_nil, List.getElem?_toArray, List.getElem?_cons_zero, List.getElem?_cons_succ]
  show wpQuiet _ _ _ _ [_, _, _, _, _, _, _] _
  repeat (go_big_quiet_step (fail))
  refine wpQuiet_nil ?_
  refine reg_call 12 _ (by kernel_rfl) rfl rfl ?_
  go_simp
  refine (hU.out _).mono ?_
  rintro e v4 ⟨rfl, hb⟩
  have T := T.call hb
  refine ⟨T, ?_⟩
  refine reg_call 13 _ (by kernel_rfl) rfl rfl ?_
  go_simp
  refine (hCU.out _).mono ?_
  rintro e v5 ⟨rfl, hb⟩
  have T := T.call hb
  refine ⟨T, ?_⟩
  refine reg_call 15 _ (by kernel_rfl) rfl rfl ?_
  go_simp
  refine (hCA.out _).mono ?_
  rintro e v6 ⟨rfl, hb⟩
  have T := T.call hb
  refine ⟨T, ?_⟩
  refine reg_call 18 _ (by kernel_rfl) rfl rfl ?_
  go_simp
  refine (hM.out _).mono ?_
  rintro e v7 ⟨rfl, hb⟩
  have T := T.call hb
  refine ⟨T, ?_⟩
  refine reg_call 19 _ (by kernel_rfl) rfl rfl ?_
  go_simp
  refine (hCM.out _).mono ?_
  rintro e v8 ⟨rfl, hb⟩
  have T := T.call hb
  refine ⟨T, ?_⟩
  refine reg_seg (f := 17) (by kernel_rfl) [20, 21, 22, 23, 24, 25] _ _ _ T (by kernel_rfl) ?_
  simp only [pickL, List.filterMap_cons, List.filterMap_nil, List.getElem?_toArray, List.getElem?_cons_zero, List.getElem?_cons_succ]
  show wpQuiet _ _ _ _ [_, _, _, _, _, _] _
  repeat (go_big_quiet_step (fail))
  refine wpQuiet_nil ?_
  refine reg_call 26 _ (by kernel_rfl) rfl rfl ?_
  go_simp
  refine (hZ.out _).mono ?_
  rintro e v9 ⟨rfl, hb⟩
  have T := T.call hb
  refine ⟨T, ?_⟩
  refine reg_call 27 _ (by kernel_rfl) rfl rfl ?_
  go_simp
  refine (hCZ.out _).mono ?_
  rintro e v10 ⟨rfl, hb⟩
  have T := T.call hb
  refine ⟨T, ?_⟩
  refine reg_seg (f := 8) (by kernel_rfl) [28, 29, 30, 31, 32, 34, 35] _ _ _ T (by kernel_rfl) ?_
  simp only [pickL, List.filterMap_cons, List.filterMap_nil, List.getElem?_toArray, List.getElem?_cons_zero, List.getElem?_cons_succ]
  show wpQuiet _ _ _ _ [_, _, _, _, _, _, _] _
  repeat (go_big_quiet_step (fail))
  refine wpQuiet_nil ?_
  refine reg_call 33 _ (by kernel_rfl) rfl rfl ?_
  go_simp
  refine (hU.out _).mono ?_
  rintro e v11 ⟨rfl, hb⟩
  have T := T.call hb
  refine ⟨T, ?_⟩
  refine reg_call 36 _ (by kernel_rfl) rfl rfl ?_
  go_simp
  refine (hU'.out _).mono ?_
  rintro e v12 ⟨rfl, hb⟩
  have T := T.call hb
  refine ⟨T, ?_⟩
  refine reg_seg (f := 3) (by kernel_rfl) [37, 38, 39] _ _ _ T (by kernel_rfl) ?_
  simp only [pickL, List.filterMap_cons, List.filterMap_nil, List.getElem?_toArray, List.getElem?_cons_zero, List.getElem?_cons_succ]
  show wpQuiet _ _ _ _ [_, _, _] _
  repeat (go_big_quiet_step (fail))
  refine wpQuiet_nil ?_
  refine reg_call 40 _ (by kernel_rfl) rfl rfl ?_
  go_simp
  refine (awake_any _).mono ?_
  rintro e v13 ⟨rfl, hb⟩
  have T := T.call hb
  refine ⟨T, ?_⟩
  refine reg_seg (f := 0) (by kernel_rfl) [41, 42] _ _ _ T (by kernel_rfl) ?_
  simp only [pickL, List.filterMap_cons, List.filterMap_nil, List.getElem?_toArray, List.getElem?_cons_zero, List.getElem?_cons_succ]
  show wpQuiet _ _ _ _ [_, _] _
  repeat (go_big_quiet_step (fail))
  refine wpQuiet_nil ?_
  refine reg_end (by kernel_rfl) ?_
  refine hKK _ _ ?_
  go_wp2
  go_ret
  exact ⟨rfl, b5.trans (Below.mono T b5.size)⟩
end Go.Proofs.Ytfolabkgeeeobaa
