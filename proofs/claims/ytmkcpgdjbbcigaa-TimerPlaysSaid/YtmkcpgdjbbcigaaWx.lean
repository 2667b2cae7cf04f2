/-
  Timer: walk over the law TimerPlays. No condition but that the slice's length is a Go int.
-/
import Derived.Test.YtmkcpgdjbbcigaaWw
namespace Go.Proofs.Ytmkcpgdjbbcigaa
open Go.RowKit
set_option linter.unusedVariables false

theorem dueL_len (s : TS) (u : Int) : (dueL s u).length ≤ s.ts.length := by
  unfold dueL
  split
  · simp
  · rw [List.length_map, List.length_take]
    omega

set_option maxRecDepth 100000 in
set_option maxHeartbeats 6400000 in
theorem law_plays (A : Option Addr) (n c : Nat) (l : List St) (w : World) (hz : l.length = n) (hm : n ≤ 9223372036854775807) (hr : RD w A (n * 3) (l.flatMap stC)) (hu : ∀ x ∈ l, (0 ≤ x.call ∧ x.call ≤ 255) ∧ x.id.size ≤ 9223372036854775807) :
    Calls Try.prog 3 #[.slice A n c] w fun e w' => e = .returned (.bool true) ∧ Below w.heap.size w w' := by
  have HR := Lib.hid hr
  have HZ := Lib.hid hz
  have HU := Lib.hid hu
  have HF := Lib.hid (few_any A n c l w hz hm hr)
  obtain ⟨B, hB⟩ : ∃ B, w.heap.size = B := ⟨_, rfl⟩
  have HBB := Lib.hid hB
  clear hr hz hu
  go_enter Try.func3, Try.ntmps3
  go_wp2_with fail
  refine HF.out.mono ?_
  rintro e w0 ⟨⟨b, rfl⟩, rfl⟩
  cases b with
  | false =>
    clear hB
    go_wp2_with (go_at_call 9; refine (awake_any _).mono ?_; rintro e w' ⟨rfl, b⟩)
    go_ret
    exact ⟨rfl, b⟩
  | true =>
    go_wp2_with fail
    refine (new_ok w).mono ?_
    rintro e w1 ⟨rfl, V1, b1⟩
    rw [hB] at V1 b1 ⊢
    have z1 := b1.size
    rw [hB] at z1
    clear hB
    go_wp2_with fail
    refine (rnew_ok w1).mono ?_
    rintro e w2 ⟨rfl, R2, b2⟩
    have z2 := Nat.le_trans z1 b2.size
    have HV2 := Lib.hid (V1.call b2)
    have HR2 := Lib.hid (R2.mono z1)
    have HB2 := Lib.hid (b1.trans (b2.mono z1))
    obtain ⟨Q, hQ⟩ : ∃ Q, w1.heap.size = Q := ⟨_, rfl⟩
    rw [hQ] at HR2 ⊢
    clear V1 R2 b1 b2 z1 hQ
    go_wp2_with fail
    go_loopw [5] (fun i wr => ∃ (k : Nat) (s : TS), k ≤ n ∧ i = .int .i64 k ∧ TRep wr B B s ∧ RRep wr B Q s ∧ s.Ok ∧ B ≤ wr.heap.size ∧ Below B w wr) (fun i _ => n - (intOf i).toNat)
    case atStart => exact ⟨0, ⟨0, []⟩, by omega, rfl, HV2.out, HR2.out, TS.Ok.new, z2, HB2.out⟩
    case round =>
      obtain ⟨k, s, hk, rfl, V0, R0, o, z, b0⟩ := hrel
      have V := Lib.hid V0
      have R := Lib.hid R0
      have HO := Lib.hid o
      have b := Lib.hid b0
      have hl := o.2
      clear V0 R0 o b0
      by_cases hlt : k < n
      · obtain ⟨bb, off, rfl, hbl, hcell⟩ := HR.out.2 (by omega)
        have hx : l[k]? = some (l[k]'(by rw [HZ.out]; exact hlt)) := List.getElem?_eq_getElem _
        have hbl' : bb < B := by rw [← HBB.out]; exact hbl
        have d0 := (Below.cell b.out (p := ⟨bb, off + k * 3, none⟩) hbl').trans (hcell (k * 3) (.int .u8 (l[k]'(by rw [HZ.out]; exact hlt)).call) (by have := atM stC 3 stC3 l k _ 0 hx (by decide); simpa [stC] using this))
        have e1 := hcell (k * 3 + 1) (.string (l[k]'(by rw [HZ.out]; exact hlt)).id) (by rw [atM stC 3 stC3 l k _ 1 hx (by decide)]; rfl)
        have e2 := hcell (k * 3 + 2) (.int .i64 (l[k]'(by rw [HZ.out]; exact hlt)).at_) (by rw [atM stC 3 stC3 l k _ 2 hx (by decide)]; rfl)
        rw [← Nat.add_assoc] at e1 e2
        have d1 := (Below.cell b.out (p := ⟨bb, off + k * 3 + 1, none⟩) hbl').trans e1
        have d2 := (Below.cell b.out (p := ⟨bb, off + k * 3 + 2, none⟩) hbl').trans e2
        clear e1 e2
        obtain ⟨⟨u1, u2⟩, u3⟩ := HU.out _ (List.mem_of_getElem? hx)
        clear hcell hx hbl'
        generalize (l[k]'(by rw [HZ.out]; exact hlt)) = x at d0 d1 d2 u1 u2 u3
        obtain ⟨xc, xk, xa⟩ := x
        simp only at d0 d1 d2 u1 u2 u3
        by_cases h0 : xc = 0
        · subst h0
          have N : Below wr.heap.size wr (wr.alloc (.cells #[.int .u8 0, .string xk, .int .i64 xa] 30)) := (Below.refl _ _).alloc (Nat.le_refl _) _
          have V4 := V.out.call N
          have R4 := R.out.call N
          have z4 := Nat.le_trans z N.size
          have b4 := Lib.hid (b.out.trans (N.mono z))
          have BX := Blk.new wr 30 #[.int .u8 0, .string xk, .int .i64 xa]
          clear V R z b N
          go_wp2_with fail
          rename_i K0 hKK
          generalize wr.alloc (.cells #[.int .u8 0, .string xk, .int .i64 xa] 30) = w4 at V4 R4 z4 b4 BX ⊢
          generalize wr.heap.size = pb at BX ⊢
          have q1 := fun n : Cls (TC B w4) => (BX.turn n.2 rfl).c 1 _ rfl
          have q2 := fun n : Cls (TC B w4) => (BX.turn n.2 rfl).c 2 _ rfl
          refine wp_region_reg (TC B w4) 14 rfl (by kernel_rfl) ?_
          have T : TC B w4 w4.drew := (Turn.refl _ _ _ _).drew
          haveI : Nonempty (Cls (TC B w4)) := ⟨⟨_, T⟩⟩
          have V := V4.drewN 1
          have R := R4.drewN 1
          clear V4 R4
          refine reg_seg (f := 4) (by kernel_rfl) [0, 1, 2, 3, 4, 6, 7, 8, 9, 10] _ _ _ T (by kernel_rfl) ?_
          simp only [pickL, List.filterMap_cons, List.filterMap_nil, List.getElem?_toArray, List.getElem?_cons_zero, List.getElem?_cons_succ]
          show wpQuiet _ _ _ _ [_, _, _, _, _, _, _, _, _, _] _
          repeat (go_big_quiet_step (fail))
          refine wpQuiet_nil ?_
          refine reg_call 5 _ (by kernel_rfl) rfl rfl ?_
          go_simp
          refine (set_any B B s xk xa _ (Nat.le_trans z4 T.size) V).mono ?_
          rintro e x ⟨rfl, V, T1⟩
          replace R := R.turnOther T1 rfl rfl
          replace T := TC.v T T1
          refine ⟨T, ?_⟩
          refine reg_call 11 _ (by kernel_rfl) rfl rfl ?_
          go_simp
          refine (rset_any B Q s xk xa u3 HO.out _ (Nat.le_trans z4 T.size) R).mono ?_
          rintro e x ⟨rfl, R, T1⟩
          replace V := V.turnOther T1 rfl rfl
          replace T := TC.r T T1
          refine ⟨T, ?_⟩
          refine reg_seg (f := 0) (by kernel_rfl) [12, 13] _ _ _ T (by kernel_rfl) ?_
          simp only [pickL, List.filterMap_cons, List.filterMap_nil, List.getElem?_toArray, List.getElem?_cons_zero, List.getElem?_cons_succ]
          show wpQuiet _ _ _ _ [_, _] _
          repeat (go_big_quiet_step (fail))
          refine wpQuiet_nil ?_
          refine reg_end (by kernel_rfl) ?_
          refine hKK _ _ ?_
          obtain ⟨s2, hs2⟩ : ∃ s2, setS s xk xa = s2 := ⟨_, rfl⟩
          rw [hs2] at V R
          have HO2 : Hid s2.Ok := Lib.hid (by rw [← hs2]; exact HO.out.set_ xk xa)
          clear hs2
          have z5 := Nat.le_trans z4 T.size
          have b5 := Lib.hid (b4.out.trans T.below)
          have HV := Lib.hid V
          have HR5 := Lib.hid R
          clear T V R q1 q2
          go_wp2_with (first
            | (go_at_call 23; refine (next_any B B _ _ HV.out).mono ?_; rintro e y ⟨rfl, rfl⟩)
            | (go_at_call 24; refine (rnext_any B Q _ _ HR5.out).mono ?_; rintro e y ⟨rfl, rfl⟩)
            | (go_at_call 25; refine (now_any B B _ _ HV.out).mono ?_; rintro e y ⟨rfl, rfl⟩)
            | (go_at_call 26; refine (rnow_any B Q _ _ HR5.out).mono ?_; rintro e y ⟨rfl, rfl⟩)
            | (go_at_call 27; refine (len_any B B _ _ HV.out).mono ?_; rintro e y ⟨rfl, rfl⟩)
            | (go_at_call 28; refine (rlen_any B Q _ _ HR5.out).mono ?_; rintro e y ⟨rfl, rfl⟩))
          go_roundw
          case rel => exact ⟨k + 1, _, by omega, by go_num, HV.out, HR5.out, HO2.out, z5, b5.out⟩
          case measure => simp [intOf]; omega
        · have n0 : (xc == 0) = false := by simpa using h0
          by_cases h1 : xc = 1
          · subst h1
            have N : Below wr.heap.size wr (wr.alloc (.cells #[.int .u8 1, .string xk, .int .i64 xa] 30)) := (Below.refl _ _).alloc (Nat.le_refl _) _
            have V4 := V.out.call N
            have R4 := R.out.call N
            have z4 := Nat.le_trans z N.size
            have b4 := Lib.hid (b.out.trans (N.mono z))
            have BX := Blk.new wr 30 #[.int .u8 1, .string xk, .int .i64 xa]
            clear V R z b N
            go_wp2_with fail
            rename_i K0 hKK
            generalize wr.alloc (.cells #[.int .u8 1, .string xk, .int .i64 xa] 30) = w4 at V4 R4 z4 b4 BX ⊢
            generalize wr.heap.size = pb at BX ⊢
            have q1 := fun n : Cls (TC B w4) => (BX.turn n.2 rfl).c 1 _ rfl
            have q2 := fun n : Cls (TC B w4) => (BX.turn n.2 rfl).c 2 _ rfl
            refine wp_region_reg (TC B w4) 14 rfl (by kernel_rfl) ?_
            have T : TC B w4 w4.drew := (Turn.refl _ _ _ _).drew
            haveI : Nonempty (Cls (TC B w4)) := ⟨⟨_, T⟩⟩
            have V := V4.drewN 1
            have R := R4.drewN 1
            clear V4 R4
            refine reg_seg (f := 4) (by kernel_rfl) [0, 1, 2, 3, 4, 6, 7, 8, 9, 10] _ _ _ T (by kernel_rfl) ?_
            simp only [pickL, List.filterMap_cons, List.filterMap_nil, List.getElem?_toArray, List.getElem?_cons_zero, List.getElem?_cons_succ]
            show wpQuiet _ _ _ _ [_, _, _, _, _, _, _, _, _, _] _
            repeat (go_big_quiet_step (fail))
            refine wpQuiet_nil ?_
            refine reg_call 5 _ (by kernel_rfl) rfl rfl ?_
            go_simp
            refine (mov_any B B s xk xa _ HO.out (Nat.le_trans z4 T.size) V).mono ?_
            rintro e x ⟨rfl, V, T1⟩
            replace R := R.turnOther T1 rfl rfl
            replace T := TC.v T T1
            refine ⟨T, ?_⟩
            refine reg_call 11 _ (by kernel_rfl) rfl rfl ?_
            go_simp
            refine (rmov_any B Q s xk xa _ HO.out (Nat.le_trans z4 T.size) R).mono ?_
            rintro e x ⟨rfl, R, T1⟩
            replace V := V.turnOther T1 rfl rfl
            replace T := TC.r T T1
            refine ⟨T, ?_⟩
            refine reg_seg (f := 0) (by kernel_rfl) [12, 13] _ _ _ T (by kernel_rfl) ?_
            simp only [pickL, List.filterMap_cons, List.filterMap_nil, List.getElem?_toArray, List.getElem?_cons_zero, List.getElem?_cons_succ]
            show wpQuiet _ _ _ _ [_, _] _
            repeat (go_big_quiet_step (fail))
            refine wpQuiet_nil ?_
            refine reg_end (by kernel_rfl) ?_
            refine hKK _ _ ?_
            obtain ⟨s2, hs2⟩ : ∃ s2, movS s xk xa = s2 := ⟨_, rfl⟩
            rw [hs2] at V R
            have HO2 : Hid s2.Ok := Lib.hid (by rw [← hs2]; exact HO.out.mov xk xa)
            clear hs2
            have z5 := Nat.le_trans z4 T.size
            have b5 := Lib.hid (b4.out.trans T.below)
            have HV := Lib.hid V
            have HR5 := Lib.hid R
            clear T V R q1 q2
            go_wp2_with (first
              | (go_at_call 23; refine (next_any B B _ _ HV.out).mono ?_; rintro e y ⟨rfl, rfl⟩)
              | (go_at_call 24; refine (rnext_any B Q _ _ HR5.out).mono ?_; rintro e y ⟨rfl, rfl⟩)
              | (go_at_call 25; refine (now_any B B _ _ HV.out).mono ?_; rintro e y ⟨rfl, rfl⟩)
              | (go_at_call 26; refine (rnow_any B Q _ _ HR5.out).mono ?_; rintro e y ⟨rfl, rfl⟩)
              | (go_at_call 27; refine (len_any B B _ _ HV.out).mono ?_; rintro e y ⟨rfl, rfl⟩)
              | (go_at_call 28; refine (rlen_any B Q _ _ HR5.out).mono ?_; rintro e y ⟨rfl, rfl⟩))
            go_roundw
            case rel => exact ⟨k + 1, _, by omega, by go_num, HV.out, HR5.out, HO2.out, z5, b5.out⟩
            case measure => simp [intOf]; omega
          · have n1 : (xc == 1) = false := by simpa using h1
            by_cases h2 : xc = 2
            · subst h2
              have N : Below wr.heap.size wr (wr.alloc (.cells #[.int .u8 2, .string xk, .int .i64 xa] 30)) := (Below.refl _ _).alloc (Nat.le_refl _) _
              have V4 := V.out.call N
              have R4 := R.out.call N
              have z4 := Nat.le_trans z N.size
              have b4 := Lib.hid (b.out.trans (N.mono z))
              have BX := Blk.new wr 30 #[.int .u8 2, .string xk, .int .i64 xa]
              clear V R z b N
              go_wp2_with fail
              rename_i K0 hKK
              generalize wr.alloc (.cells #[.int .u8 2, .string xk, .int .i64 xa] 30) = w4 at V4 R4 z4 b4 BX ⊢
              generalize wr.heap.size = pb at BX ⊢
              have q1 := fun n : Cls (TC B w4) => (BX.turn n.2 rfl).c 1 _ rfl
              have q2 := fun n : Cls (TC B w4) => (BX.turn n.2 rfl).c 2 _ rfl
              refine wp_region_reg (TC B w4) 10 rfl (by kernel_rfl) ?_
              have T : TC B w4 w4.drew := (Turn.refl _ _ _ _).drew
              haveI : Nonempty (Cls (TC B w4)) := ⟨⟨_, T⟩⟩
              have V := V4.drewN 1
              have R := R4.drewN 1
              clear V4 R4
              refine reg_seg (f := 4) (by kernel_rfl) [0, 1, 2, 4, 5, 6] _ _ _ T (by kernel_rfl) ?_
              simp only [pickL, List.filterMap_cons, List.filterMap_nil, List.getElem?_toArray, List.getElem?_cons_zero, List.getElem?_cons_succ]
              show wpQuiet _ _ _ _ [_, _, _, _, _, _] _
              repeat (go_big_quiet_step (fail))
              refine wpQuiet_nil ?_
              refine reg_call 3 _ (by kernel_rfl) rfl rfl ?_
              go_simp
              refine (can_any B B s xk _ HO.out (Nat.le_trans z4 T.size) V).mono ?_
              rintro e x ⟨rfl, V, T1⟩
              replace R := R.turnOther T1 rfl rfl
              replace T := TC.v T T1
              refine ⟨T, ?_⟩
              refine reg_call 7 _ (by kernel_rfl) rfl rfl ?_
              go_simp
              refine (rcan_any B Q s xk _ HO.out (Nat.le_trans z4 T.size) R).mono ?_
              rintro e x ⟨rfl, R, T1⟩
              replace V := V.turnOther T1 rfl rfl
              replace T := TC.r T T1
              refine ⟨T, ?_⟩
              refine reg_seg (f := 0) (by kernel_rfl) [8, 9] _ _ _ T (by kernel_rfl) ?_
              simp only [pickL, List.filterMap_cons, List.filterMap_nil, List.getElem?_toArray, List.getElem?_cons_zero, List.getElem?_cons_succ]
              show wpQuiet _ _ _ _ [_, _] _
              repeat (go_big_quiet_step (fail))
              refine wpQuiet_nil ?_
              refine reg_end (by kernel_rfl) ?_
              refine hKK _ _ ?_
              obtain ⟨s2, hs2⟩ : ∃ s2, canS s xk = s2 := ⟨_, rfl⟩
              rw [hs2] at V R
              have HO2 : Hid s2.Ok := Lib.hid (by rw [← hs2]; exact HO.out.can xk)
              clear hs2
              have z5 := Nat.le_trans z4 T.size
              have b5 := Lib.hid (b4.out.trans T.below)
              have HV := Lib.hid V
              have HR5 := Lib.hid R
              clear T V R q1 q2
              go_wp2_with (first
                | (go_at_call 23; refine (next_any B B _ _ HV.out).mono ?_; rintro e y ⟨rfl, rfl⟩)
                | (go_at_call 24; refine (rnext_any B Q _ _ HR5.out).mono ?_; rintro e y ⟨rfl, rfl⟩)
                | (go_at_call 25; refine (now_any B B _ _ HV.out).mono ?_; rintro e y ⟨rfl, rfl⟩)
                | (go_at_call 26; refine (rnow_any B Q _ _ HR5.out).mono ?_; rintro e y ⟨rfl, rfl⟩)
                | (go_at_call 27; refine (len_any B B _ _ HV.out).mono ?_; rintro e y ⟨rfl, rfl⟩)
                | (go_at_call 28; refine (rlen_any B Q _ _ HR5.out).mono ?_; rintro e y ⟨rfl, rfl⟩))
              go_roundw
              case rel => exact ⟨k + 1, _, by omega, by go_num, HV.out, HR5.out, HO2.out, z5, b5.out⟩
              case measure => simp [intOf]; omega
            · have n2 : (xc == 2) = false := by simpa using h2
              by_cases h3 : xc = 3
              · subst h3
                have N : Below wr.heap.size wr (wr.alloc (.cells #[.int .u8 3, .string xk, .int .i64 xa] 30)) := (Below.refl _ _).alloc (Nat.le_refl _) _
                have V4 := V.out.call N
                have R4 := R.out.call N
                have z4 := Nat.le_trans z N.size
                have b4 := Lib.hid (b.out.trans (N.mono z))
                have BX := Blk.new wr 30 #[.int .u8 3, .string xk, .int .i64 xa]
                clear V R z b N
                go_wp2_with fail
                rename_i K0 hKK
                generalize wr.alloc (.cells #[.int .u8 3, .string xk, .int .i64 xa] 30) = w4 at V4 R4 z4 b4 BX ⊢
                generalize wr.heap.size = pb at BX ⊢
                have q1 := fun n : Cls (TC B w4) => (BX.turn n.2 rfl).c 1 _ rfl
                have q2 := fun n : Cls (TC B w4) => (BX.turn n.2 rfl).c 2 _ rfl
                refine wp_region_reg (TC B w4) 10 rfl (by kernel_rfl) ?_
                have T : TC B w4 w4.drew := (Turn.refl _ _ _ _).drew
                haveI : Nonempty (Cls (TC B w4)) := ⟨⟨_, T⟩⟩
                have V := V4.drewN 1
                have R := R4.drewN 1
                clear V4 R4
                refine reg_seg (f := 4) (by kernel_rfl) [0, 1, 2, 4, 5, 6] _ _ _ T (by kernel_rfl) ?_
                simp only [pickL, List.filterMap_cons, List.filterMap_nil, List.getElem?_toArray, List.getElem?_cons_zero, List.getElem?_cons_succ]
                show wpQuiet _ _ _ _ [_, _, _, _, _, _] _
                repeat (go_big_quiet_step (fail))
                refine wpQuiet_nil ?_
                refine reg_call 3 _ (by kernel_rfl) rfl rfl ?_
                go_simp
                refine (due_any B B s xa (by omega) _ (Nat.le_trans z4 T.size) V).mono ?_
                rintro e x ⟨A6, c6, rfl, W6, V, T1⟩
                replace R := R.turnOther T1 rfl rfl
                replace T := TC.v T T1
                refine ⟨T, ?_⟩
                refine reg_call 7 _ (by kernel_rfl) rfl rfl ?_
                go_simp
                refine (rdue_any B Q s xa (by omega) _ (Nat.le_trans z4 T.size) R).mono ?_
                rintro e x ⟨A7, c7, rfl, W7, R, T1⟩
                replace W6 := W6.turn T1 rfl
                replace V := V.turnOther T1 rfl rfl
                replace T := TC.r T T1
                refine ⟨T, ?_⟩
                have HS := same_ok A6 _ c6 _ A7 _ c7 _ (by have := dueL_len s xa; omega) _ (RD.of_rowL W6) (RD.of_rowL W7)
                rw [decide_eq_true rfl] at HS
                refine reg_call 8 _ (by kernel_rfl) rfl rfl ?_
                go_simp
                refine (HS).mono ?_
                rintro e x ⟨rfl, hb⟩
                replace V := V.call hb
                replace R := R.call hb
                replace T := TC.b T hb z4
                refine ⟨T, ?_⟩
                clear HS
                refine reg_seg (f := 0) (by kernel_rfl) [9] _ _ _ T (by kernel_rfl) ?_
                simp only [pickL, List.filterMap_cons, List.filterMap_nil, List.getElem?_toArray, List.getElem?_cons_zero, List.getElem?_cons_succ]
                show wpQuiet _ _ _ _ [_] _
                repeat (go_big_quiet_step (fail))
                refine wpQuiet_nil ?_
                refine reg_end (by kernel_rfl) ?_
                refine hKK _ _ ?_
                obtain ⟨s2, hs2⟩ : ∃ s2, dueS s xa = s2 := ⟨_, rfl⟩
                rw [hs2] at V R
                have HO2 : Hid s2.Ok := Lib.hid (by rw [← hs2]; exact HO.out.due xa)
                clear hs2
                clear W6 W7
                have z5 := Nat.le_trans z4 T.size
                have b5 := Lib.hid (b4.out.trans T.below)
                have HV := Lib.hid V
                have HR5 := Lib.hid R
                clear T V R q1 q2
                go_wp2_with (first
                  | (go_at_call 23; refine (next_any B B _ _ HV.out).mono ?_; rintro e y ⟨rfl, rfl⟩)
                  | (go_at_call 24; refine (rnext_any B Q _ _ HR5.out).mono ?_; rintro e y ⟨rfl, rfl⟩)
                  | (go_at_call 25; refine (now_any B B _ _ HV.out).mono ?_; rintro e y ⟨rfl, rfl⟩)
                  | (go_at_call 26; refine (rnow_any B Q _ _ HR5.out).mono ?_; rintro e y ⟨rfl, rfl⟩)
                  | (go_at_call 27; refine (len_any B B _ _ HV.out).mono ?_; rintro e y ⟨rfl, rfl⟩)
                  | (go_at_call 28; refine (rlen_any B Q _ _ HR5.out).mono ?_; rintro e y ⟨rfl, rfl⟩))
                go_roundw
                case rel => exact ⟨k + 1, _, by omega, by go_num, HV.out, HR5.out, HO2.out, z5, b5.out⟩
                case measure => simp [intOf]; omega
              · have n3 : (xc == 3) = false := by simpa using h3
                have N : Below wr.heap.size wr (wr.alloc (.cells #[.int .u8 xc, .string xk, .int .i64 xa] 30)) := (Below.refl _ _).alloc (Nat.le_refl _) _
                have V4 := V.out.call N
                have R4 := R.out.call N
                have z4 := Nat.le_trans z N.size
                have b4 := Lib.hid (b.out.trans (N.mono z))
                have BX := Blk.new wr 30 #[.int .u8 xc, .string xk, .int .i64 xa]
                clear V R z b N
                have HV4 := Lib.hid V4
                have HR4 := Lib.hid R4
                clear V4 R4
                go_wp2_with (first
                  | (go_at_call 21
                     have hv := HV4
                     refine (at_any B B s xk _ hv.out).mono ?_
                     rintro e y ⟨rfl, hb⟩
                     have k1 := (BX.call hb).c 1 _ rfl
                     have HV5 := Lib.hid (hv.out.call hb)
                     have HR6 := Lib.hid (HR4.out.call hb)
                     have z6 := Nat.le_trans z4 hb.size
                     have b6 := Lib.hid (b4.out.trans (hb.mono z4))
                     clear HV4 HR4 hb hv)
                  | (go_at_call 22
                     have hv := HV5
                     refine (rat_any B Q s xk _ HR6.out).mono ?_
                     rintro e y2 ⟨rfl, hb⟩
                     have HV := Lib.hid (hv.out.call hb)
                     have HR5 := Lib.hid (HR6.out.call hb)
                     have z5 := Nat.le_trans z6 hb.size
                     have b5 := Lib.hid (b6.out.trans (hb.mono z6))
                     clear HV5 HR6 hb hv)
                  | (go_at_call 23; refine (next_any B B _ _ HV.out).mono ?_; rintro e y ⟨rfl, rfl⟩)
                  | (go_at_call 24; refine (rnext_any B Q _ _ HR5.out).mono ?_; rintro e y ⟨rfl, rfl⟩)
                  | (go_at_call 25; refine (now_any B B _ _ HV.out).mono ?_; rintro e y ⟨rfl, rfl⟩)
                  | (go_at_call 26; refine (rnow_any B Q _ _ HR5.out).mono ?_; rintro e y ⟨rfl, rfl⟩)
                  | (go_at_call 27; refine (len_any B B _ _ HV.out).mono ?_; rintro e y ⟨rfl, rfl⟩)
                  | (go_at_call 28; refine (rlen_any B Q _ _ HR5.out).mono ?_; rintro e y ⟨rfl, rfl⟩))
                go_roundw
                case rel => exact ⟨k + 1, _, by omega, by go_num, HV.out, HR5.out, HO.out, z5, b5.out⟩
                case measure => simp [intOf]; omega
      · go_wp2_with (go_at_call 9; refine (awake_any _).mono ?_; rintro e w8 ⟨rfl, b8⟩)
        go_ret
        refine ⟨rfl, ?_⟩
        rw [HBB.out]
        exact b.out.trans (b8.mono z)
end Go.Proofs.Ytmkcpgdjbbcigaa
