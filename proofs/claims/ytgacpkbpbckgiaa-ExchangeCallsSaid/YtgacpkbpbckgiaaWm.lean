/-
  Exchange: walk over the law ExchangeTimes. Condition: the gaps are a slice that lies as the language lays it.
-/
import Derived.Test.YtgacpkbpbckgiaaPb
namespace Go.Proofs.Ytgacpkbpbckgiaa
open Go.RowKit
set_option linter.unusedVariables false

theorem intE : ElemT Try.prog 61 3 (.int .i64 0) 1 8 := ⟨Try.underlying61, by kernel_rfl, rfl, by decide⟩
theorem int_one (n : Int) : ∀ u ∈ [Value.int .i64 n], u.oneCell' = true := by
  intro u hu
  simp at hu
  subst hu
  rfl
theorem PRep.grownL {w w' : World} {B p : Nat} {s : XS} (h : PRep w B p s) {base n c size : Nat} {e : TypeId} {A : Option Addr} {xs : List Value} (hr : rowL w base e size A n c xs) (e1 : e ≠ 67) (e2 : e ≠ 76) (e3 : e ≠ 69) (hg : w.grownBy w' (blkOf A)) : PRep w' B p s := by
  obtain ⟨h1, mb, zs, A0, c0, h2, h3, h4, h5, h6, h7⟩ := h
  exact ⟨h1, mb, zs, A0, c0, h2.grownL hr e1 hg, h3, h4.grownL hr hg, h5, h6.keep (fun _ _ b => b.grownL hr e2 hg), h7.grown hr (Ne.symm e3) hg⟩
theorem u8i (v : Int) : IntKind.u8.wrap v = v % 256 := by rfl

set_option maxRecDepth 100000 in
set_option maxHeartbeats 6400000 in
theorem law_times (y : Int) (A : Option Addr) (n c : Nat) (gs : List Int) (a : Int) (w : World) (hz : gs.length = n) (hm : n ≤ 9223372036854775807) (hg : ∀ g ∈ gs, 0 ≤ g ∧ g ≤ 255) (hr : RD w A n (gs.map (Value.int .u8))) (hy : 0 ≤ y ∧ y ≤ 255) (ha : 0 ≤ a ∧ a ≤ 65535) :
    Calls Try.prog 6 #[.int .u8 y, .slice A n c, .int .u16 a] w fun e w' => e = .returned (.bool true) ∧ Below w.heap.size w w' := by
  have HR := Lib.hid hr
  have HZ := Lib.hid hz
  have HG : Hid (∀ i, 0 ≤ gs.getD i 0 ∧ gs.getD i 0 ≤ 255) := Lib.hid (fun i => by
    rcases Nat.lt_or_ge i gs.length with h | h
    · have : gs.getD i 0 = gs[i] := by simp [List.getD, h]
      rw [this]
      exact hg _ (List.getElem_mem h)
    · have : gs.getD i 0 = 0 := by simp [List.getD, h]
      rw [this]
      omega)
  obtain ⟨y1, y2⟩ := hy
  obtain ⟨a1, a2⟩ := ha
  obtain ⟨W, hW⟩ : ∃ W, 1 + y = W := ⟨_, rfl⟩
  have HW : Hid (1 ≤ W ∧ W ≤ 256) := Lib.hid (by omega)
  have HWW := Lib.hid hW
  obtain ⟨B, hB⟩ : ∃ B, w.heap.size = B := ⟨_, rfl⟩
  have HBB := Lib.hid hB
  clear hr hz hg
  by_cases h60 : 60 < n
  · have h1 : (60 : Int) < n := by omega
    clear h60 hB
    go_enter Try.func6, Try.ntmps6
    go_wp2_with fail
    refine (new_ok W HW.out.1 (by have := HW.out; omega) w).mono ?_
    rintro e w1 ⟨p, rfl, R1, b1⟩
    go_wp2_with (go_at_call 11; refine (awake_any _).mono ?_; rintro e w' ⟨rfl, b⟩)
    go_ret
    exact ⟨rfl, b1.trans (b.mono b1.size)⟩
  · have hn : n ≤ 60 := by omega
    clear h60
    go_enter Try.func6, Try.ntmps6
    go_wp2_with fail
    refine (new_ok W HW.out.1 (by have := HW.out; omega) w).mono ?_
    rintro e w1 ⟨p, rfl, R1, b1⟩
    rw [hB] at R1 b1
    have z1 : B ≤ w1.heap.size := by have := b1.size; omega
    have HB1 := Lib.hid b1
    replace R1 : PRep w1 B p (EX W gs 0) := R1
    have HR1 := Lib.hid R1
    clear R1 b1 hB hW
    go_wp2_with fail
    go_loopw [10, 11, 12] (fun t o i wr => ∃ (k : Nat) (A2 : Option Addr) (c2 : Nat), k ≤ n ∧ i = .int .i64 k ∧ t = .int .i64 (pre gs k) ∧ o = .slice A2 k c2 ∧ rowL wr B 3 1 A2 k c2 (tm gs k) ∧ PRep wr B p (EX W gs k) ∧ B ≤ wr.heap.size ∧ Below B w wr) (fun _ _ i _ => n - (intOf i).toNat)
    case atStart => exact ⟨0, none, 0, by omega, rfl, rfl, rfl, rowL.nil _ _ _ _, HR1.out, z1, HB1.out⟩
    case round =>
      obtain ⟨k, A2, c2, hk, rfl, rfl, rfl, hrow, R2, z2, b2⟩ := hrel
      have HI := Lib.hid hrow
      have HR2 := Lib.hid R2
      have HB2 := Lib.hid b2
      clear hrow R2 b2
      by_cases hlt : k < n
      · obtain ⟨bb, off, rfl, hbl, hcell⟩ := HR.out.2 (by omega)
        have hv := hcell k (.int .u8 (gs.getD k 0)) (by
          have hkl : k < gs.length := by rw [HZ.out]; exact hlt
          simp [List.getD, hkl])
        have hc := (Below.cell HB2.out (p := ⟨bb, off + k, none⟩) (by rw [← HBB.out]; exact hbl)).trans hv
        obtain ⟨v1, v2⟩ := HG.out k
        obtain ⟨q1, q2⟩ := pre_bd HG.out k
        have hp : pre gs (k + 1) = pre gs k + gs.getD k 0 := rfl
        have HP := Lib.hid hp
        have F := Lib.hid (ex_beg HG.out (W := W) (k := k) (by omega))
        have OK := ex_ok HG.out HW.out (k := k) (by omega)
        clear hcell hv hp
        generalize gs.getD k 0 = v at hc v1 v2 HP
        go_wp2_with fail
        rw [← HP.out]
        refine (key_any k (by omega) wr).mono ?_
        rintro e w3 ⟨rfl, b3⟩
        have z3 := Nat.le_trans z2 b3.size
        have HB3 := Lib.hid (HB2.out.trans (b3.mono z2))
        have HI3 := Lib.hid (HI.out.call b3)
        have C3 := Lib.hid (begin_any B p (EX W gs k) (pre gs (k + 1)) (keyB k) tr w3 OK (by simp [EX]; omega) z3 (HR2.out.call b3))
        clear b3 OK hc
        generalize keyB k = kk0 at C3 F ⊢
        go_wp2_with fail
        refine C3.out.mono ?_
        rintro e w4 ⟨rfl, R4, T4⟩
        rw [F.out.1]
        rw [F.out.2] at R4
        have z4 := Nat.le_trans z3 T4.size
        have HB4 := Lib.hid (HB3.out.trans T4.below)
        have HI4 := Lib.hid (HI3.out.turn T4 rfl)
        have HR4 := Lib.hid R4
        obtain ⟨Q, hQ⟩ : ∃ Q, pre gs (k + 1) = Q := ⟨_, rfl⟩
        have HQ := Lib.hid hQ
        rw [hQ]
        clear R4 T4 hQ
        go_wp2_with
          (at_builtin
           go_must (refine wpList_appL intE _ _ rfl rfl (m := 1) (c' := 1) (ys := [.int .i64 Q]) rfl rfl (HI4.out.alloc (.cells #[.int .i64 Q] 3)) (RDn.of_box (Blk.new w4 3 #[.int .i64 Q])) (int_one Q) (by unfold maxLen; omega) (by omega) (by simp; omega) ?_)
           intro A5 c5 w5 hr5 hg5 hor
           have RA := HI4.out.alloc (.cells #[.int .i64 Q] 3)
           have N5 : Below w4.heap.size w4 (w4.alloc (.cells #[.int .i64 Q] 3)) := (Below.refl _ _).alloc (Nat.le_refl _) _
           have HR5 := Lib.hid ((HR4.out.call N5).grownL RA (by decide) (by decide) (by decide) hg5)
           have HB5 := Lib.hid (below_grownL (HB4.out.trans (N5.mono z4)) RA (Nat.le_refl _) (by simp; omega) hg5)
           have z5 : B ≤ w5.heap.size := Nat.le_trans (by simp; omega) hg5.size
           have HI5 := Lib.hid hr5
           clear hr5 hg5 hor RA N5)
        go_roundw
        case rel =>
          refine ⟨k + 1, A5, c5, by omega, by go_num, by rw [HQ.out], rfl, ?_, HR5.out, z5, HB5.out⟩
          rw [tm_succ, HQ.out]
          exact HI5.out
        case measure => simp [intOf]; omega
      · have hkn : k = n := by omega
        subst hkn
        obtain ⟨q1, q2⟩ := pre_bd HG.out k
        have FN := Lib.hid (ex_next (gs := gs) (W := W) k)
        have FW := Lib.hid (ex_wai W gs k)
        have OK := ex_ok HG.out HW.out (k := k) (by omega)
        have HOK := Lib.hid OK
        clear OK
        go_wp2_with fail
        refine (waiting_any B p (EX W gs k) (by simp [EX]; omega) wr HR2.out).mono ?_
        rintro e w3 ⟨A3, c3, rfl, W3, b3⟩
        rw [FW.out, List.length_map, List.length_range] at W3
        rw [FW.out, List.length_map, List.length_range]
        have z3 := Nat.le_trans z2 b3.size
        have HB3 := Lib.hid (HB2.out.trans (b3.mono z2))
        have HI3 := Lib.hid (HI.out.call b3)
        have HW3 := Lib.hid W3
        have HR3 := Lib.hid (HR2.out.call b3)
        have ZW : B ≤ wr.heap.size := z2
        clear b3 W3
        go_wp2_with fail
        refine (next_any B p (EX W gs k) HOK.out (by simp [EX]; omega) w3 HR3.out).mono ?_
        rintro e w' ⟨rfl, rfl⟩
        rw [FN.out.1]
        obtain ⟨b0, hb0⟩ : ∃ b0, nexN (EX W gs k) = b0 := ⟨_, rfl⟩
        have HNX := Lib.hid hb0
        rw [hb0]
        clear hb0
        have FL := Lib.hid (ex_los (gs := gs) (W := W) (a := pre gs k + a) k (by omega) (by omega) (by omega))
        obtain ⟨N, hN⟩ : ∃ N, pre gs k = N := ⟨_, rfl⟩
        have HNN := Lib.hid hN
        rw [hN] at FL q1 q2 ⊢
        clear hN
        have C4 := Lib.hid (lost_any B p (EX W gs k) (N + a) w3 (by simp [EX]; omega) z3 HR3.out)
        by_cases hk0 : k = 0
        · subst hk0
          rw [show decide (0 < 0) = false from rfl]
          go_wp2_with fail
          refine C4.out.mono ?_
          rintro e w5 ⟨A5, c5, rfl, W5, R5, T5⟩
          rw [FL.out.1, outL_len, show cntL W gs (N + a) 0 = 0 from rfl]
          have z5 := Nat.le_trans z3 T5.size
          have HB5 := Lib.hid (HB3.out.trans T5.below)
          have HR5 := Lib.hid R5
          clear R5 T5 W5 C4
          go_wp2_with fail
          go_loopw [17, 18] (fun q i wr => q = .int .i64 0 ∧ i = .int .i64 0 ∧ wr = w5) (fun _ _ _ => 0)
          case atStart => exact ⟨rfl, rfl, rfl⟩
          case round =>
            obtain ⟨rfl, rfl, rfl⟩ := hrel
            go_wp2_with fail
            refine (waiting_any B p (losS (EX W gs 0) (N + a)) (by rw [losS_len]; simp [EX]) wr HR5.out).mono ?_
            rintro e w6 ⟨A6, c6, rfl, _, b6⟩
            rw [FL.out.2]
            have z6 := Nat.le_trans z5 b6.size
            have HB6 := Lib.hid (HB5.out.trans (b6.mono z5))
            clear b6
            rw [show 0 - cntL W gs (N + a) 0 = 0 from Nat.zero_sub _]
            go_wp2_with fail
            refine (awake_any w6).mono ?_
            rintro e w7 ⟨rfl, b7⟩
            go_wp2_with fail
            go_ret
            exact ⟨rfl, by rw [HBB.out]; exact HB6.out.trans (b7.mono z6)⟩
        · have hk1 : 0 < k := by omega
          have hkI : (0 : Int) < k := by omega
          have hb0 : b0 = pre gs 1 + W := by rw [← HNX.out]; exact FN.out.2 hk1
          obtain ⟨p1, p2⟩ := pre_bd HG.out 1
          obtain ⟨w1', w2'⟩ := HW.out
          obtain ⟨gb, rfl, _, hgb, hcb, _⟩ := HI3.out.cells hk1
          obtain ⟨gl, rfl, _, hgl, hcl, _⟩ := HW3.out.cells hk1
          have cb0 : w3.cell? ⟨gb, 0, none⟩ = some (.int .i64 (pre gs 1)) := hcb 0 _ (tm_at hk1)
          clear hcb hcl hgb hgl
          generalize pre gs 1 = P1 at hb0 p1 p2 cb0
          subst hb0
          rw [decide_eq_true hk1]
          go_wp2_with fail
          refine C4.out.mono ?_
          rintro e w5 ⟨A5, c5, rfl, W5, R5, T5⟩
          rw [FL.out.1, outL_len] at W5
          rw [FL.out.1, outL_len]
          have z5 := Nat.le_trans z3 T5.size
          have HB5 := Lib.hid (HB3.out.trans T5.below)
          have HR5 := Lib.hid R5
          have HO5 := Lib.hid W5
          have HI5 := Lib.hid (HI3.out.turn T5 rfl)
          have HW5 := Lib.hid (HW3.out.turn T5 rfl)
          clear R5 T5 W5 C4 cb0
          have hmk := cntL_le (W := W) (gs := gs) (N + a) k
          obtain ⟨m, hmm⟩ : ∃ m, cntL W gs (N + a) k = m := ⟨_, rfl⟩
          have HM := Lib.hid hmm
          rw [hmm] at HO5 hmk ⊢
          clear hmm
          have HCA : Hid (∀ wx, Below w5.heap.size w5 wx → ∀ i, i < k → wx.cell? ⟨gl, i, none⟩ = some (.string (keyB i)) ∧ wx.cell? ⟨gb, i, none⟩ = some (.int .i64 (pre gs (i + 1)))) := Lib.hid (fun wx hx i hi => by
            obtain ⟨g1, e1, _, _, hc1, _⟩ := (HW5.out.call hx).cells hk1
            injection e1 with e1
            injection e1 with e1
            subst e1
            obtain ⟨g2, e2, _, _, hc2, _⟩ := (HI5.out.call hx).cells hk1
            injection e2 with e2
            injection e2 with e2
            subst e2
            exact ⟨hc1 i _ (by rw [List.map_map, List.getElem?_map, List.getElem?_range hi]; rfl), hc2 i _ (tm_at hi)⟩)
          go_wp2_with fail
          go_loopw [17, 18] (fun q i wr => ∃ j : Nat, j ≤ k ∧ i = .int .i64 j ∧ q = .int .i64 (cntL W gs (N + a) j) ∧ Below w5.heap.size w5 wr) (fun _ i _ => k - (intOf i).toNat)
          case atStart => exact ⟨0, by omega, rfl, rfl, Below.refl _ _⟩
          case round =>
            obtain ⟨j, hj, rfl, rfl, b6⟩ := hrel
            have HB6 := Lib.hid b6
            have z6 := b6.size
            clear b6
            by_cases hlj : j < k
            · obtain ⟨q3, q4⟩ := pre_bd HG.out (j + 1)
              have L1 := fun x : Cls (UpC wr) => (HCA.out x.1 (HB6.out.trans (Below.mono x.2 z6)) j hlj).1
              have qj : (j : Int) < k := by omega
              have KEY : Hid (∀ x : World, Calls Try.prog 28 #[.int .i64 (j : Int)] x fun e w' => e = .returned (.string (keyB j)) ∧ Below x.heap.size x w') := Lib.hid (key_any j (by omega))
              have hYN : pre gs (j + 1) + W ≤ N + a ∨ ¬ pre gs (j + 1) + W ≤ N + a := by omega
              have HCO : Hid (pre gs (j + 1) + W ≤ N + a → cntL W gs (N + a) j < m ∧ ∃ go, A5 = some ⟨go, 0, none⟩ ∧ ∀ wx, Below w5.heap.size w5 wx → wx.cell? ⟨go, cntL W gs (N + a) j, none⟩ = some (.string (keyB j))) := Lib.hid (fun hyes => by
                have hlt2 := cntL_lt (W := W) (gs := gs) hyes hlj
                have hat := outL_at (W := W) (gs := gs) hyes (k - (j + 1))
                rw [show j + 1 + (k - (j + 1)) = k by omega] at hat
                rw [HM.out] at hlt2
                obtain ⟨go, e5, _, hgo, hco, _⟩ := HO5.out.cells (by omega)
                refine ⟨hlt2, go, e5, fun wx hx => ?_⟩
                exact (Below.cell hx (p := ⟨go, cntL W gs (N + a) j, none⟩) hgo).trans (hco _ _ (by rw [List.getElem?_map, hat]; rfl)))
              have HYES := Lib.hid (fun h => cntL_yes (W := W) (gs := gs) (a := N + a) (i := j) h)
              have HNO := Lib.hid (fun h => cntL_no (W := W) (gs := gs) (a := N + a) (i := j) h)
              obtain ⟨PJ, hPJ⟩ : ∃ PJ, pre gs (j + 1) = PJ := ⟨_, rfl⟩
              have HPJ := Lib.hid hPJ
              obtain ⟨C, hC⟩ : ∃ C, cntL W gs (N + a) j = C := ⟨_, rfl⟩
              have HCC := Lib.hid hC
              rw [hPJ] at q3 q4 hYN HCO HYES HNO
              rw [hC] at HCO HYES HNO ⊢
              clear hPJ hC
              generalize keyB j = kj at L1 KEY HCO
              go_wp2_with fail
              rename_i K0 hKK
              refine wp_region_reg (UpC wr) 7 rfl (by kernel_rfl) ?_
              have T : UpC wr wr.drew := (Below.refl _ _).drew
              haveI : Nonempty (Cls (UpC wr)) := ⟨⟨_, T⟩⟩
              refine reg_seg (f := 2) (by kernel_rfl) [0, 1, 2, 3, 4] _ _ _ T (by kernel_rfl) ?_
              simp only [pickL, List.filterMap_cons, List.filterMap_nil, List.getElem?_toArray, List.getElem?_cons_zero, List.getElem?_cons_succ]
              show wpQuiet _ _ _ _ [_, _, _, _, _] _
              repeat (go_big_quiet_step (fail))
              refine wpQuiet_nil ?_
              clear L1
              refine reg_call 5 _ (by kernel_rfl) rfl rfl ?_
              go_simp
              refine (KEY.out _).mono ?_
              rintro e x1 ⟨rfl, q1'⟩
              replace T := UpC.call T q1'
              refine ⟨T, ?_⟩
              clear q1'
              refine reg_seg (f := 0) (by kernel_rfl) [6] _ _ _ T (by kernel_rfl) ?_
              simp only [pickL, List.filterMap_cons, List.filterMap_nil, List.getElem?_toArray, List.getElem?_cons_zero, List.getElem?_cons_succ]
              show wpQuiet _ _ _ _ [_] _
              repeat (go_big_quiet_step (fail))
              refine wpQuiet_nil ?_
              refine reg_end (by kernel_rfl) ?_
              refine hKK _ _ ?_
              have HB7 := Lib.hid (HB6.out.trans (Below.mono T z6))
              have z7 := HB7.out.size
              have cb := (HCA.out x1 HB7.out j hlj).2
              rw [HPJ.out] at cb
              clear T
              rcases hYN with hyes | hno
              · obtain ⟨hCm, go, rfl, hco⟩ := HCO.out hyes
                have L2 := fun x : Cls (UpC x1) => hco x.1 (HB7.out.trans (Below.mono x.2 z7))
                have HY := Lib.hid (HYES.out hyes)
                have hCI : (C : Int) < m := by omega
                have hCI2 : ¬ (m : Int) ≤ C := by omega
                have hge : decide (m ≤ C) = false := decide_eq_false (by omega)
                clear hco HCO HYES HNO
                go_wp2_with fail
                rename_i K1 hK1
                refine wp_region_reg (UpC x1) 13 rfl (by kernel_rfl) ?_
                have T : UpC x1 x1.drew := (Below.refl _ _).drew
                haveI : Nonempty (Cls (UpC x1)) := ⟨⟨_, T⟩⟩
                refine reg_seg (f := 3) (by kernel_rfl) [0, 1, 2, 3, 4, 5, 6, 7, 8, 9] _ _ _ T (by kernel_rfl) ?_
                simp only [pickL, List.filterMap_cons, List.filterMap_nil, List.getElem?_toArray, List.getElem?_cons_zero, List.getElem?_cons_succ]
                show wpQuiet _ _ _ _ [_, _, _, _, _, _, _, _, _, _] _
                repeat (go_big_quiet_step (fail))
                refine wpQuiet_nil ?_
                clear L2
                refine reg_call 10 _ (by kernel_rfl) rfl rfl ?_
                go_simp
                refine (KEY.out _).mono ?_
                rintro e x2 ⟨rfl, q2'⟩
                replace T := UpC.call T q2'
                refine ⟨T, ?_⟩
                clear q2'
                refine reg_seg (f := 0) (by kernel_rfl) [11, 12] _ _ _ T (by kernel_rfl) ?_
                simp only [pickL, List.filterMap_cons, List.filterMap_nil, List.getElem?_toArray, List.getElem?_cons_zero, List.getElem?_cons_succ]
                show wpQuiet _ _ _ _ [_, _] _
                repeat (go_big_quiet_step (fail))
                refine wpQuiet_nil ?_
                refine reg_end (by kernel_rfl) ?_
                refine hK1 _ _ ?_
                have HB8 := Lib.hid (HB7.out.trans (Below.mono T z7))
                clear T cb
                go_wp2_with fail
                go_roundw
                case rel => exact ⟨j + 1, by omega, by go_num, by rw [HY.out]; rfl, HB8.out⟩
                case measure => simp [intOf]; omega
              · have HN' := Lib.hid (HNO.out hno)
                clear HCO HYES HNO
                go_wp2_with fail
                go_roundw
                case rel => exact ⟨j + 1, by omega, by go_num, by rw [HN'.out], HB7.out⟩
                case measure => simp [intOf]; omega
            · have hjk : j = k := by omega
              subst hjk
              have hsub : ((j - m : Nat) : Int) = (j : Int) - m := by omega
              rw [HM.out]
              have z7 := Nat.le_trans z5 z6
              have HB7 := Lib.hid (HB5.out.trans (HB6.out.mono z5))
              have HR7 := Lib.hid (HR5.out.call HB6.out)
              go_wp2_with fail
              refine (waiting_any B p (losS (EX W gs j) (N + a)) (by rw [losS_len]; simp [EX]; omega) wr HR7.out).mono ?_
              rintro e w6 ⟨A6, c6, rfl, _, b6⟩
              rw [FL.out.2, HM.out]
              have z8 := Nat.le_trans z7 b6.size
              have HB8 := Lib.hid (HB7.out.trans (b6.mono z7))
              clear b6
              go_wp2_with fail
              refine (awake_any w6).mono ?_
              rintro e w7 ⟨rfl, b7⟩
              go_wp2_with fail
              go_ret
              exact ⟨rfl, by rw [HBB.out]; exact HB8.out.trans (b7.mono z8)⟩
end Go.Proofs.Ytgacpkbpbckgiaa
