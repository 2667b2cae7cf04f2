/-
  Timer: walk over the law TimerOrder. Condition: the times are a slice that lies as the language lays it.
-/
import Derived.Test.YtmkcpgdjbbcigaaPb
namespace Go.Proofs.Ytmkcpgdjbbcigaa
open Go.RowKit
set_option linter.unusedVariables false

theorem TRep.grownL {w w' : World} {B p : Nat} {s : TS} (h : TRep w B p s) {base n c size : Nat} {e : TypeId} {A : Option Addr} {xs : List Value} (hr : rowL w base e size A n c xs) (h1 : e ≠ 52) (h2 : e ≠ 61) (hg : w.grownBy w' (blkOf A)) : TRep w' B p s := by
  obtain ⟨hB, A0, c0, B0, hr0⟩ := h
  exact ⟨hB, A0, c0, B0.grownL hr h1 hg, hr0.grown hr (Ne.symm h2) hg⟩
theorem TRep.turnOther {w w' : World} {B B' p : Nat} {s : TS} {T : List TypeId} {m : Bool} (h : TRep w B p s) (k : Turn B' T m w w') (h1 : T.contains 52 = false) (h2 : T.contains 61 = false) : TRep w' B p s := by
  obtain ⟨hB, A0, c0, B0, hr0⟩ := h
  exact ⟨hB, A0, c0, B0.turn k h1, hr0.turn k h2⟩
theorem below_grownL {B : Nat} {w0 w w' : World} (hb : Below B w0 w) {base n c size : Nat} {e : TypeId} {A : Option Addr} {xs : List Value} (hr : rowL w base e size A n c xs) (h : B ≤ base) (hB : B ≤ w.heap.size) (hg : w.grownBy w' (blkOf A)) : Below B w0 w' :=
  hb.grown hg hB fun q hq => by
    rcases hr.2 with ⟨rfl, _⟩ | ⟨g, cur, rfl, hbg, _⟩
    · simp [blkOf] at hq
    · simp [blkOf] at hq
      omega
theorem idsV_one (l : List Ti) : ∀ u ∈ idsV l, u.oneCell' = true := by
  intro u hu
  obtain ⟨x, _, rfl⟩ := List.mem_map.1 hu
  rfl
theorem strs_one (l : List ByteArray) : ∀ u ∈ l.map Value.string, u.oneCell' = true := by
  intro u hu
  obtain ⟨x, _, rfl⟩ := List.mem_map.1 hu
  rfl

set_option maxRecDepth 100000 in
set_option maxHeartbeats 3200000 in
theorem law_order (A : Option Addr) (n c : Nat) (gs : List Int) (y : Int) (w : World) (hz : gs.length = n) (hm : n ≤ 9223372036854775807) (hg : ∀ g ∈ gs, 0 ≤ g ∧ g ≤ 255) (hr : RD w A n (gs.map (Value.int .u8))) (hy : 0 ≤ y ∧ y ≤ 255) :
    Calls Try.prog 5 #[.slice A n c, .int .u8 y] w fun e w' => e = .returned (.bool true) ∧ Below w.heap.size w w' := by
  have HR := Lib.hid hr
  have HZ := Lib.hid hz
  have HG : Hid (∀ i, 0 ≤ gs.getD i 0 ∧ gs.getD i 0 ≤ 255) := Lib.hid (fun i => by
    rcases Nat.lt_or_ge i gs.length with h | h
    · have : gs.getD i 0 = gs[i] := by simp [List.getD, h]
      rw [this]
      exact hg _ (List.getElem_mem h)
    · have : gs.getD i 0 = 0 := by simp [List.getD, h]
      rw [this]
      omega)
  obtain ⟨y1, y2⟩ := hy
  clear hr hz hg
  by_cases h60 : 60 < n
  · have h1 : (60 : Int) < n := by omega
    go_enter Try.func5, Try.ntmps5
    go_wp2_with (go_at_call 9; refine (awake_any _).mono ?_; rintro e w' ⟨rfl, b⟩)
    go_ret
    exact ⟨rfl, b⟩
  · have hn : n ≤ 60 := by omega
    clear h60
    go_enter Try.func5, Try.ntmps5
    go_wp2_with fail
    refine (new_ok w).mono ?_
    rintro e w1 ⟨rfl, R1, b1⟩
    obtain ⟨p, hp⟩ : ∃ p, w.heap.size = p := ⟨_, rfl⟩
    rw [hp] at R1 b1 ⊢
    have z1 : p ≤ w1.heap.size := by have := b1.size; omega
    have HP := Lib.hid hp
    replace R1 : TRep w1 p p ⟨0, SL gs 0⟩ := by
      unfold SL
      rw [SLn_zero]
      exact R1
    have HR1 := Lib.hid R1
    have HB1 := Lib.hid b1
    clear R1 b1 hp
    go_wp2_with fail
    go_loopw [6] (fun i wr => ∃ k : Nat, k ≤ n ∧ i = .int .i64 k ∧ TRep wr p p ⟨0, SL gs k⟩ ∧ Below p w wr ∧ p ≤ wr.heap.size) (fun i _ => n - (intOf i).toNat)
    case atStart => exact ⟨0, by omega, rfl, HR1.out, HB1.out, z1⟩
    case round =>
      obtain ⟨k, hk, rfl, R2, b2, z2⟩ := hrel
      have HR2 := Lib.hid R2
      have HB2 := Lib.hid b2
      clear R2 b2
      by_cases hlt : k < n
      · have HS := Lib.hid (SL_set HG.out (k := k) (by omega))
        obtain ⟨bb, off, rfl, hbl, hcell⟩ := HR.out.2 (by omega)
        have hv := hcell k (.int .u8 (gs.getD k 0)) (by
          have hkl : k < gs.length := by rw [HZ.out]; exact hlt
          simp [List.getD, hkl])
        have HC := fun q : Cls (fun x => Turn p [52, 61] false wr x) => (Below.cell (HB2.out.trans q.2.below) (p := ⟨bb, off + k, none⟩) (by rw [← HP.out]; exact hbl)).trans hv
        obtain ⟨v1, v2⟩ := HG.out k
        clear hcell hv
        generalize gs.getD k 0 = v at HC HS v1 v2
        go_wp2_with fail
        rename_i K0 hKK
        refine wp_region_reg (fun x => Turn p [52, 61] false wr x) 10 rfl (by kernel_rfl) ?_
        have T : Turn p [52, 61] false wr wr.drew := (Turn.refl _ _ _ _).drew
        haveI : Nonempty (Cls (fun x => Turn p [52, 61] false wr x)) := ⟨⟨_, T⟩⟩
        refine reg_seg (f := 3) (by kernel_rfl) [0, 1, 3, 4, 5, 6, 7] _ _ _ T (by kernel_rfl) ?_
        simp only [pickL, List.filterMap_cons, List.filterMap_nil, List.getElem?_toArray, List.getElem?_cons_zero, List.getElem?_cons_succ]
        show wpQuiet _ _ _ _ [_, _, _, _, _, _, _] _
        repeat (go_big_quiet_step (fail))
        refine wpQuiet_nil ?_
        clear HC
        have R3 := TRep.drewN HR2.out 1
        refine reg_call 2 _ (by kernel_rfl) rfl rfl ?_
        go_simp
        refine (name_any k (by omega) _).mono ?_
        rintro e x1 ⟨rfl, c1⟩
        have R4 := TRep.call R3 c1
        replace T := Turn.call T c1 z2
        refine ⟨T, ?_⟩
        have HQ := Lib.hid (set_any p p ⟨0, SL gs k⟩ (nameB k) v x1 (Nat.le_trans z2 T.size) R4)
        clear R3 R4 c1
        refine reg_call 8 _ (by kernel_rfl) rfl rfl ?_
        go_simp
        refine HQ.out.mono ?_
        rintro e x2 ⟨rfl, R5, T5⟩
        rw [HS.out.1]
        rw [HS.out.2] at R5
        replace T := T.trans T5
        have HR5 := Lib.hid R5
        clear R5 T5
        refine ⟨T, ?_⟩
        refine reg_seg (f := 0) (by kernel_rfl) [9] _ _ _ T (by kernel_rfl) ?_
        simp only [pickL, List.filterMap_cons, List.filterMap_nil, List.getElem?_toArray, List.getElem?_cons_zero, List.getElem?_cons_succ]
        show wpQuiet _ _ _ _ [_] _
        repeat (go_big_quiet_step (fail))
        refine wpQuiet_nil ?_
        refine reg_end (by kernel_rfl) ?_
        refine hKK _ _ ?_
        have z5 := Nat.le_trans z2 T.size
        have HB5 := Lib.hid (HB2.out.trans T.below)
        clear T
        go_wp2_with fail
        go_roundw
        case rel => exact ⟨k + 1, by omega, by go_num, HR5.out, HB5.out, z5⟩
        case measure => simp [intOf]; omega
      · have hkn : k = n := by omega
        subst hkn
        have HL := Lib.hid (SL_len HG.out k)
        have HD := Lib.hid (due_last HG.out k)
        go_wp2_with fail
        obtain ⟨S, hS⟩ : ∃ S, SL gs k = S := ⟨_, rfl⟩
        have HSS := Lib.hid hS
        rw [hS] at HR2 HL HD
        clear hS
        go_loopw [7, 8] (fun o i wr2 => ∃ (m : Nat) (u now : Int) (A2 : Option Addr) (c2 : Nat), m ≤ k ∧ o = .slice A2 m c2 ∧ i = .int .i64 u ∧ now ≤ u ∧ now ≤ 255 ∧ 0 ≤ u ∧ u ≤ 600 ∧ rowL wr2 p 9 1 A2 m c2 (idsV (S.take m)) ∧ TRep wr2 p p ⟨now, S.drop m⟩ ∧ Below p w wr2 ∧ p ≤ wr2.heap.size) (fun _ i _ => 256 - (intOf i).toNat)
        case atStart => exact ⟨0, 0, 0, none, 0, by omega, rfl, rfl, by omega, by omega, by omega, by omega, rowL.nil _ _ _ _, HR2.out, HB2.out, z2⟩
        case round =>
          obtain ⟨m, u, now, A2, c2, hmk, rfl, rfl, hnu, hn5, hu0, hu6, I2, R3, b3, z3⟩ := hrel
          have HI2 := Lib.hid I2
          have HR3 := Lib.hid R3
          have HB3 := Lib.hid b3
          clear I2 R3 b3
          by_cases hlu : u < 256
          · obtain ⟨d, q1, q2, q3, q4, q5⟩ := due_step (S := S) (m := m) hnu (by omega)
            have hd : m + d ≤ k := by have := HL.out; omega
            have HQ2 := Lib.hid q2
            have HQ3 := Lib.hid q3
            have HQ4 := Lib.hid q4
            have HDu := Lib.hid (due_any p p ⟨now, S.drop m⟩ u (by show (S.drop m).length < 1000; rw [List.length_drop, HL.out]; omega) wr z3 HR3.out)
            clear q1 q2 q3 q4 q5
            go_wp2_with (first
              | (go_at_call 19
                 refine HDu.out.mono ?_
                 rintro e w4 ⟨A4, c4, rfl, W4, R4, T4⟩
                 rw [HQ2.out] at R4
                 rw [HQ3.out] at W4 ⊢
                 have HW4 := Lib.hid W4
                 have HR4 := Lib.hid R4
                 have I4 := Lib.hid (HI2.out.turn T4 rfl)
                 have b4 := Lib.hid (HB3.out.trans T4.below)
                 have z4 := Nat.le_trans z3 T4.size
                 clear W4 R4 T4)
              | (at_builtin
                 go_must (refine wpList_appL strE _ _ rfl rfl rfl rfl I4.out HW4.out.rd (strs_one _) (by unfold maxLen; omega) (by omega) z4 ?_)
                 intro A5 c5 w5 hr5 hg5 hor
                 rw [HQ4.out] at hr5
                 have HI5 := Lib.hid hr5
                 have HR5 := Lib.hid (HR4.out.grownL I4.out (by decide) (by decide) hg5)
                 have HB5 := Lib.hid (below_grownL b4.out I4.out (Nat.le_refl _) z4 hg5)
                 have z5 := Nat.le_trans z4 hg5.size
                 clear hr5 hg5 hor))
            go_roundw
            case rel => exact ⟨m + d, u + (1 + y), u, A5, c5, hd, rfl, rfl, by omega, by omega, by omega, by omega, HI5.out, HR5.out, HB5.out, z5⟩
            case measure => simp [intOf]; omega
          · obtain ⟨d, q1, q2, q3, q4, q5⟩ := due_step (S := S) (m := m) (u := 256) (now := now) (by omega) (by omega)
            have hd : m + d = k := by rw [q5, HD.out m]; omega
            have HQ2 := Lib.hid q2
            have HQ3 := Lib.hid q3
            have HQ4 := Lib.hid q4
            have HK := Lib.hid hd
            have HDu := Lib.hid (due_any p p ⟨now, S.drop m⟩ 256 (by show (S.drop m).length < 1000; rw [List.length_drop, HL.out]; omega) wr z3 HR3.out)
            have HE : Hid ((S.drop k).length = 0) := Lib.hid (by rw [List.length_drop, HL.out]; omega)
            have HT : Hid (S.take k = S) := Lib.hid (List.take_of_length_le (by rw [HL.out]; omega))
            clear q1 q2 q3 q4 q5 hd
            go_wp2_with (first
              | (go_at_call 19
                 refine HDu.out.mono ?_
                 rintro e w4 ⟨A4, c4, rfl, W4, R4, T4⟩
                 rw [HQ2.out, HK.out] at R4
                 rw [HQ3.out] at W4 ⊢
                 have HW4 := Lib.hid W4
                 have HR4 := Lib.hid R4
                 have I4 := Lib.hid (HI2.out.turn T4 rfl)
                 have b4 := Lib.hid (HB3.out.trans T4.below)
                 have z4 := Nat.le_trans z3 T4.size
                 clear W4 R4 T4)
              | (at_builtin
                 have hdk := HK.out
                 go_must (refine wpList_appL strE _ _ rfl rfl rfl rfl I4.out HW4.out.rd (strs_one _) (by unfold maxLen; omega) (by omega) z4 ?_)
                 clear hdk
                 intro A5 c5 w5 hr5 hg5 hor
                 rw [HQ4.out, HK.out, HT.out] at hr5
                 rw [HK.out]
                 have HI5 := Lib.hid hr5
                 have R5 := HR4.out.grownL I4.out (by decide) (by decide) hg5
                 have HL5 := Lib.hid (len_any p p ⟨256, S.drop k⟩ w5 R5)
                 have HB5 := Lib.hid (below_grownL b4.out I4.out (Nat.le_refl _) z4 hg5)
                 have z5 := Nat.le_trans z4 hg5.size
                 clear hr5 hg5 hor R5)
              | (go_at_call 27
                 refine HL5.out.mono ?_
                 rintro e w' ⟨rfl, rfl⟩
                 rw [HE.out]))
            go_loopw [9, 10] (fun q i wr => ∃ a : Nat, a ≤ 256 ∧ i = .int .i64 a ∧ q = .int .i64 (cntA gs k a 0) ∧ Below w5.heap.size w5 wr) (fun _ i _ => 256 - (intOf i).toNat)
            case atStart => exact ⟨0, by omega, rfl, by rw [cntA_zero]; rfl, Below.refl _ _⟩
            case round =>
              obtain ⟨a, ha, rfl, rfl, b6⟩ := hrel
              have HB6 := Lib.hid b6
              have z6 := b6.size
              clear b6
              by_cases hla : a < 256
              · go_wp2_with fail
                rw [decide_eq_true (show (a : Int) < 256 by omega)]
                go_loopw [9, 11] (fun q i wr' => ∃ j : Nat, j ≤ k ∧ i = .int .i64 j ∧ q = .int .i64 (cntA gs k a j) ∧ Below w5.heap.size w5 wr') (fun _ i _ => k - (intOf i).toNat)
                case atStart => exact ⟨0, by omega, rfl, rfl, HB6.out⟩
                case round =>
                  obtain ⟨j, hj, rfl, rfl, b7⟩ := hrel
                  have HB7 := Lib.hid b7
                  have z7 := b7.size
                  clear b7
                  by_cases hlj : j < k
                  · obtain ⟨bb, off, rfl, hbl, hcell⟩ := HR.out.2 (by omega)
                    have hv := hcell j (.int .u8 (gs.getD j 0)) (by
                      have hkl : j < gs.length := by rw [HZ.out]; exact hlj
                      simp [List.getD, hkl])
                    have hc := (Below.cell (HB5.out.trans (HB7.out.mono z5)) (p := ⟨bb, off + j, none⟩) (by rw [← HP.out]; exact hbl)).trans hv
                    obtain ⟨v1, v2⟩ := HG.out j
                    clear hcell hv
                    by_cases hva : gs.getD j 0 = (a : Int)
                    · have hat := cntA_at hla hlj hva
                      have hlt2 := cntA_lt HG.out hla hlj hva
                      have HCy := Lib.hid (cntA_yes (n := k) hva)
                      rw [hva] at hc
                      rw [HSS.out] at hat
                      obtain ⟨q, hq⟩ : ∃ q, cntA gs k a j = q := ⟨_, rfl⟩
                      rw [hq] at hat hlt2 HCy ⊢
                      obtain ⟨g5, e5, _, l5, c5', _⟩ := HI5.out.cells (by omega)
                      have ho := c5' q (.string (nameB j)) (by unfold idsV; rw [List.getElem?_map, hat]; rfl)
                      subst e5
                      have HO := fun x : Cls (UpC wr) => (Below.cell (HB7.out.trans (Below.mono x.2 z7)) (p := ⟨g5, q, none⟩) l5).trans ho
                      have HCQ := Lib.hid hq
                      clear c5' ho hat hva v1 v2 hq
                      go_wp2_with fail
                      rename_i K0 hKK
                      refine wp_region_reg (UpC wr) 7 rfl (by kernel_rfl) ?_
                      have T : UpC wr wr.drew := (Below.refl _ _).drew
                      haveI : Nonempty (Cls (UpC wr)) := ⟨⟨_, T⟩⟩
                      refine reg_seg (f := 2) (by kernel_rfl) [0, 1, 2, 3, 4] _ _ _ T (by kernel_rfl) ?_
                      simp only [pickL, List.filterMap_cons, List.filterMap_nil, List.getElem?_toArray, List.getElem?_cons_zero, List.getElem?_cons_succ]
                      show wpQuiet _ _ _ _ [_, _, _, _, _] _
                      repeat (go_big_quiet_step (fail))
                      refine wpQuiet_nil ?_
                      clear HO
                      have HNA := Lib.hid (name_any j (by omega))
                      generalize nameB j = nj at HNA ⊢
                      refine reg_call 5 _ (by kernel_rfl) rfl rfl ?_
                      go_simp
                      refine (HNA.out _).mono ?_
                      rintro e x1 ⟨rfl, q1⟩
                      replace T := UpC.call T q1
                      refine ⟨T, ?_⟩
                      clear q1
                      refine reg_seg (f := 0) (by kernel_rfl) [6] _ _ _ T (by kernel_rfl) ?_
                      simp only [pickL, List.filterMap_cons, List.filterMap_nil, List.getElem?_toArray, List.getElem?_cons_zero, List.getElem?_cons_succ]
                      show wpQuiet _ _ _ _ [_] _
                      repeat (go_big_quiet_step (fail))
                      refine wpQuiet_nil ?_
                      refine reg_end (by kernel_rfl) ?_
                      refine hKK _ _ ?_
                      have HB8 := Lib.hid (HB7.out.trans (Below.mono T z7))
                      clear T
                      go_wp2_with fail
                      go_roundw
                      case rel => exact ⟨j + 1, by omega, by go_num, by rw [HCy.out]; rfl, HB8.out⟩
                      case measure => simp [intOf]; omega
                    · have HCn := Lib.hid (cntA_no (n := k) hva)
                      obtain ⟨v, hvv⟩ : ∃ v, gs.getD j 0 = v := ⟨_, rfl⟩
                      rw [hvv] at hc hva v1 v2
                      clear hvv
                      go_wp2_with fail
                      go_roundw
                      case rel => exact ⟨j + 1, by omega, by go_num, by rw [HCn.out], HB7.out⟩
                      case measure => simp [intOf]; omega
                  · have hjk : j = k := by omega
                    go_wp2_with fail
                    go_roundw
                    case rel => exact ⟨a + 1, by omega, by go_num, by rw [cntA_next, hjk], HB7.out⟩
                    case measure => simp [intOf]; omega
              · go_wp2_with (go_at_call 9; refine (awake_any _).mono ?_; rintro e w8 ⟨rfl, b8⟩)
                go_ret
                exact ⟨rfl, by rw [HP.out]; exact HB5.out.trans ((HB6.out.mono z5).trans (b8.mono (by omega)))⟩
end Go.Proofs.Ytmkcpgdjbbcigaa
