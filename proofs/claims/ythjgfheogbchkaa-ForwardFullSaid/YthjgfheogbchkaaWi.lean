/-
  Forward: walk over the law ForwardFull. Condition: a time from 0 to 255.
-/
import Derived.Test.YthjgfheogbchkaaWh
namespace Go.Proofs.Ythjgfheogbchkaa
open Go.RowKit
set_option linter.unusedVariables false

theorem keyB_toList (i : Nat) : (keyB i).toList = keyL i := by rw [ByteArray.toList_eq, keyB_data]
set_option maxRecDepth 100000 in
set_option maxHeartbeats 3200000 in
theorem law_full (a : Int) (ha : 0 ≤ a ∧ a ≤ 255) (w : World) : Calls Try.prog 3 #[.int .u8 a] w fun e w' => e = .returned (.bool true) ∧ Below w.heap.size w w' := by
  have HA := Lib.hid ha
  obtain ⟨a1, a2⟩ := ha
  go_enter Try.func3, Try.ntmps3
  go_wp2_with fail
  refine (new_ok 1 (by decide) (by decide) w).mono ?_
  rintro e w1 ⟨p, rfl, R1, b1⟩
  have z1 := b1.size
  obtain ⟨B, hBB⟩ : ∃ B, w.heap.size = B := ⟨_, rfl⟩
  rw [hBB] at R1 z1 b1
  have HBB := Lib.hid hBB
  replace R1 : FRep w1 B p (KF a 0) := R1
  have HR1 := Lib.hid R1
  have HB1 := Lib.hid b1
  clear R1 b1 hBB
  go_wp2_with fail
  go_loopw [5] (fun i wr => ∃ k : Nat, k ≤ 256 ∧ i = .int .i64 k ∧ FRep wr B p (KF a k) ∧ Turn B [43, 46] true w1 wr) (fun i _ => 256 - (intOf i).toNat)
  case atStart => exact ⟨0, by omega, rfl, HR1.out, Turn.refl _ _ _ _⟩
  case round =>
    obtain ⟨k, hk, rfl, R2, T2⟩ := hrel
    have HR2 := Lib.hid R2
    have HT2 := Lib.hid T2
    have z2 := Nat.le_trans z1 T2.size
    clear R2 T2
    by_cases hlt : k < 256
    · go_wp2_with fail
      refine (key_any k (by omega) wr).mono ?_
      rintro e w3 ⟨rfl, b3⟩
      have R3 := HR2.out.call b3
      have T3 := Lib.hid (HT2.out.call b3 z1)
      have z3 := Nat.le_trans z2 b3.size
      have hP := put_ok B p (KF a k) a (keyB k) ke (keyB_ok a HA.out k) (by rw [KF_mem (by omega) (by omega)]; omega) (by rw [KF_len]; exact hlt) (by rw [KF_kn]; omega) w3 z3 R3
      have HP := Lib.hid hP
      clear hP R3 b3
      go_wp2_with fail
      refine HP.out.mono ?_
      rintro e w4 ⟨rfl, R4, T4⟩
      rw [KF_succ] at R4
      have HR4 := Lib.hid R4
      have HT4 := Lib.hid (T3.out.trans T4)
      clear R4 T4
      go_wp2_with fail
      go_roundw
      case rel => exact ⟨k + 1, by omega, by go_num, HR4.out, HT4.out⟩
      case measure => simp [intOf]; omega
    · have hk6 : k = 256 := by omega
      obtain ⟨K, hK⟩ : ∃ K, KF a 256 = K := ⟨_, rfl⟩
      have HK := Lib.hid hK
      rw [hk6, hK] at HR2
      clear hK
      go_wp2_with fail
      refine (put_full B p K 0 km ke ⟨by decide, by decide, by decide, by decide⟩ (by rw [← HK.out]; exact km_not a 256) (by rw [← HK.out, KF_len]; omega) wr HR2.out).mono ?_
      rintro e w3 ⟨rfl, rfl⟩
      go_wp2_with fail
      refine (key_any 3 (by omega) wr).mono ?_
      rintro e w3 ⟨rfl, b3⟩
      have R3 := HR2.out.call b3
      have T3 := Lib.hid (HT2.out.call b3 z1)
      have z3 := Nat.le_trans z2 b3.size
      have HP := Lib.hid (put_exists B p K 0 (keyB 3) ke (keyB_ok 0 (by omega) 3) (by rw [← HK.out, KF_mem (by omega) (by omega)]; omega) w3 R3)
      have HR3 := Lib.hid R3
      clear R3 b3
      generalize keyB 3 = k3 at HP ⊢
      go_wp2_with fail
      refine HP.out.mono ?_
      rintro e w4 ⟨rfl, rfl⟩
      go_wp2_with fail
      refine (key_any 0 (by omega) w3).mono ?_
      rintro e w4 ⟨rfl, b4⟩
      have R4 := HR3.out.call b4
      have T4 := Lib.hid (T3.out.call b4 z1)
      have z4 := Nat.le_trans z3 b4.size
      have HP := Lib.hid (ack_ok B p K (keyB 0) 0 (by rw [← HK.out]; exact KF_find a) (by rw [← HK.out, KF_len]; omega) w4 z4 R4)
      clear R4 b4
      generalize keyB 0 = k0 at HP ⊢
      go_wp2_with fail
      refine HP.out.mono ?_
      rintro e w5 ⟨rfl, R5, T5⟩
      replace R5 : FRep w5 B p (KD a) := by
        have h : ({ K with ws := K.ws.take 0 ++ K.ws.drop (0 + 1) } : FQ) = KD a := by
          rw [← HK.out]
          rfl
        rw [← h]
        exact R5
      have T5' := Lib.hid (T4.out.trans T5)
      have z5 := Nat.le_trans z4 T5.size
      have HP := Lib.hid (put_ok B p (KD a) 0 km ke ⟨by decide, by decide, by decide, by decide⟩ (km_not a 256) (by rw [KD_len]; omega) (by rw [show (KD a).kn = (KF a 256).kn from rfl, KF_kn]; omega) w5 z5 R5)
      clear R5 T5
      go_wp2_with fail
      refine HP.out.mono ?_
      rintro e w6 ⟨rfl, R6, T6⟩
      replace R6 : FRep w6 B p (KE a) := R6
      have T6' := Lib.hid (T5'.out.trans T6)
      have z6 := Nat.le_trans z5 T6.size
      have HP := Lib.hid (poll_any B p (KE a) (KE_ok a) 255 (by decide) w6 z6 R6)
      clear R6 T6
      go_wp2_with fail
      refine HP.out.mono ?_
      rintro e w7 ⟨A7, c7, rfl, W7, R7, T7⟩
      replace W7 : rowL w7 w6.heap.size 32 3 A7 (KI a).length c7 ((KI a).flatMap itC) := W7
      rw [show (pollI 255 (KE a).ws).length = 256 from KI_len HA.out]
      rw [KI_len HA.out] at W7
      have HW := Lib.hid W7
      have T7' := Lib.hid (T6'.out.trans T7)
      have z7 := Nat.le_trans z6 T7.size
      obtain ⟨g, rfl, _, _, _, _⟩ := W7.cells (by omega)
      clear W7 R7 T7
      go_wp2_with fail
      go_loopw [7] (fun i wr => ∃ j : Nat, j ≤ 255 ∧ i = .int .i64 j ∧ Below w7.heap.size w7 wr) (fun i _ => 255 - (intOf i).toNat)
      case atStart => exact ⟨0, by omega, rfl, Below.refl _ _⟩
      case round =>
        obtain ⟨j, hj, rfl, hb⟩ := hrel
        have HB := Lib.hid hb
        have zb := hb.size
        clear hb
        by_cases hlt2 : j < 255
        · have HC : ∀ n : Cls (UpC wr), n.val.cell? ⟨g, j * 3, none⟩ = some (.string (keyB (j + 1))) := by
            intro n
            obtain ⟨g', e, _, _, hc, _⟩ := ((HW.out.call HB.out).call n.2).cells (by omega)
            injection e with e
            injection e with e
            subst e
            have h0 := atM itC 3 itC3 _ j _ 0 (KI_at HA.out hlt2) (by decide)
            exact hc (j * 3) _ (by simpa [itC] using h0)
          have i1 : IntKind.i64.wrap ((j : Int) + 1) = j + 1 := IntWalk.i64_in _ (by omega)
          go_wp2_with fail
          have HKEY : Hid (∀ x : World, Calls Try.prog 8 #[.int .i64 ((j : Int) + 1)] x fun e w' => e = .returned (.string (keyB (j + 1))) ∧ Below x.heap.size x w') := Lib.hid (fun x => by
            have := key_any (j + 1) (by omega) x
            simpa using this)
          generalize keyB (j + 1) = kj at HC HKEY
          have i5 : (j : Int) < 256 := by omega
          rename_i K0 hKK
          refine wp_region_reg (UpC wr) 9 rfl (by kernel_rfl) ?_
          have T : UpC wr wr.drew := (Below.refl _ _).drew
          haveI : Nonempty (Cls (UpC wr)) := ⟨⟨_, T⟩⟩
          refine reg_seg (f := 2) (by kernel_rfl) [0, 1, 2, 3, 4, 5, 6] _ _ _ T (by kernel_rfl) ?_
          simp only [pickL, List.filterMap_cons, List.filterMap_nil, List.getElem?_toArray, List.getElem?_cons_zero, List.getElem?_cons_succ]
          show wpQuiet _ _ _ _ [_, _, _, _, _, _, _] _
          repeat (go_big_quiet_step (fail))
          refine wpQuiet_nil ?_
          clear HC
          refine reg_call 7 _ (by kernel_rfl) rfl rfl ?_
          go_simp
          refine (HKEY.out _).mono ?_
          rintro e x ⟨rfl, b8⟩
          have T := T.call b8
          have T8 := T
          refine ⟨T, ?_⟩
          refine reg_call 8 _ (by kernel_rfl) rfl rfl ?_
          go_simp
          refine reg_end (by kernel_rfl) ?_
          refine hKK _ _ ?_
          have H8 := Lib.hid (HB.out.trans (Below.mono T8 zb))
          clear T T8 b8
          go_wp2_with fail
          go_roundw
          case rel => exact ⟨j + 1, by omega, by go_num, H8.out⟩
          case measure => simp [intOf]; omega
        · have hj5 : j = 255 := by omega
          subst hj5
          have hc : wr.cell? ⟨g, 255 * 3, none⟩ = some (.string km) := by
            obtain ⟨g', e, _, _, hc, _⟩ := (HW.out.call HB.out).cells (by omega)
            injection e with e
            injection e with e
            subst e
            have h0 := atM itC 3 itC3 _ 255 _ 0 (KI_last HA.out) (by decide)
            exact hc (255 * 3) _ (by simpa [itC] using h0)
          go_wp2_with fail
          refine (awake_any wr).mono ?_
          rintro e w8 ⟨rfl, b8⟩
          go_wp2_with fail
          go_ret
          rw [HBB.out]
          exact ⟨rfl, (HB1.out.trans T7'.out.below).trans ((HB.out.mono z7).trans (b8.mono (by omega)))⟩
end Go.Proofs.Ythjgfheogbchkaa
