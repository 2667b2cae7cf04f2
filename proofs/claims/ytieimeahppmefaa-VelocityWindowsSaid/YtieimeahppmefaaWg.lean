/-
  Velocity: walk over the law VelocityWindows. No condition but that the slice's length is a Go int and that its numbers are bytes.
-/
import Derived.Test.YtieimeahppmefaaPb
import Derived.Test.YtieimeahppmefaaWf
namespace Go.Proofs.Ytieimeahppmefaa
open Go.RowKit
set_option linter.unusedVariables false

def UW (gs : List Int) (j : Nat) : Us := ⟨kk, pre gs (j + 1), 1⟩
theorem UW_last (gs : List Int) : ∀ i, lastU (UW gs) i = pre gs i
  | 0 => rfl
  | i + 1 => rfl
theorem UW_good {gs : List Int} (h : ∀ g ∈ gs, 0 ≤ g ∧ g ≤ 255) (n : Nat) (hn : n ≤ 60) : GoodU (UW gs) 100000 n := by
  refine ⟨by decide, by decide, by omega, fun i _ => (show 1 ≤ kk.size ∧ kk.size ≤ 40 by decide), fun i hi => ?_, fun i _ => (show (0 : Int) ≤ 1 ∧ (1 : Int) ≤ maxAm by decide), fun i _ => ?_⟩
  · have := pre_bd h (i + 1)
    exact ⟨this.1, by unfold maxTime; show pre gs (i + 1) ≤ _; omega⟩
  · rw [UW_last]
    exact (pre_bd h i).2.2
theorem UW_us {gs : List Int} (h : ∀ g ∈ gs, 0 ≤ g ∧ g ≤ 255) (n : Nat) (hn : n ≤ 60) : stU (UW gs) 100000 n = ⟨100000, pre gs n, LU (UW gs) n⟩ := by
  unfold stU
  rw [UW_last, young_all]
  intro u hu
  unfold LU at hu
  obtain ⟨j, hj, rfl⟩ := List.mem_map.1 hu
  have h1 := pre_bd h n
  have h2 := pre_bd h (j + 1)
  show pre gs n - 100000 < pre gs (j + 1)
  omega

/-- What the tail of the law needs of the state behind the Adds. -/
structure WinFacts (s s1 : VS) (now n1 m1 c d : Int) (n : Nat) : Prop where
  ok : s.Ok
  c1 : cntN s kk now n1 = c
  c2 : cntN s kk now m1 = d
  c3 : cntN s kk now 100001 = 0
  c4 : cntN s kk now 0 = 0
  c5 : sumN s kk now n1 = c
  a1 : addE s kk now 9 = 0
  a2 : addS s kk now 9 = s1
  c6 : cntN s1 kk now n1 = c + 1
  r1 : remE s1 ⟨kk, now, 9⟩ = 0
  r2 : remS s1 ⟨kk, now, 9⟩ = s
  r3 : remE s ⟨kk, now, 9⟩ = 6
  r4 : remS s ⟨kk, now, 9⟩ = s
  len : s.us.length = n
  cd : c ≤ d
  b0 : 0 ≤ c
  b1 : c ≤ 60
theorem win_facts {gs : List Int} (h : ∀ g ∈ gs, 0 ≤ g ∧ g ≤ 255) (n : Nat) (hn : n ≤ 60) (n1 m1 : Int) (h1 : 1 ≤ n1) (h2 : n1 ≤ m1) (h3 : m1 ≤ 100000) :
    ∃ s1 c d, WinFacts (stU (UW gs) 100000 n) s1 (pre gs n) n1 m1 c d n := by
  have g := UW_good h n hn
  have ok := stU_ok g n (Nat.le_refl _)
  rw [UW_us h n hn] at ok ⊢
  have hp := pre_bd h n
  have ht : isT (pre gs n) := ⟨hp.1, by unfold maxTime; omega⟩
  have hall : ∀ u ∈ LU (UW gs) n, u.am = 1 := by
    intro u hu
    obtain ⟨j, hj, rfl⟩ := List.mem_map.1 hu
    rfl
  have hlow : ∀ u ∈ LU (UW gs) n, pre gs n - 100000 < u.at_ := by
    intro u hu
    obtain ⟨j, hj, rfl⟩ := List.mem_map.1 hu
    have h2 := pre_bd h (j + 1)
    show pre gs n - 100000 < pre gs (j + 1)
    omega
  have hy : young (pre gs n - (⟨100000, pre gs n, LU (UW gs) n⟩ : VS).h) (⟨100000, pre gs n, LU (UW gs) n⟩ : VS).us = LU (UW gs) n := young_all hlow
  have hno : (⟨kk, pre gs n, 9⟩ : Us) ∉ LU (UW gs) n := fun hu => absurd (show (9 : Int) = 1 from hall _ hu) (by decide)
  have w1 : winOk ⟨100000, pre gs n, LU (UW gs) n⟩ (pre gs n) n1 := ⟨h1, show n1 ≤ 100000 by omega, ht⟩
  have w2 : winOk ⟨100000, pre gs n, LU (UW gs) n⟩ (pre gs n) m1 := ⟨by omega, show m1 ≤ 100000 by omega, ht⟩
  have e1 : addE ⟨100000, pre gs n, LU (UW gs) n⟩ kk (pre gs n) 9 = 0 := addE_is ⟨by decide, by decide⟩ ⟨ht, Int.le_refl _⟩ ⟨by decide, by decide⟩ (by rw [hy, LU_len]; omega)
  have e2 : addS ⟨100000, pre gs n, LU (UW gs) n⟩ kk (pre gs n) 9 = ⟨100000, pre gs n, LU (UW gs) n ++ [⟨kk, pre gs n, 9⟩]⟩ := by
    unfold addS
    rw [if_pos e1, hy]
  have hin : inWin kk (pre gs n) n1 ⟨kk, pre gs n, 9⟩ = true := by
    unfold inWin
    simp
    omega
  refine ⟨_, (winL kk (pre gs n) n1 (LU (UW gs) n)).length, (winL kk (pre gs n) m1 (LU (UW gs) n)).length, ok, ?_, ?_, ?_, ?_, ?_, e1, e2, ?_, ?_, ?_, ?_, ?_, ?_, ?_, ?_, ?_⟩
  · unfold cntN; rw [if_pos w1]
  · unfold cntN; rw [if_pos w2]
  · unfold cntN; rw [if_neg (fun q => absurd q.2.1 (by show ¬ (100001 : Int) ≤ 100000; decide))]
  · unfold cntN; rw [if_neg (fun q => absurd q.1 (by decide))]
  · unfold sumN; rw [if_pos w1]
    exact sum_ones _ fun u hu => hall u (List.mem_filter.1 hu).1
  · unfold cntN
    rw [if_pos (show winOk ⟨100000, pre gs n, LU (UW gs) n ++ [⟨kk, pre gs n, 9⟩]⟩ (pre gs n) n1 from w1)]
    show ((winL kk (pre gs n) n1 (LU (UW gs) n ++ [⟨kk, pre gs n, 9⟩])).length : Int) = _
    rw [win_snoc, hin]
    simp
  · unfold remE; rw [ix_last]
  · unfold remS
    rw [ix_last]
    show (⟨100000, pre gs n, (LU (UW gs) n ++ [(⟨kk, pre gs n, 9⟩ : Us)]).eraseIdx (LU (UW gs) n).length⟩ : VS) = _
    rw [List.eraseIdx_append_of_length_le (Nat.le_refl _)]
    simp
  · unfold remE; rw [ix_none hno]
  · unfold remS; rw [ix_none hno]
  · exact LU_len _ _
  · exact_mod_cast win_more h2 _
  · omega
  · have := win_len kk (pre gs n) n1 (LU (UW gs) n)
    rw [LU_len] at this
    omega

set_option maxRecDepth 100000 in
set_option maxHeartbeats 1600000 in
theorem law_windows (A : Option Addr) (n c : Nat) (gs : List Int) (x y : Int) (w : World) (hz : gs.length = n) (hm : n ≤ 9223372036854775807) (hg : ∀ g ∈ gs, 0 ≤ g ∧ g ≤ 255) (hr : RD w A n (gs.map (Value.int .u8))) (hx0 : 0 ≤ x) (hx : x ≤ 65535) (hy0 : 0 ≤ y) (hy : y ≤ 65535) :
    Calls Try.prog 5 #[.slice A n c, .int .u16 x, .int .u16 y] w fun e w' => e = .returned (.bool true) ∧ Below w.heap.size w w' := by
  have HR := Lib.hid hr
  have HZ := Lib.hid hz
  have HG := Lib.hid hg
  obtain ⟨p, hp⟩ : ∃ p, w.heap.size = p := ⟨_, rfl⟩
  have HP := Lib.hid hp
  clear hr hz hg
  by_cases h60 : 60 < n
  · go_enter Try.func5, Try.ntmps5
    go_wp2_with fail
    refine (new_yes 100000 w (by decide) (by decide)).mono ?_
    rintro e w1 ⟨rfl, R1, b1⟩
    go_wp2_with (go_at_call 8; refine (awake_any _).mono ?_; rintro e w8 ⟨rfl, b8⟩)
    go_ret
    exact ⟨rfl, b1.trans (b8.mono b1.size)⟩
  · have h60' : n ≤ 60 := by omega
    clear h60
    go_enter Try.func5, Try.ntmps5
    go_wp2_with fail
    refine (new_yes 100000 w (by decide) (by decide)).mono ?_
    rintro e w1 ⟨rfl, R1, b1⟩
    have z1 := b1.size
    rw [hp] at R1 z1 b1 ⊢
    clear hp
    go_wp2_with fail
    have R1' : VRep w1 p p (stU (UW gs) 100000 0) := R1
    go_loopw [9, 10] (fun t i wr => ∃ k : Nat, k ≤ n ∧ i = .int .i64 k ∧ t = .int .i64 (pre gs k) ∧ VRep wr p p (stU (UW gs) 100000 k) ∧ p ≤ wr.heap.size ∧ Below p w wr) (fun _ i _ => n - (intOf i).toNat)
    case atStart => exact ⟨0, by omega, rfl, rfl, R1', z1, b1⟩
    case round =>
      clear R1 R1' z1 b1
      obtain ⟨k, hk, rfl, rfl, R, z, b⟩ := hrel
      by_cases hlt : k < n
      · obtain ⟨e1, e2⟩ := stU_add (UW_good HG.out n h60') hlt
        have F1 := Lib.hid e1
        have F2 := Lib.hid e2
        have OK := stU_ok (UW_good HG.out n h60') k hk
        have hkl : k < gs.length := by rw [HZ.out]; exact hlt
        obtain ⟨bb, off, rfl, hbl, hcell⟩ := HR.out.2 (by omega)
        have hc := (b.cell (p := ⟨bb, off + k, none⟩) (by rw [← HP.out]; exact hbl)).trans (hcell k (.int .u8 gs[k]) (by simp [hkl]))
        have hb1 := HG.out _ (List.getElem_mem hkl)
        have hb2 := pre_bd HG.out k
        have hs : pre gs (k + 1) = pre gs k + gs[k] := by rw [pre]; simp [List.getD, hkl]
        have HS := Lib.hid hs
        obtain ⟨q1, q2, q3⟩ := hb2
        obtain ⟨q4, q5⟩ := hb1
        clear hcell e1 e2 hs q3
        generalize gs[k] = v at hc q4 q5 HS
        go_wp2_with (
          go_at_call 9
          rw [← HS.out]
          refine (add_any p p _ OK kk (pre gs (k + 1)) 1 wr z R).mono ?_
          rintro e w2 ⟨rfl, R2, T2⟩
          rw [show addE (stU (UW gs) 100000 k) kk (pre gs (k + 1)) 1 = 0 from F1.out])
        go_roundw
        case rel => exact ⟨k + 1, by omega, by go_num, by first | rfl | rw [HS.out], by rw [← F2.out]; exact R2, Nat.le_trans z T2.size, b.trans T2.below⟩
        case measure => simp [intOf]; omega
      · have hkn : k = n := by omega
        have hf := win_facts HG.out n h60' (1 + x % 20000) (1 + x % 20000 + y % 20000) (by omega) (by omega) (by omega)
        have hb2 := pre_bd HG.out k
        rw [← hkn] at hf
        clear hkn
        obtain ⟨s1, c0, d0, F⟩ := hf
        have OK := F.ok
        generalize stU (UW gs) 100000 k = s at R F OK
        generalize pre gs k = now at F hb2 ⊢
        have hcd := F.cd; have hc0 := F.b0; have hc1 := F.b1
        have OK1 : s1.Ok := by rw [← F.a2]; exact OK.addS _ _ _
        have HF := Lib.hid F
        clear F
        go_wp2_with fail
        refine (count_any p p s OK kk now (1 + x % 20000) wr R).mono ?_
        rintro e w2 ⟨rfl, b2⟩
        rw [HF.out.c1]
        have R2 := VRep.call R b2
        go_wp2_with fail
        refine (count_any p p s OK kk now (1 + x % 20000 + y % 20000) w2 R2).mono ?_
        rintro e w3 ⟨rfl, b3⟩
        rw [HF.out.c2]
        have R3 := VRep.call R2 b3
        go_wp2_with fail
        refine (count_any p p s OK kk now 100001 w3 R3).mono ?_
        rintro e w4 ⟨rfl, b4⟩
        rw [HF.out.c3]
        have R4 := VRep.call R3 b4
        go_wp2_with fail
        refine (count_any p p s OK kk now 0 w4 R4).mono ?_
        rintro e w5 ⟨rfl, b5⟩
        rw [HF.out.c4]
        have R5 := VRep.call R4 b5
        go_wp2_with fail
        refine (sum_any p p s OK kk now (1 + x % 20000) w5 R5).mono ?_
        rintro e w6 ⟨rfl, b6⟩
        rw [HF.out.c5]
        have R6 := VRep.call R5 b6
        have bb : Below wr.heap.size wr w6 := b2.trans ((b3.mono b2.size).trans ((b4.mono (by have := b2.size; have := b3.size; omega)).trans ((b5.mono (by have := b2.size; have := b3.size; have := b4.size; omega)).trans (b6.mono (by have := b2.size; have := b3.size; have := b4.size; have := b5.size; omega)))))
        have b6' : Below p w w6 := b.trans (bb.mono z)
        have z6 : p ≤ w6.heap.size := Nat.le_trans z bb.size
        clear b2 b3 b4 b5 b6 R R2 R3 R4 R5 bb b z
        go_wp2_with fail
        refine (add_any p p s OK kk now 9 w6 z6 R6).mono ?_
        rintro e w7 ⟨rfl, R7, T7⟩
        rw [HF.out.a1]
        rw [HF.out.a2] at R7
        have z7 := Nat.le_trans z6 T7.size
        go_wp2_with fail
        refine (count_any p p s1 OK1 kk now (1 + x % 20000) w7 R7).mono ?_
        rintro e w8 ⟨rfl, b8⟩
        rw [HF.out.c6]
        have R8 := VRep.call R7 b8
        have z8 := Nat.le_trans z7 b8.size
        go_wp2_with fail
        refine (rem_any p p s1 OK1 kk now 9 w8 z8 R8).mono ?_
        rintro e w9 ⟨rfl, R9, T9⟩
        rw [HF.out.r1]
        rw [HF.out.r2] at R9
        have z9 := Nat.le_trans z8 T9.size
        go_wp2_with fail
        refine (rem_any p p s OK kk now 9 w9 z9 R9).mono ?_
        rintro e w10 ⟨rfl, R10, T10⟩
        rw [HF.out.r3]
        rw [HF.out.r4] at R10
        have z10 := Nat.le_trans z9 T10.size
        go_wp2_with fail
        refine (count_any p p s OK kk now (1 + x % 20000) w10 R10).mono ?_
        rintro e w11 ⟨rfl, b11⟩
        rw [HF.out.c1]
        have R11 := VRep.call R10 b11
        have z11 := Nat.le_trans z10 b11.size
        go_wp2_with fail
        refine (len_any p p s w11 R11).mono ?_
        rintro e w12 ⟨rfl, rfl⟩
        rw [HF.out.len]
        go_wp2_with (go_at_call 8; refine (awake_any _).mono ?_; rintro e w13 ⟨rfl, b13⟩)
        go_ret
        refine ⟨rfl, ?_⟩
        rw [HP.out]
        exact ((((((b6'.trans T7.below).trans (b8.mono z7)).trans T9.below).trans T10.below).trans (b11.mono z10)).trans (b13.mono z11))
end Go.Proofs.Ytieimeahppmefaa
