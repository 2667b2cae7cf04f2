/-
  Velocity: walk over the law VelocityExact. No condition but that the slice's length is a Go int and that its numbers are bytes.
-/
import Derived.Test.YtieimeahppmefaaWh
namespace Go.Proofs.Ytieimeahppmefaa
open Go.RowKit
set_option linter.unusedVariables false

set_option maxRecDepth 100000 in
set_option maxHeartbeats 3200000 in
theorem law_exact (A : Option Addr) (n c : Nat) (gs : List Int) (x y z : Int) (w : World) (hz : gs.length = n) (hm : n ≤ 9223372036854775807) (hg : ∀ g ∈ gs, 0 ≤ g ∧ g ≤ 255) (hr : RD w A n (gs.map (Value.int .u8))) (hx0 : 0 ≤ x) (hx : x ≤ 65535) (hy0 : 0 ≤ y) (hy : y ≤ 65535) (hz0 : 0 ≤ z) (hzz : z ≤ 65535) :
    Calls Try.prog 3 #[.agg #[.slice A n c, .int .u16 x, .int .u16 y, .int .u16 z]] w fun e w' => e = .returned (.bool true) ∧ Below w.heap.size w w' := by
  have HR := Lib.hid hr
  have HZ := Lib.hid hz
  have HG := Lib.hid hg
  obtain ⟨p, hp⟩ : ∃ p, w.heap.size = p := ⟨_, rfl⟩
  have HP := Lib.hid hp
  have hH1 : 1 ≤ 1 + x % 1000 := by omega
  have hH2 : 1 + x % 1000 ≤ 1000 := by omega
  clear hr hz hg
  have hq0 : 0 ≤ y % (1 + x % 1000) := Int.emod_nonneg _ (by omega)
  have hq1 : y % (1 + x % 1000) < 1 + x % 1000 := Int.emod_lt_of_pos _ (by omega)
  by_cases h60 : 60 < n
  · go_enter Try.func3, Try.ntmps3
    go_wp2_with fail
    refine (new_yes (1 + x % 1000) (w.alloc (.cells #[.slice A n c, .int .u16 x, .int .u16 y, .int .u16 z] 25)) (by omega) (by omega)).mono ?_
    rintro e w1 ⟨rfl, R1, b1⟩
    go_wp2_with (go_at_call 8; refine (awake_any _).mono ?_; rintro e w8 ⟨rfl, b8⟩)
    go_ret
    refine ⟨rfl, ?_⟩
    have bw : Below w.heap.size w w1 := ((Below.refl _ _).alloc (Nat.le_refl _) _).trans (b1.mono (by simp))
    exact bw.trans (b8.mono bw.size)
  · have h60' : n ≤ 60 := by omega
    clear h60
    go_enter Try.func3, Try.ntmps3
    go_wp2_with fail
    refine (new_yes (1 + x % 1000) (w.alloc (.cells #[.slice A n c, .int .u16 x, .int .u16 y, .int .u16 z] 25)) (by omega) (by omega)).mono ?_
    rintro e w1 ⟨rfl, R1, b1⟩
    have BX := (Blk.new w 25 #[.slice A n c, .int .u16 x, .int .u16 y, .int .u16 z]).call b1
    have bw : Below w.heap.size w w1 := ((Below.refl _ _).alloc (Nat.le_refl _) _).trans (b1.mono (by simp))
    have z1 := b1.size
    have hsz : (w.alloc (.cells #[.slice A n c, .int .u16 x, .int .u16 y, .int .u16 z] 25)).heap.size = p + 1 := by rw [World.size_alloc, hp]
    rw [hsz] at R1 z1 ⊢
    rw [hp] at bw BX
    clear hp b1 hsz
    go_wp2_with fail
    have R1' : VRep w1 (p + 1) (p + 1) (stU (UE gs) (1 + x % 1000) 0) := R1
    go_loopw [8, 9, 10] (fun t v i wr => ∃ k : Nat, k ≤ n ∧ i = .int .i64 k ∧ t = .int .i64 (pre gs k) ∧ wr.ownsRow p 3 1 v k (tm gs k) ∧ Blk wr p 25 #[.slice A n c, .int .u16 x, .int .u16 y, .int .u16 z] ∧ VRep wr (p + 1) (p + 1) (stU (UE gs) (1 + x % 1000) k) ∧ p + 1 ≤ wr.heap.size ∧ Below p w wr) (fun _ _ i _ => n - (intOf i).toNat)
    case atStart => exact ⟨0, by omega, rfl, rfl, World.ownsRow_nil _ _ _ _, BX, R1', z1, bw⟩
    case round =>
      clear R1 R1' z1 bw BX
      obtain ⟨k, hk, rfl, rfl, own, BX, R, zz, b⟩ := hrel
      by_cases hlt : k < n
      · obtain ⟨e1, e2⟩ := stU_add (UE_good HG.out n h60' _ hH1 hH2) hlt
        have F1 := Lib.hid e1
        have F2 := Lib.hid e2
        have OK := stU_ok (UE_good HG.out n h60' _ hH1 hH2) k hk
        have hkl : k < gs.length := by rw [HZ.out]; exact hlt
        obtain ⟨bb, off, rfl, hbl, hcell⟩ := HR.out.2 (by omega)
        have hc := (b.cell (p := ⟨bb, off + k, none⟩) (by rw [← HP.out]; exact hbl)).trans (hcell k (.int .u8 gs[k]) (by simp [hkl]))
        have hb1 := HG.out _ (List.getElem_mem hkl)
        have hb2 := pre_bd HG.out k
        have hs : pre gs (k + 1) = pre gs k + gs[k] := by rw [pre]; simp [List.getD, hkl]
        have HS := Lib.hid hs
        obtain ⟨q1, q2, q3⟩ := hb2
        obtain ⟨q4, q5⟩ := hb1
        clear hcell e1 e2 hs q3
        generalize gs[k] = v at hc q4 q5 HS
        go_wp2_with (first
          | (at_builtin
             go_must (refine wpList_push intE _ _ rfl rfl p _ _ _ rfl (own.alloc _) _ #[.int .i64 (pre gs k + v)] (Blk.new wr 3 _) rfl rfl (fun u hu => by simp at hu; subst hu; rfl) (by unfold maxLen; omega) (by omega) (by simp; omega) ?_)
             intro g cap w2 own2 hg2 hor
             have RA : VRep (wr.alloc (.cells #[.int .i64 (pre gs k + v)] 3)) (p + 1) (p + 1) (stU (UE gs) (1 + x % 1000) k) := VRep.call R ((Below.refl _ _).alloc (Nat.le_refl _) _)
             have R2 := VRep.grown RA (own.alloc _) (by decide) (by decide) hg2
             have BX2 := (BX.alloc (.cells #[.int .i64 (pre gs k + v)] 3)).grown hg2 (Ne.symm (own_blk_ne own BX (by decide)))
             have z2 : p + 1 ≤ w2.heap.size := Nat.le_trans zz (Nat.le_trans (by simp) hg2.size)
             have b2 : Below p w w2 := (Below.alloc b (by omega) _).grown hg2 (by simp; omega) (fun q hq => (own.lt q hq).1)
             have OW := Lib.hid own2
             clear RA own BX R hg2 hor own2 hc)
          | (go_at_call 10; refine (name_any k _ (by omega)).mono ?_; rintro e w' ⟨rfl, rfl⟩)
          | (go_at_call 9
             rw [← HS.out]
             refine (add_any (p + 1) (p + 1) _ OK (nm k) (pre gs (k + 1)) (k : Int) w2 z2 R2).mono ?_
             rintro e w3 ⟨rfl, R3, T3⟩
             rw [show addE (stU (UE gs) (1 + x % 1000) k) (nm k) (pre gs (k + 1)) (k : Int) = 0 from F1.out]))
        go_roundw
        case rel =>
          refine ⟨k + 1, by omega, by go_num, by first | rfl | rw [HS.out], ?_, BX2.turn T3 rfl, by rw [← F2.out]; exact R3, Nat.le_trans z2 T3.size, b2.trans (T3.below.mono (by omega))⟩
          rw [tm_succ, HS.out]
          have := own_turn OW.out T3 rfl
          simpa using this
        case measure => simp [intOf]; omega
      · have hk60 : k ≤ 60 := by omega
        have hF := exact_facts HG.out k hk60 (1 + x % 1000) hH1 hH2 (1 + y % (1 + x % 1000)) (by omega) (by omega) (z % 1000) (by omega) (by omega)
        have OK := stU_ok (UE_good HG.out n h60' _ hH1 hH2) k hk
        have hb2 := pre_bd HG.out k
        obtain ⟨q1, q2, q3⟩ := hb2
        have ha0 : 0 ≤ pre gs k + z % 1000 := by omega
        have ha1 : pre gs k + z % 1000 ≤ 20000 := by omega
        have hw0 : 1 ≤ 1 + y % (1 + x % 1000) := by omega
        have hw1 : 1 + y % (1 + x % 1000) ≤ 1000 := by omega
        have HF := Lib.hid hF
        obtain ⟨A9, c9, rfl⟩ := own_slice own
        have OW := Lib.hid own
        have cl := BX.c 3 _ rfl
        clear hF q3 own
        go_wp2_with fail
        generalize pre gs k + z % 1000 = a at HF ha0 ha1 ⊢
        generalize 1 + y % (1 + x % 1000) = W at HF hw0 hw1 ⊢
        generalize stU (UE gs) (1 + x % 1000) k = s at HF OK R
        go_loopw [12, 13, 14] (fun u v i wr' => ∃ j : Nat, j ≤ k ∧ i = .int .i64 j ∧ u = .int .i64 ((wE gs a W j).length : Nat) ∧ v = .int .i64 (sumL (wE gs a W j)) ∧ wr' = wr) (fun _ _ i _ => k - (intOf i).toNat)
        case atStart => exact ⟨0, by omega, rfl, by simp [wE, LU, winL], by simp [wE, LU, winL, sumL], rfl⟩
        case round =>
          obtain ⟨j, hj, rfl, rfl, rfl, rfl⟩ := hrel
          have hlen := Nat.le_trans (wE_len gs a W j) hj
          have hsum := wE_sum gs a W j (by omega)
          by_cases hjk : j < k
          · obtain ⟨g, rfl, hpg, hg, _, hcell, _⟩ := own_cells OW.out (by omega)
            have hc := hcell j _ (tm_at hjk)
            have hb3 := pre_bd HG.out (j + 1)
            obtain ⟨t1, t2, t3⟩ := hb3
            have HY := Lib.hid (@wE_yes gs a W j)
            have HN := Lib.hid (@wE_no gs a W j)
            clear hcell cl t3
            generalize pre gs (j + 1) = t at hc t1 t2 HY HN
            by_cases h2 : j % 2 = 0
            · have h2' : ((j : Int) % 2 == 0) = true := by simp; omega
              by_cases h3 : a - W < t
              · by_cases h4 : t ≤ a
                · have HW := Lib.hid (HY.out h2 h3 h4)
                  clear HY HN
                  go_wp2_with fail
                  go_roundw
                  case rel => exact ⟨j + 1, by omega, by go_num, by rw [HW.out, List.length_append]; rfl, by rw [HW.out, sumL_snoc]; rfl, trivial⟩
                  case measure => simp [intOf]; omega
                · have HW := Lib.hid (HN.out (fun h => h4 h.2.2))
                  clear HY HN
                  go_wp2_with fail
                  go_roundw
                  case rel => exact ⟨j + 1, by omega, by go_num, by rw [HW.out], by rw [HW.out], trivial⟩
                  case measure => simp [intOf]; omega
              · have HW := Lib.hid (HN.out (fun h => h3 h.2.1))
                clear HY HN
                go_wp2_with fail
                go_roundw
                case rel => exact ⟨j + 1, by omega, by go_num, by rw [HW.out], by rw [HW.out], trivial⟩
                case measure => simp [intOf]; omega
            · have h2' : ((j : Int) % 2 == 0) = false := by simp; omega
              have HW := Lib.hid (HN.out (fun h => h2 h.1))
              clear HY HN
              go_wp2_with fail
              go_roundw
              case rel => exact ⟨j + 1, by omega, by go_num, by rw [HW.out], by rw [HW.out], trivial⟩
              case measure => simp [intOf]; omega
          · have hjk2 : j = k := by omega
            have G1 : Hid (cntN s ev a W = (wE gs a W j).length) := Lib.hid (by rw [hjk2]; exact HF.out.1)
            have G2 : Hid (sumN s ev a W = sumL (wE gs a W j)) := Lib.hid (by rw [hjk2]; exact HF.out.2.1)
            have G3 : Hid (cntN s nn a W = 0) := Lib.hid HF.out.2.2
            clear hjk2 HF
            go_wp2_with fail
            refine (count_any (p + 1) (p + 1) s OK ev a W _ R).mono ?_
            rintro e w2 ⟨rfl, b2⟩
            rw [G1.out]
            have R2 := VRep.call R b2
            go_wp2_with fail
            refine (sum_any (p + 1) (p + 1) s OK ev a W w2 R2).mono ?_
            rintro e w3 ⟨rfl, b3⟩
            rw [G2.out]
            have R3 := VRep.call R2 b3
            go_wp2_with fail
            refine (count_any (p + 1) (p + 1) s OK nn a W w3 R3).mono ?_
            rintro e w4 ⟨rfl, b4⟩
            rw [G3.out]
            go_wp2_with (go_at_call 8; refine (awake_any _).mono ?_; rintro e w13 ⟨rfl, b13⟩)
            go_ret
            refine ⟨rfl, ?_⟩
            rw [HP.out]
            have y2 := b2.size
            have y3 := b3.size
            have y4 := b4.size
            exact (((b.trans (b2.mono (by omega))).trans (b3.mono (by omega))).trans (b4.mono (by omega))).trans (b13.mono (by omega))
end Go.Proofs.Ytieimeahppmefaa
