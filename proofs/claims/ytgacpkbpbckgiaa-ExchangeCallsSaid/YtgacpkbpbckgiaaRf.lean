/-
  Exchange: walk over the law ExchangeCalls. No condition but that the slice's length is a Go int.
-/
import Derived.Test.YtgacpkbpbckgiaaRe
namespace Go.Proofs.Ytgacpkbpbckgiaa
open Go.RowKit
set_option linter.unusedVariables false

theorem wail_le (l : List Im) : (waiL l).length ≤ l.length := by
  unfold waiL
  rw [List.length_map]
  exact List.length_filter_le _ _
/-- The worlds that the calls of both exchanges lead to. -/
def TC (B : Nat) (w x : World) : Prop := Turn B [67, 69, 76, 37, 74] true w x
theorem TC.v {B : Nat} {w x y : World} (h : TC B w x) (k : Turn B PT true x y) : TC B w y := Turn.trans h (k.mono (Nat.le_refl _) (fun t ht => by simp [PT] at ht ⊢; rcases ht with rfl | rfl | rfl <;> simp) id)
theorem TC.r {B : Nat} {w x y : World} (h : TC B w x) (k : Turn B QT false x y) : TC B w y := Turn.trans h (k.mono (Nat.le_refl _) (fun t ht => by simp [QT] at ht ⊢; rcases ht with rfl | rfl <;> simp) (fun e => by cases e))
theorem PRep.mono {w : World} {B B' p : Nat} {s : XS} (h : PRep w B p s) (hB : B' ≤ B) : PRep w B' p s := by
  obtain ⟨h1, mb, zs, A, c, h2, h3, h4, h5, h6, h7⟩ := h
  exact ⟨Nat.le_trans hB h1, mb, zs, A, c, h2, Nat.le_trans hB h3, h4, h5, ⟨h6.1, fun z hz => ⟨Nat.le_trans hB (h6.2 z hz).1, (h6.2 z hz).2⟩⟩, h7.mono hB⟩

set_option maxRecDepth 100000 in
set_option maxHeartbeats 6400000 in
theorem law_calls (t : Int) (A : Option Addr) (n c : Nat) (l : List Opn) (w : World) (hz : l.length = n) (hm : n ≤ 9223372036854775807) (hr : RD w A (n * 5) (l.flatMap opC)) (hu : ∀ x ∈ l, x.key.size ≤ 9223372036854775807) :
    Calls Try.prog 3 #[.int .i64 t, .slice A n c] w fun e w' => e = .returned (.bool true) ∧ Below w.heap.size w w' := by
  have HR := Lib.hid hr
  have HZ := Lib.hid hz
  have HU := Lib.hid hu
  obtain ⟨B, hB⟩ : ∃ B, w.heap.size = B := ⟨_, rfl⟩
  have HBB := Lib.hid hB
  clear hu
  by_cases ht : t < 1 ∨ 100000 < t
  · have HT := Lib.hid ht
    clear ht hz hr hB
    go_enter Try.func3, Try.ntmps3
    go_wp2_with fail
    refine (new_no t HT.out w).mono ?_
    rintro e w1 ⟨rfl, rfl⟩
    go_wp2_with fail
    refine (qnew_no t HT.out w).mono ?_
    rintro e w1 ⟨rfl, rfl⟩
    go_wp2_with (go_at_call 11; refine (awake_any _).mono ?_; rintro e w' ⟨rfl, b⟩)
    go_ret
    exact ⟨rfl, b⟩
  · have HT1 : Hid (1 ≤ t) := Lib.hid (by omega)
    have HT2 : Hid (t ≤ 100000) := Lib.hid (by omega)
    clear ht hz
    go_enter Try.func3, Try.ntmps3
    go_wp2_with fail
    refine (new_ok t HT1.out HT2.out w).mono ?_
    rintro e w1 ⟨p, rfl, V1, b1⟩
    rw [hB] at V1 b1
    have z1 : B ≤ w1.heap.size := by have := b1.size; omega
    have hr1 : Hid (RD w1 A (n * 5) (l.flatMap opC)) := Lib.hid (hr.keep (by rw [hB]; exact b1))
    have HV1 := Lib.hid V1
    have HB1 := Lib.hid b1
    clear V1 b1 hr hB
    go_wp2_with fail
    refine (qnew_ok t HT1.out HT2.out w1).mono ?_
    rintro e w2 ⟨rfl, R2, b2⟩
    have z2 := Nat.le_trans z1 b2.size
    have HV2 := Lib.hid (HV1.out.call b2)
    have HR2 := Lib.hid (R2.mono z1)
    have HB2 := Lib.hid (HB1.out.trans (b2.mono z1))
    have HF := Lib.hid (short_any A n c l w2 HZ.out hm (hr1.out.keep b2))
    obtain ⟨q, hq⟩ : ∃ q, w1.heap.size = q := ⟨_, rfl⟩
    rw [hq] at HR2 ⊢
    clear R2 b2 z1 hq HV1 HB1 hr1
    go_wp2_with fail
    refine HF.out.mono ?_
    rintro e w0 ⟨⟨b, rfl, hb60⟩, rfl⟩
    cases b with
    | false =>
      clear hb60
      go_wp2_with (go_at_call 11; refine (awake_any _).mono ?_; rintro e w' ⟨rfl, b⟩)
      go_ret
      refine ⟨rfl, ?_⟩
      rw [HBB.out]
      exact HB2.out.trans (b.mono z2)
    | true =>
      have hn := hb60 rfl
      clear hb60
      go_wp2_with fail
      go_loopw [9] (fun i wr => ∃ (k : Nat) (s : XS), k ≤ n ∧ i = .int .i64 k ∧ PRep wr B p s ∧ QRep wr B q s ∧ s.Ok ∧ s.its.length ≤ k ∧ B ≤ wr.heap.size ∧ Below B w wr) (fun i _ => n - (intOf i).toNat)
      case atStart => exact ⟨0, ⟨t, 0, []⟩, by omega, rfl, HV2.out, HR2.out, XS.Ok.new HT1.out HT2.out, Nat.le_refl _, z2, HB2.out⟩
      case round =>
        obtain ⟨k, s, hk, rfl, V0, R0, o, hls0, z, b0⟩ := hrel
        have b := Lib.hid b0
        have HO := Lib.hid o
        have hls : s.its.length ≤ 100000 := by omega
        have HLS := Lib.hid hls0
        have V := Lib.hid V0
        have R := Lib.hid R0
        clear V0 R0 o b0 hls0 HV2 HR2 HB2 z2 HF
        by_cases hlt : k < n
        · obtain ⟨bb, off, rfl, hbl, hcell⟩ := HR.out.2 (by omega)
          have hx : l[k]? = some (l[k]'(by rw [HZ.out]; exact hlt)) := List.getElem?_eq_getElem _
          have hbl' : bb < B := by rw [← HBB.out]; exact hbl
          have e0 : wr.cell? ⟨bb, off + k * 5, none⟩ = some (.int .i64 (l[k]'(by rw [HZ.out]; exact hlt)).kd) := (Below.cell b.out (p := ⟨bb, off + k * 5, none⟩) hbl').trans (hcell (k * 5) _ (by have := atM opC 5 opC5 l k _ 0 hx (by decide); simpa [opC] using this))
          have e1 := hcell (k * 5 + 1) (.int .i64 (l[k]'(by rw [HZ.out]; exact hlt)).at_) (by rw [atM opC 5 opC5 l k _ 1 hx (by decide)]; rfl)
          have e2 := hcell (k * 5 + 2) (.bool (l[k]'(by rw [HZ.out]; exact hlt)).lt) (by rw [atM opC 5 opC5 l k _ 2 hx (by decide)]; rfl)
          have e3 := hcell (k * 5 + 3) (.string (l[k]'(by rw [HZ.out]; exact hlt)).key) (by rw [atM opC 5 opC5 l k _ 3 hx (by decide)]; rfl)
          have e4 := hcell (k * 5 + 4) (.string (l[k]'(by rw [HZ.out]; exact hlt)).txt) (by rw [atM opC 5 opC5 l k _ 4 hx (by decide)]; rfl)
          rw [← Nat.add_assoc] at e1 e2 e3 e4
          replace e1 := (Below.cell b.out (p := ⟨bb, off + k * 5 + 1, none⟩) hbl').trans e1
          replace e2 := (Below.cell b.out (p := ⟨bb, off + k * 5 + 2, none⟩) hbl').trans e2
          replace e3 := (Below.cell b.out (p := ⟨bb, off + k * 5 + 3, none⟩) hbl').trans e3
          replace e4 := (Below.cell b.out (p := ⟨bb, off + k * 5 + 4, none⟩) hbl').trans e4
          have HK0 := HU.out _ (List.mem_of_getElem? hx)
          clear hcell hx hbl'
          generalize (l[k]'(by rw [HZ.out]; exact hlt)) = x at e0 e1 e2 e3 e4 HK0
          obtain ⟨xc, xa, xl, xk, xt⟩ := x
          simp only at e0 e1 e2 e3 e4 HK0
          have HK := Lib.hid HK0
          have N : Below wr.heap.size wr (wr.alloc (.cells #[.int .i64 xc, .int .i64 xa, .bool xl, .string xk, .string xt] 33)) := (Below.refl _ _).alloc (Nat.le_refl _) _
          have V4 := V.out.call N
          have R4 := R.out.call N
          have z4 := Nat.le_trans z N.size
          have b4 := Lib.hid (b.out.trans (N.mono z))
          have BX := Blk.new wr 33 #[.int .i64 xc, .int .i64 xa, .bool xl, .string xk, .string xt]
          clear V R z b N HK0
          go_wp2_with fail
          rename_i K0 hKK
          generalize wr.alloc (.cells #[.int .i64 xc, .int .i64 xa, .bool xl, .string xk, .string xt] 33) = w4 at V4 R4 z4 b4 BX ⊢
          generalize wr.heap.size = pb at BX ⊢
          obtain ⟨_, _, _, XQ, _⟩ := id R4
          have L0 := fun n : Cls (UpC w4) => (BX.call n.2).c 0 _ rfl
          have L1 := fun n : Cls (UpC w4) => (BX.call n.2).c 1 _ rfl
          have L2 := fun n : Cls (UpC w4) => (BX.call n.2).c 2 _ rfl
          have L3 := fun n : Cls (UpC w4) => (BX.call n.2).c 3 _ rfl
          have L4 := fun n : Cls (UpC w4) => (BX.call n.2).c 4 _ rfl
          have L5 := fun n : Cls (UpC w4) => (XQ.call n.2).c 1 _ rfl
          refine wp_region_reg (UpC w4) 7 rfl (by kernel_rfl) ?_
          have T : UpC w4 w4.drew := (Below.refl _ _).drew
          haveI : Nonempty (Cls (UpC w4)) := ⟨⟨_, T⟩⟩
          refine reg_seg (f := 2) (by kernel_rfl) [0, 1, 2, 3, 4] _ _ _ T (by kernel_rfl) ?_
          simp only [pickL, List.filterMap_cons, List.filterMap_nil, List.getElem?_toArray, List.getElem?_cons_zero, List.getElem?_cons_succ]
          show wpQuiet _ _ _ _ [_, _, _, _, _] _
          repeat (go_big_quiet_step (fail))
          refine wpQuiet_nil ?_
          refine reg_call 5 _ (by kernel_rfl) rfl rfl ?_
          go_simp
          refine (time_any ⟨xc, xa, xl, xk, xt⟩ s.now _).mono ?_
          rintro e x1 ⟨⟨tv, rfl⟩, q1'⟩
          replace T := UpC.call T q1'
          refine ⟨T, ?_⟩
          clear q1' L0 L1 L2 L3 L4 L5
          refine reg_seg (f := 0) (by kernel_rfl) [6] _ _ _ T (by kernel_rfl) ?_
          simp only [pickL, List.filterMap_cons, List.filterMap_nil, List.getElem?_toArray, List.getElem?_cons_zero, List.getElem?_cons_succ]
          show wpQuiet _ _ _ _ [_] _
          repeat (go_big_quiet_step (fail))
          refine wpQuiet_nil ?_
          refine reg_end (by kernel_rfl) ?_
          refine hKK _ _ ?_
          have HV5 := Lib.hid (V4.call T)
          have HR5 := Lib.hid (R4.call T)
          have HBX5 := Lib.hid (BX.call T)
          have z5 := Nat.le_trans z4 T.size
          have b5 := Lib.hid (b4.out.trans (T.mono z4))
          have k0 := HBX5.out.c 0 _ rfl
          have k3 := HBX5.out.c 3 _ rfl
          have k4 := HBX5.out.c 4 _ rfl
          clear T V4 R4 BX XQ z4 b4 e0 e1 e2 e3 e4
          generalize x1 = w5 at HV5 HR5 HBX5 z5 b5 k0 k3 k4 ⊢
          by_cases h0 : xc = 0
          · subst h0
            as_aux_lemma =>
            clear k3 k4
            go_wp2_with fail
            rename_i K0 hKK
            have q3 := fun n : Cls (TC B w5) => (HBX5.out.turn n.2 rfl).c 3 _ rfl
            have q4 := fun n : Cls (TC B w5) => (HBX5.out.turn n.2 rfl).c 4 _ rfl
            refine wp_region_reg (TC B w5) 15 rfl (by kernel_rfl) ?_
            have T : TC B w5 w5.drew := (Turn.refl _ _ _ _).drew
            haveI : Nonempty (Cls (TC B w5)) := ⟨⟨_, T⟩⟩
            have V := HV5.out.drewN 1
            have R := HR5.out.drewN 1
            clear HV5 HR5
            refine reg_seg (f := 3) (by kernel_rfl) [0, 1, 2, 3, 4, 5, 7, 8, 9, 10, 11, 12] _ _ _ T (by kernel_rfl) ?_
            simp only [pickL, List.filterMap_cons, List.filterMap_nil, List.getElem?_toArray, List.getElem?_cons_zero, List.getElem?_cons_succ]
            show wpQuiet _ _ _ _ [_, _, _, _, _, _, _, _, _, _, _, _] _
            repeat (go_big_quiet_step (fail))
            refine wpQuiet_nil ?_
            refine reg_call 6 _ (by kernel_rfl) rfl rfl ?_
            go_simp
            refine (begin_any B p s tv xk xt _ HO.out hls (Nat.le_trans z5 T.size) V).mono ?_
            rintro e x ⟨rfl, V, T1⟩
            replace R := R.turnOther T1 rfl rfl
            replace T := TC.v T T1
            refine ⟨T, ?_⟩
            refine reg_call 13 _ (by kernel_rfl) rfl rfl ?_
            go_simp
            refine (qbegin_any B q s tv xk xt _ HO.out hls (Nat.le_trans z5 T.size) R).mono ?_
            rintro e x ⟨rfl, R, T1⟩
            replace V := V.turnOther T1 rfl rfl rfl
            replace T := TC.r T T1
            refine ⟨T, ?_⟩
            refine reg_seg (f := 0) (by kernel_rfl) [14] _ _ _ T (by kernel_rfl) ?_
            simp only [pickL, List.filterMap_cons, List.filterMap_nil, List.getElem?_toArray, List.getElem?_cons_zero, List.getElem?_cons_succ]
            show wpQuiet _ _ _ _ [_] _
            repeat (go_big_quiet_step (fail))
            refine wpQuiet_nil ?_
            refine reg_end (by kernel_rfl) ?_
            refine hKK _ _ ?_
            have zz := Nat.le_trans z5 T.size
            have bz := Lib.hid (b5.out.trans T.below)
            have k3 := (HBX5.out.turn T rfl).c 3 _ rfl
            obtain ⟨s2, hs2⟩ : ∃ s2, begS s tv xk xt = s2 := ⟨_, rfl⟩
            have HO2 : Hid s2.Ok := Lib.hid (by rw [← hs2]; exact HO.out.beg tv xk xt)
            have HL2 : Hid (s2.its.length ≤ k + 1) := Lib.hid (by rw [← hs2]; have := begS_len s tv xk xt; have := HLS.out; omega)
            have hl2 : s2.its.length ≤ 100000 := by have := HL2.out; omega
            rw [hs2] at V R
            clear hs2
            have HV := Lib.hid V
            have HR5 := Lib.hid R
            clear V R
            clear T q3 q4
            go_wp2_with (first
              | (go_at_call 20; refine (result_any B p s2 _ xk HK.out HV.out).mono ?_; rintro e y ⟨rfl, rfl⟩)
              | (go_at_call 21; refine (qresult_any B q s2 _ xk HR5.out).mono ?_; rintro e y ⟨rfl, rfl⟩)
              | (go_at_call 22; refine (request_any B p s2 _ xk HK.out HV.out).mono ?_; rintro e y ⟨rfl, rfl⟩)
              | (go_at_call 23; refine (qrequest_any B q s2 _ xk HR5.out).mono ?_; rintro e y ⟨rfl, rfl⟩)
              | (go_at_call 24; refine (next_any B p s2 HO2.out hl2 _ HV.out).mono ?_; rintro e y ⟨rfl, rfl⟩)
              | (go_at_call 25
                 refine (qnext_any B q s2 _ HO2.out HR5.out).mono ?_
                 rintro e y5 ⟨rfl, hb5⟩
                 have HV6 := Lib.hid (HV.out.call hb5)
                 have HR6 := Lib.hid (HR5.out.call hb5)
                 have z6 := Nat.le_trans zz hb5.size
                 have b6 := Lib.hid (bz.out.trans (hb5.mono zz))
                 clear hb5)
              | (go_at_call 26
                 refine (waiting_any B p s2 hl2 _ HV6.out).mono ?_
                 rintro e y6 ⟨A6, c6, rfl, W6, hb6⟩
                 have HV7 := Lib.hid (HV6.out.call hb6)
                 have HR7 := Lib.hid (HR6.out.call hb6)
                 have z7 := Nat.le_trans z6 hb6.size
                 have b7 := Lib.hid (b6.out.trans (hb6.mono z6))
                 have HW6 := Lib.hid W6
                 clear hb6 W6))
            refine (qwaiting_any B q s2 _ hl2 HR7.out).mono ?_
            rintro e y7 ⟨A7, c7, rfl, W7, hb7⟩
            have HV8 := Lib.hid (HV7.out.call hb7)
            have HR8 := Lib.hid (HR7.out.call hb7)
            have z8 := Nat.le_trans z7 hb7.size
            have b8 := Lib.hid (b7.out.trans (hb7.mono z7))
            have HS := same_ok A6 _ c6 _ A7 _ c7 _ (by have := wail_le s2.its; omega) _ (RD.of_rowL (HW6.out.call hb7)) (RD.of_rowL W7)
            rw [decide_eq_true rfl] at HS
            replace HS := Lib.hid HS
            clear hb7 W7
            go_wp2_with fail
            refine HS.out.mono ?_
            rintro e y8 ⟨rfl, hb8⟩
            have HV9 := Lib.hid (HV8.out.call hb8)
            have HR9 := Lib.hid (HR8.out.call hb8)
            have z9 := Nat.le_trans z8 hb8.size
            have b9 := Lib.hid (b8.out.trans (hb8.mono z8))
            clear hb8
            go_wp2_with fail
            go_roundw
            case rel => exact ⟨k + 1, s2, by omega, by go_num, HV9.out, HR9.out, HO2.out, HL2.out, z9, b9.out⟩
            case measure => simp [intOf]; omega
          · have n0 : (xc == 0) = false := by rw [beq_eq_false_iff_ne]; exact h0
            by_cases h1 : xc = 1
            · subst h1
              as_aux_lemma =>
              clear h0
              have k3 := HBX5.out.c 3 _ rfl
              have k4 := HBX5.out.c 4 _ rfl
              go_wp2_with fail
              refine (reply_any B p s tv xk xt w5 HO.out hls HK.out z5 HV5.out).mono ?_
              rintro e x1 ⟨rfl, V, T1⟩
              have k3 := (HBX5.out.turn T1 rfl).c 3 _ rfl
              have k4 := (HBX5.out.turn T1 rfl).c 4 _ rfl
              have z6 := Nat.le_trans z5 T1.size
              have CQ := Lib.hid (qreply_any B q s tv xk xt x1 HO.out z6 (HR5.out.turnOther T1 rfl rfl))
              have b6 := Lib.hid (b5.out.trans T1.below)
              have HBX6 := Lib.hid (HBX5.out.turn T1 rfl)
              clear T1 HV5 HR5 HBX5
              go_wp2_with fail
              refine CQ.out.mono ?_
              rintro e x2 ⟨rfl, R, T2⟩
              replace V := V.turnOther T2 rfl rfl rfl
              have k3 := (HBX6.out.turn T2 rfl).c 3 _ rfl
              have zz := Nat.le_trans z6 T2.size
              have bz := Lib.hid (b6.out.trans T2.below)
              clear T2 CQ HBX6 k4
              obtain ⟨s2, hs2⟩ : ∃ s2, repS s tv xk xt = s2 := ⟨_, rfl⟩
              have HO2 : Hid s2.Ok := Lib.hid (by rw [← hs2]; exact HO.out.rep tv xk xt)
              have HL2 : Hid (s2.its.length ≤ k + 1) := Lib.hid (by rw [← hs2]; have := repS_len s tv xk xt; have := HLS.out; omega)
              have hl2 : s2.its.length ≤ 100000 := by have := HL2.out; omega
              rw [hs2] at V R
              clear hs2
              have HV := Lib.hid V
              have HR5 := Lib.hid R
              clear V R
              go_wp2_with (first
                | (go_at_call 20; refine (result_any B p s2 _ xk HK.out HV.out).mono ?_; rintro e y ⟨rfl, rfl⟩)
                | (go_at_call 21; refine (qresult_any B q s2 _ xk HR5.out).mono ?_; rintro e y ⟨rfl, rfl⟩)
                | (go_at_call 22; refine (request_any B p s2 _ xk HK.out HV.out).mono ?_; rintro e y ⟨rfl, rfl⟩)
                | (go_at_call 23; refine (qrequest_any B q s2 _ xk HR5.out).mono ?_; rintro e y ⟨rfl, rfl⟩)
                | (go_at_call 24; refine (next_any B p s2 HO2.out hl2 _ HV.out).mono ?_; rintro e y ⟨rfl, rfl⟩)
                | (go_at_call 25
                   refine (qnext_any B q s2 _ HO2.out HR5.out).mono ?_
                   rintro e y5 ⟨rfl, hb5⟩
                   have HV6 := Lib.hid (HV.out.call hb5)
                   have HR6 := Lib.hid (HR5.out.call hb5)
                   have z6 := Nat.le_trans zz hb5.size
                   have b6 := Lib.hid (bz.out.trans (hb5.mono zz))
                   clear hb5)
                | (go_at_call 26
                   refine (waiting_any B p s2 hl2 _ HV6.out).mono ?_
                   rintro e y6 ⟨A6, c6, rfl, W6, hb6⟩
                   have HV7 := Lib.hid (HV6.out.call hb6)
                   have HR7 := Lib.hid (HR6.out.call hb6)
                   have z7 := Nat.le_trans z6 hb6.size
                   have b7 := Lib.hid (b6.out.trans (hb6.mono z6))
                   have HW6 := Lib.hid W6
                   clear hb6 W6))
              refine (qwaiting_any B q s2 _ hl2 HR7.out).mono ?_
              rintro e y7 ⟨A7, c7, rfl, W7, hb7⟩
              have HV8 := Lib.hid (HV7.out.call hb7)
              have HR8 := Lib.hid (HR7.out.call hb7)
              have z8 := Nat.le_trans z7 hb7.size
              have b8 := Lib.hid (b7.out.trans (hb7.mono z7))
              have HS := same_ok A6 _ c6 _ A7 _ c7 _ (by have := wail_le s2.its; omega) _ (RD.of_rowL (HW6.out.call hb7)) (RD.of_rowL W7)
              rw [decide_eq_true rfl] at HS
              replace HS := Lib.hid HS
              clear hb7 W7
              go_wp2_with fail
              refine HS.out.mono ?_
              rintro e y8 ⟨rfl, hb8⟩
              have HV9 := Lib.hid (HV8.out.call hb8)
              have HR9 := Lib.hid (HR8.out.call hb8)
              have z9 := Nat.le_trans z8 hb8.size
              have b9 := Lib.hid (b8.out.trans (hb8.mono z8))
              clear hb8
              go_wp2_with fail
              go_roundw
              case rel => exact ⟨k + 1, s2, by omega, by go_num, HV9.out, HR9.out, HO2.out, HL2.out, z9, b9.out⟩
              case measure => simp [intOf]; omega
            · have n1 : (xc == 1) = false := by rw [beq_eq_false_iff_ne]; exact h1
              as_aux_lemma =>
              clear h0 h1 k3 k4
              go_wp2_with fail
              refine (lost_any B p s tv w5 hls z5 HV5.out).mono ?_
              rintro e x1 ⟨A6, c6, rfl, W6, V, T1⟩
              have z6 := Nat.le_trans z5 T1.size
              have CQ := Lib.hid (qlost_any B q s tv x1 HO.out hls z6 (HR5.out.turnOther T1 rfl rfl))
              have b6 := Lib.hid (b5.out.trans T1.below)
              have HBX6 := Lib.hid (HBX5.out.turn T1 rfl)
              have HW6 := Lib.hid W6
              clear T1 HV5 HR5 HBX5 W6
              go_wp2_with fail
              refine CQ.out.mono ?_
              rintro e x2 ⟨A7, c7, rfl, W7, R, T2⟩
              replace V := V.turnOther T2 rfl rfl rfl
              have HBX7 := Lib.hid (HBX6.out.turn T2 rfl)
              have z7 := Nat.le_trans z6 T2.size
              have b7 := Lib.hid (b6.out.trans T2.below)
              have hll : (losL s tv).length ≤ 100000 := by
                unfold losL
                split
                · simp
                · rw [List.length_map]
                  have := List.length_filter_le (lostB s.tmo tv) s.its
                  omega
              have HS := same_ok A6 _ c6 _ A7 _ c7 _ (by omega) _ (RD.of_rowL (HW6.out.turn T2 rfl)) (RD.of_rowL W7)
              rw [decide_eq_true rfl] at HS
              replace HS := Lib.hid HS
              clear T2 CQ HBX6 W7 HW6
              go_wp2_with fail
              refine HS.out.mono ?_
              rintro e x3 ⟨rfl, hb⟩
              replace V := V.call hb
              replace R := R.call hb
              have k3 := (HBX7.out.call hb).c 3 _ rfl
              have zz := Nat.le_trans z7 hb.size
              have bz := Lib.hid (b7.out.trans (hb.mono z7))
              clear hb HBX7
              obtain ⟨s2, hs2⟩ : ∃ s2, losS s tv = s2 := ⟨_, rfl⟩
              have HO2 : Hid s2.Ok := Lib.hid (by rw [← hs2]; exact HO.out.los tv)
              have HL2 : Hid (s2.its.length ≤ k + 1) := Lib.hid (by rw [← hs2]; have := losS_len s tv; have := HLS.out; omega)
              have hl2 : s2.its.length ≤ 100000 := by have := HL2.out; omega
              rw [hs2] at V R
              clear hs2
              have HV := Lib.hid V
              have HR5 := Lib.hid R
              clear V R
              go_wp2_with (first
                | (go_at_call 20; refine (result_any B p s2 _ xk HK.out HV.out).mono ?_; rintro e y ⟨rfl, rfl⟩)
                | (go_at_call 21; refine (qresult_any B q s2 _ xk HR5.out).mono ?_; rintro e y ⟨rfl, rfl⟩)
                | (go_at_call 22; refine (request_any B p s2 _ xk HK.out HV.out).mono ?_; rintro e y ⟨rfl, rfl⟩)
                | (go_at_call 23; refine (qrequest_any B q s2 _ xk HR5.out).mono ?_; rintro e y ⟨rfl, rfl⟩)
                | (go_at_call 24; refine (next_any B p s2 HO2.out hl2 _ HV.out).mono ?_; rintro e y ⟨rfl, rfl⟩)
                | (go_at_call 25
                   refine (qnext_any B q s2 _ HO2.out HR5.out).mono ?_
                   rintro e y5 ⟨rfl, hb5⟩
                   have HV6 := Lib.hid (HV.out.call hb5)
                   have HR6 := Lib.hid (HR5.out.call hb5)
                   have z6 := Nat.le_trans zz hb5.size
                   have b6 := Lib.hid (bz.out.trans (hb5.mono zz))
                   clear hb5)
                | (go_at_call 26
                   refine (waiting_any B p s2 hl2 _ HV6.out).mono ?_
                   rintro e y6 ⟨A6, c6, rfl, W6, hb6⟩
                   have HV7 := Lib.hid (HV6.out.call hb6)
                   have HR7 := Lib.hid (HR6.out.call hb6)
                   have z7 := Nat.le_trans z6 hb6.size
                   have b7 := Lib.hid (b6.out.trans (hb6.mono z6))
                   have HW6 := Lib.hid W6
                   clear hb6 W6))
              refine (qwaiting_any B q s2 _ hl2 HR7.out).mono ?_
              rintro e y7 ⟨A7, c7, rfl, W7, hb7⟩
              have HV8 := Lib.hid (HV7.out.call hb7)
              have HR8 := Lib.hid (HR7.out.call hb7)
              have z8 := Nat.le_trans z7 hb7.size
              have b8 := Lib.hid (b7.out.trans (hb7.mono z7))
              have HS := same_ok A6 _ c6 _ A7 _ c7 _ (by have := wail_le s2.its; omega) _ (RD.of_rowL (HW6.out.call hb7)) (RD.of_rowL W7)
              rw [decide_eq_true rfl] at HS
              replace HS := Lib.hid HS
              clear hb7 W7
              go_wp2_with fail
              refine HS.out.mono ?_
              rintro e y8 ⟨rfl, hb8⟩
              have HV9 := Lib.hid (HV8.out.call hb8)
              have HR9 := Lib.hid (HR8.out.call hb8)
              have z9 := Nat.le_trans z8 hb8.size
              have b9 := Lib.hid (b8.out.trans (hb8.mono z8))
              clear hb8
              go_wp2_with fail
              go_roundw
              case rel => exact ⟨k + 1, s2, by omega, by go_num, HV9.out, HR9.out, HO2.out, HL2.out, z9, b9.out⟩
              case measure => simp [intOf]; omega
        · go_wp2_with (go_at_call 11; refine (awake_any _).mono ?_; rintro e w8 ⟨rfl, b8⟩)
          go_ret
          refine ⟨rfl, ?_⟩
          rw [HBB.out]
          exact b.out.trans (b8.mono z)
end Go.Proofs.Ytgacpkbpbckgiaa
