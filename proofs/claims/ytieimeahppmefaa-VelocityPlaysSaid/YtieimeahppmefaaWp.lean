/-
  Velocity: walk over the law VelocityPlays. No condition but that the slice's length is a Go int.
-/
import Derived.Test.YtieimeahppmefaaWo
namespace Go.Proofs.Ytieimeahppmefaa
open Go.RowKit
set_option linter.unusedVariables false

/-- A step of the law. -/
structure St where
  call : Int
  key : ByteArray
  at_ : Int
  am : Int
  win : Int
def stC (x : St) : List Value := [.int .u8 x.call, .string x.key, .int .i64 x.at_, .int .i64 x.am, .int .i64 x.win]
theorem at5 : ∀ (l : List St) (i : Nat) (x : St) (j : Nat), l[i]? = some x → j < 5 → (l.flatMap stC)[i * 5 + j]? = (stC x)[j]?
  | [], i, x, j, h, _ => by simp at h
  | y :: l, 0, x, j, h, hj => by
    simp at h
    subst h
    rw [List.flatMap_cons, Nat.zero_mul, Nat.zero_add, List.getElem?_append_left (by exact hj)]
  | y :: l, i + 1, x, j, h, hj => by
    simp at h
    rw [List.flatMap_cons, List.getElem?_append_right (by show 5 ≤ _; omega), show (i + 1) * 5 + j - (stC y).length = i * 5 + j by show (i + 1) * 5 + j - 5 = _; omega]
    exact at5 l i x j h hj

theorem veql {w : World} {B : Nat} {v : Value} {s : Option VS} (h : VObj w B v s) (W : World) : (binOp .eql 26 v (.pointer none)).run Try.prog W = .ok (.bool s.isNone) W := by
  cases s with
  | none => obtain rfl : v = .pointer none := h; kernel_rfl
  | some s => obtain ⟨p, rfl, r, o⟩ := h; simp [go_sem]
theorem reql {w : World} {B : Nat} {v : Value} {s : Option VS} (h : RObj w B v s) (W : World) : (binOp .eql 43 v (.pointer none)).run Try.prog W = .ok (.bool s.isNone) W := by
  cases s with
  | none => obtain rfl : v = .pointer none := h; kernel_rfl
  | some s => obtain ⟨p, rfl, r, o⟩ := h; simp [go_sem]

theorem vgd {w : World} {B : Nat} {v : Value} {s : Option VS} (h : VObj w B v s) (x y : Operand) (W : World) : (eqGuard .eql 26 x y v (.pointer none)).run Try.prog W = .ok () W := by
  cases s with
  | none => obtain rfl : v = .pointer none := h; rfl
  | some s => obtain ⟨p, rfl, r, o⟩ := h; rfl
theorem rgd {w : World} {B : Nat} {v : Value} {s : Option VS} (h : RObj w B v s) (x y : Operand) (W : World) : (eqGuard .eql 43 x y v (.pointer none)).run Try.prog W = .ok () W := by
  cases s with
  | none => obtain rfl : v = .pointer none := h; rfl
  | some s => obtain ⟨p, rfl, r, o⟩ := h; rfl
/-- The worlds that the calls of both objects lead to. -/
def TC (B : Nat) (w x : World) : Prop := Turn B [52, 56, 61, 64] false w x
theorem TC.v {B : Nat} {w x y : World} (h : TC B w x) (k : Turn B [52, 56] false x y) : TC B w y := Turn.trans h (k.mono (Nat.le_refl _) (fun t ht => by simp at ht ⊢; rcases ht with rfl | rfl <;> simp) id)
theorem TC.r {B : Nat} {w x y : World} (h : TC B w x) (k : Turn B [61, 64] false x y) : TC B w y := Turn.trans h (k.mono (Nat.le_refl _) (fun t ht => by simp at ht ⊢; rcases ht with rfl | rfl <;> simp) id)
theorem TC.b {B : Nat} {w x y : World} (h : TC B w x) (k : Below x.heap.size x y) (hB : B ≤ w.heap.size) : TC B w y := Turn.call h k hB

set_option maxRecDepth 100000 in
set_option maxHeartbeats 6400000 in
theorem law_plays (A : Option Addr) (n c : Nat) (l : List St) (h : Int) (w : World) (hz : l.length = n) (hm : n ≤ 9223372036854775807) (hr : RD w A (n * 5) (l.flatMap stC)) (hu : ∀ x ∈ l, 0 ≤ x.call ∧ x.call ≤ 255) :
    Calls Try.prog 6 #[.int .i64 h, .slice A n c] w fun e w' => e = .returned (.bool true) ∧ Below w.heap.size w w' := by
  have HR := Lib.hid hr
  have HZ := Lib.hid hz
  have HU := Lib.hid hu
  obtain ⟨B, hB⟩ : ∃ B, w.heap.size = B := ⟨_, rfl⟩
  have HB := Lib.hid hB
  clear hr hz hu
  by_cases h80 : 80 < n
  · go_enter Try.func6, Try.ntmps6
    go_wp2_with (go_at_call 8; refine (awake_any _).mono ?_; rintro e w8 ⟨rfl, b8⟩)
    go_ret
    exact ⟨rfl, b8⟩
  · have h80' : n ≤ 80 := by omega
    clear h80
    go_enter Try.func6, Try.ntmps6
    go_wp2_with fail
    refine (vnew h w).mono ?_
    rintro e w1 ⟨va, rfl, V1, b1⟩
    rw [hB] at V1 b1
    have z1 := b1.size
    rw [hB] at z1
    go_wp2_with fail
    refine (rnew h w1).mono ?_
    rintro e w2 ⟨vb, rfl, R2, b2⟩
    have V2 := V1.call b2
    have q1 := veql V2
    have q2 := reql R2
    have q3 := vgd V2
    have q4 := rgd R2
    have z2 := Nat.le_trans z1 b2.size
    have b2' : Below B w w2 := b1.trans (b2.mono z1)
    have R2' : RObj w2 B vb (nS h) := by
      cases hn : nS h with
      | none => rw [hn] at R2; exact R2
      | some s => rw [hn] at R2; obtain ⟨p, hp, ⟨h1, A, c, h2, h3⟩, o⟩ := R2; exact ⟨p, hp, ⟨Nat.le_trans z1 h1, A, c, h2, by
          refine ⟨h3.1, ?_⟩
          rcases h3.2 with h4 | ⟨g, cap, cur, hv, hg, r⟩
          · exact .inl h4
          · exact .inr ⟨g, cap, cur, hv, Nat.le_trans z1 hg, r⟩⟩, o⟩
    clear V1 b1 z1 R2 hB
    go_wp2_with fail
    clear q1 q2 q3 q4 b2
    go_loopw [9] (fun i wr => ∃ (k : Nat) (s : Option VS), k ≤ n ∧ i = .int .i64 k ∧ VObj wr B va s ∧ RObj wr B vb s ∧ B ≤ wr.heap.size ∧ Below B w wr) (fun i _ => n - (intOf i).toNat)
    case atStart => exact ⟨0, _, by omega, rfl, V2, R2', z2, b2'⟩
    case round =>
      clear V2 R2' z2 b2'
      obtain ⟨k, s, hk, rfl, V, R, z, b⟩ := hrel
      by_cases hlt : k < n
      · have hkl : k < l.length := by rw [HZ.out]; exact hlt
        obtain ⟨bb, off, rfl, hbl, hcell⟩ := HR.out.2 (by omega)
        have hu : l[k]? = some l[k] := List.getElem?_eq_getElem hkl
        have hbB : bb < B := by rw [← HB.out]; exact hbl
        have hC : ∀ (j : Nat) (v : Value), (stC l[k])[j]? = some v → j < 5 → wr.cell? ⟨bb, off + k * 5 + j, none⟩ = some v := fun j v hv hj => by
          rw [Nat.add_assoc]
          exact (b.cell (p := ⟨bb, off + (k * 5 + j), none⟩) hbB).trans (hcell _ _ (by rw [at5 l k _ j hu hj]; exact hv))
        have hx := HU.out _ (List.getElem_mem hkl)
        generalize l[k] = x at hC hx
        obtain ⟨xc, xk, xa, xm, xw⟩ := x
        obtain ⟨hx1, hx2⟩ := hx
        have g0 := hC 0 _ rfl (by decide); have g1 := hC 1 _ rfl (by decide); have g2 := hC 2 _ rfl (by decide); have g3 := hC 3 _ rfl (by decide); have g4 := hC 4 _ rfl (by decide)
        simp only [Nat.add_zero] at g0 g1 g2 g3 g4 hx1 hx2
        clear hC hcell hu
        by_cases hl : 100 < xk.size
        · have hl' : 100 < (xk.size : Int) := by omega
          go_wp2_with (go_at_call 8; refine (awake_any _).mono ?_; rintro e w8 ⟨rfl, b8⟩)
          go_ret
          refine ⟨rfl, ?_⟩
          rw [HB.out]
          exact (b.alloc z _).trans (b8.mono (by simp; omega))
        · have hl' : (xk.size : Int) ≤ 100 := by omega
          clear hl
          by_cases h0 : xc = 0
          · subst h0
            have N : Below wr.heap.size wr (wr.alloc (.cells #[.int .u8 0, .string xk, .int .i64 xa, .int .i64 xm, .int .i64 xw] 47)) := (Below.refl _ _).alloc (Nat.le_refl _) _
            have V4 := V.call N
            have R4 := R.call N
            have z4 := Nat.le_trans z N.size
            have b4 := b.trans (N.mono z)
            have BX := Blk.new wr 47 #[.int .u8 0, .string xk, .int .i64 xa, .int .i64 xm, .int .i64 xw]
            clear V R z b N
            go_wp2_with fail
            rename_i K0 hKK
            generalize wr.alloc (.cells #[.int .u8 0, .string xk, .int .i64 xa, .int .i64 xm, .int .i64 xw] 47) = w4 at V4 R4 z4 b4 BX ⊢
            generalize wr.heap.size = pb at BX ⊢
            have q1 := fun n : Cls (TC B w4) => (BX.turn n.2 rfl).c 1 _ rfl
            have q2 := fun n : Cls (TC B w4) => (BX.turn n.2 rfl).c 2 _ rfl
            have q3 := fun n : Cls (TC B w4) => (BX.turn n.2 rfl).c 3 _ rfl
            have q4 := fun n : Cls (TC B w4) => (BX.turn n.2 rfl).c 4 _ rfl
            refine wp_region_reg (TC B w4) 18 rfl (by kernel_rfl) ?_
            have T : TC B w4 w4.drew := (Turn.refl _ _ _ _).drew
            haveI : Nonempty (Cls (TC B w4)) := ⟨⟨_, T⟩⟩
            have V := V4.drewN 1
            have R := R4.drewN 1
            refine reg_seg (f := 4) (by kernel_rfl) [0, 1, 2, 3, 4, 5, 6, 8, 9, 10, 11, 12, 13, 14] _ _ _ T (by kernel_rfl) ?_
            simp only [pickL, List.filterMap_cons, List.filterMap_nil, List.getElem?_toArray, List.getElem?_cons_zero, List.getElem?_cons_succ]
            show wpQuiet _ _ _ _ [_, _, _, _, _, _, _, _, _, _, _, _, _, _] _
            repeat (go_big_quiet_step (fail))
            refine wpQuiet_nil ?_
            refine reg_call 7 _ (by kernel_rfl) rfl rfl ?_
            go_simp
            refine (vadd (Nat.le_trans z4 T.size) V xk xa xm).mono ?_
            rintro e x1 ⟨rfl, V, T1⟩
            replace R := R.turn T1
            have T := TC.v T T1
            refine ⟨T, ?_⟩
            refine reg_call 15 _ (by kernel_rfl) rfl rfl ?_
            go_simp
            refine (radd (Nat.le_trans z4 T.size) R xk xa xm).mono ?_
            rintro e x2 ⟨rfl, R, T1⟩
            replace V := V.turn T1
            have T := TC.r T T1
            refine ⟨T, ?_⟩
            refine reg_seg (f := 0) (by kernel_rfl) [16, 17] _ _ _ T (by kernel_rfl) ?_
            simp only [pickL, List.filterMap_cons, List.filterMap_nil, List.getElem?_toArray, List.getElem?_cons_zero, List.getElem?_cons_succ]
            show wpQuiet _ _ _ _ [_, _] _
            repeat (go_big_quiet_step (fail))
            refine wpQuiet_nil ?_
            refine reg_end (by kernel_rfl) ?_
            refine hKK _ _ ?_
            have z5 := Nat.le_trans z4 T.size
            have b5 : Below B w _ := b4.trans T.below
            go_wp2_with (first | (go_at_call 13; refine (vlen V).mono ?_; rintro e y ⟨rfl, rfl⟩) | (go_at_call 24; refine (rlen R).mono ?_; rintro e y ⟨rfl, rfl⟩))
            go_roundw
            case rel => exact ⟨k + 1, _, by omega, by go_num, V, R, z5, b5⟩
            case measure => simp [intOf]; omega
          · have n0 : (xc == 0) = false := by simpa using h0
            by_cases h1 : xc = 1
            · subst h1
              have N : Below wr.heap.size wr (wr.alloc (.cells #[.int .u8 1, .string xk, .int .i64 xa, .int .i64 xm, .int .i64 xw] 47)) := (Below.refl _ _).alloc (Nat.le_refl _) _
              have V4 := V.call N
              have R4 := R.call N
              have z4 := Nat.le_trans z N.size
              have b4 := b.trans (N.mono z)
              have BX := Blk.new wr 47 #[.int .u8 1, .string xk, .int .i64 xa, .int .i64 xm, .int .i64 xw]
              clear V R z b N
              go_wp2_with fail
              rename_i K0 hKK
              generalize wr.alloc (.cells #[.int .u8 1, .string xk, .int .i64 xa, .int .i64 xm, .int .i64 xw] 47) = w4 at V4 R4 z4 b4 BX ⊢
              generalize wr.heap.size = pb at BX ⊢
              have q1 := fun n : Cls (TC B w4) => (BX.turn n.2 rfl).c 1 _ rfl
              have q2 := fun n : Cls (TC B w4) => (BX.turn n.2 rfl).c 2 _ rfl
              have q3 := fun n : Cls (TC B w4) => (BX.turn n.2 rfl).c 3 _ rfl
              have q4 := fun n : Cls (TC B w4) => (BX.turn n.2 rfl).c 4 _ rfl
              refine wp_region_reg (TC B w4) 18 rfl (by kernel_rfl) ?_
              have T : TC B w4 w4.drew := (Turn.refl _ _ _ _).drew
              haveI : Nonempty (Cls (TC B w4)) := ⟨⟨_, T⟩⟩
              have V := V4.drewN 1
              have R := R4.drewN 1
              refine reg_seg (f := 4) (by kernel_rfl) [0, 1, 2, 3, 4, 5, 6, 8, 9, 10, 11, 12, 13, 14] _ _ _ T (by kernel_rfl) ?_
              simp only [pickL, List.filterMap_cons, List.filterMap_nil, List.getElem?_toArray, List.getElem?_cons_zero, List.getElem?_cons_succ]
              show wpQuiet _ _ _ _ [_, _, _, _, _, _, _, _, _, _, _, _, _, _] _
              repeat (go_big_quiet_step (fail))
              refine wpQuiet_nil ?_
              refine reg_call 7 _ (by kernel_rfl) rfl rfl ?_
              go_simp
              refine (vrem (Nat.le_trans z4 T.size) V xk xa xm).mono ?_
              rintro e x1 ⟨rfl, V, T1⟩
              replace R := R.turn T1
              have T := TC.v T T1
              refine ⟨T, ?_⟩
              refine reg_call 15 _ (by kernel_rfl) rfl rfl ?_
              go_simp
              refine (rrem (Nat.le_trans z4 T.size) R xk xa xm).mono ?_
              rintro e x2 ⟨rfl, R, T1⟩
              replace V := V.turn T1
              have T := TC.r T T1
              refine ⟨T, ?_⟩
              refine reg_seg (f := 0) (by kernel_rfl) [16, 17] _ _ _ T (by kernel_rfl) ?_
              simp only [pickL, List.filterMap_cons, List.filterMap_nil, List.getElem?_toArray, List.getElem?_cons_zero, List.getElem?_cons_succ]
              show wpQuiet _ _ _ _ [_, _] _
              repeat (go_big_quiet_step (fail))
              refine wpQuiet_nil ?_
              refine reg_end (by kernel_rfl) ?_
              refine hKK _ _ ?_
              have z5 := Nat.le_trans z4 T.size
              have b5 : Below B w _ := b4.trans T.below
              go_wp2_with (first | (go_at_call 13; refine (vlen V).mono ?_; rintro e y ⟨rfl, rfl⟩) | (go_at_call 24; refine (rlen R).mono ?_; rintro e y ⟨rfl, rfl⟩))
              go_roundw
              case rel => exact ⟨k + 1, _, by omega, by go_num, V, R, z5, b5⟩
              case measure => simp [intOf]; omega
            · have n1 : (xc == 1) = false := by simpa using h1
              by_cases h2 : xc = 2
              · subst h2
                have N : Below wr.heap.size wr (wr.alloc (.cells #[.int .u8 2, .string xk, .int .i64 xa, .int .i64 xm, .int .i64 xw] 47)) := (Below.refl _ _).alloc (Nat.le_refl _) _
                have V4 := V.call N
                have R4 := R.call N
                have z4 := Nat.le_trans z N.size
                have b4 := b.trans (N.mono z)
                have BX := Blk.new wr 47 #[.int .u8 2, .string xk, .int .i64 xa, .int .i64 xm, .int .i64 xw]
                clear V R z b N
                go_wp2_with fail
                rename_i K0 hKK
                generalize wr.alloc (.cells #[.int .u8 2, .string xk, .int .i64 xa, .int .i64 xm, .int .i64 xw] 47) = w4 at V4 R4 z4 b4 BX ⊢
                generalize wr.heap.size = pb at BX ⊢
                have q1 := fun n : Cls (TC B w4) => (BX.turn n.2 rfl).c 1 _ rfl
                have q2 := fun n : Cls (TC B w4) => (BX.turn n.2 rfl).c 2 _ rfl
                have q3 := fun n : Cls (TC B w4) => (BX.turn n.2 rfl).c 3 _ rfl
                have q4 := fun n : Cls (TC B w4) => (BX.turn n.2 rfl).c 4 _ rfl
                refine wp_region_reg (TC B w4) 37 rfl (by kernel_rfl) ?_
                have T : TC B w4 w4.drew := (Turn.refl _ _ _ _).drew
                haveI : Nonempty (Cls (TC B w4)) := ⟨⟨_, T⟩⟩
                have V := V4.drewN 1
                have R := R4.drewN 1
                refine reg_seg (f := 23) (by kernel_rfl) [0, 1, 2, 3, 4, 5, 6, 8, 9, 10, 11, 12, 13, 14] _ _ _ T (by kernel_rfl) ?_
                simp only [pickL, List.filterMap_cons, List.filterMap_nil, List.getElem?_toArray, List.getElem?_cons_zero, List.getElem?_cons_succ]
                show wpQuiet _ _ _ _ [_, _, _, _, _, _, _, _, _, _, _, _, _, _] _
                repeat (go_big_quiet_step (fail))
                refine wpQuiet_nil ?_
                refine reg_call 7 _ (by kernel_rfl) rfl rfl ?_
                go_simp
                refine (vcnt V xk xa xw).mono ?_
                rintro e x1 ⟨rfl, hb⟩
                replace V := V.call hb
                replace R := R.call hb
                have T := TC.b T hb z4
                refine ⟨T, ?_⟩
                refine reg_call 15 _ (by kernel_rfl) rfl rfl ?_
                go_simp
                refine (rcnt R xk xa xw).mono ?_
                rintro e x2 ⟨rfl, hb⟩
                replace V := V.call hb
                replace R := R.call hb
                have T := TC.b T hb z4
                refine ⟨T, ?_⟩
                refine reg_seg (f := 5) (by kernel_rfl) [16, 17, 18, 19, 20, 21, 22, 23, 24, 26, 27, 28, 29, 30, 31, 32] _ _ _ T (by kernel_rfl) ?_
                simp only [pickL, List.filterMap_cons, List.filterMap_nil, List.getElem?_toArray, List.getElem?_cons_zero, List.getElem?_cons_succ]
                show wpQuiet _ _ _ _ [_, _, _, _, _, _, _, _, _, _, _, _, _, _, _, _] _
                repeat (go_big_quiet_step (fail))
                refine wpQuiet_nil ?_
                refine reg_call 25 _ (by kernel_rfl) rfl rfl ?_
                go_simp
                refine (vsum V xk xa xw).mono ?_
                rintro e x3 ⟨rfl, hb⟩
                replace V := V.call hb
                replace R := R.call hb
                have T := TC.b T hb z4
                refine ⟨T, ?_⟩
                refine reg_call 33 _ (by kernel_rfl) rfl rfl ?_
                go_simp
                refine (rsum R xk xa xw).mono ?_
                rintro e x4 ⟨rfl, hb⟩
                replace V := V.call hb
                replace R := R.call hb
                have T := TC.b T hb z4
                refine ⟨T, ?_⟩
                refine reg_seg (f := 0) (by kernel_rfl) [34, 35, 36] _ _ _ T (by kernel_rfl) ?_
                simp only [pickL, List.filterMap_cons, List.filterMap_nil, List.getElem?_toArray, List.getElem?_cons_zero, List.getElem?_cons_succ]
                show wpQuiet _ _ _ _ [_, _, _] _
                repeat (go_big_quiet_step (fail))
                refine wpQuiet_nil ?_
                refine reg_end (by kernel_rfl) ?_
                refine hKK _ _ ?_
                have z5 := Nat.le_trans z4 T.size
                have b5 : Below B w _ := b4.trans T.below
                go_wp2_with (first | (go_at_call 13; refine (vlen V).mono ?_; rintro e y ⟨rfl, rfl⟩) | (go_at_call 24; refine (rlen R).mono ?_; rintro e y ⟨rfl, rfl⟩))
                go_roundw
                case rel => exact ⟨k + 1, _, by omega, by go_num, V, R, z5, b5⟩
                case measure => simp [intOf]; omega
              · have n2 : (xc == 2) = false := by simpa using h2
                by_cases h3 : xc = 3
                · subst h3
                  have N : Below wr.heap.size wr (wr.alloc (.cells #[.int .u8 3, .string xk, .int .i64 xa, .int .i64 xm, .int .i64 xw] 47)) := (Below.refl _ _).alloc (Nat.le_refl _) _
                  have V4 := V.call N
                  have R4 := R.call N
                  have z4 := Nat.le_trans z N.size
                  have b4 := b.trans (N.mono z)
                  have BX := Blk.new wr 47 #[.int .u8 3, .string xk, .int .i64 xa, .int .i64 xm, .int .i64 xw]
                  clear V R z b N
                  go_wp2_with fail
                  rename_i K0 hKK
                  generalize wr.alloc (.cells #[.int .u8 3, .string xk, .int .i64 xa, .int .i64 xm, .int .i64 xw] 47) = w4 at V4 R4 z4 b4 BX ⊢
                  generalize wr.heap.size = pb at BX ⊢
                  have q1 := fun n : Cls (TC B w4) => (BX.turn n.2 rfl).c 1 _ rfl
                  have q2 := fun n : Cls (TC B w4) => (BX.turn n.2 rfl).c 2 _ rfl
                  have q3 := fun n : Cls (TC B w4) => (BX.turn n.2 rfl).c 3 _ rfl
                  have q4 := fun n : Cls (TC B w4) => (BX.turn n.2 rfl).c 4 _ rfl
                  refine wp_region_reg (TC B w4) 10 rfl (by kernel_rfl) ?_
                  have T : TC B w4 w4.drew := (Turn.refl _ _ _ _).drew
                  haveI : Nonempty (Cls (TC B w4)) := ⟨⟨_, T⟩⟩
                  have V := V4.drewN 1
                  have R := R4.drewN 1
                  refine reg_seg (f := 4) (by kernel_rfl) [0, 1, 2, 4, 5, 6] _ _ _ T (by kernel_rfl) ?_
                  simp only [pickL, List.filterMap_cons, List.filterMap_nil, List.getElem?_toArray, List.getElem?_cons_zero, List.getElem?_cons_succ]
                  show wpQuiet _ _ _ _ [_, _, _, _, _, _] _
                  repeat (go_big_quiet_step (fail))
                  refine wpQuiet_nil ?_
                  refine reg_call 3 _ (by kernel_rfl) rfl rfl ?_
                  go_simp
                  refine (vfor (Nat.le_trans z4 T.size) V xa).mono ?_
                  rintro e x1 ⟨rfl, V, T1⟩
                  replace R := R.turn T1
                  have T := TC.v T T1
                  refine ⟨T, ?_⟩
                  refine reg_call 7 _ (by kernel_rfl) rfl rfl ?_
                  go_simp
                  refine (rfor (Nat.le_trans z4 T.size) R xa).mono ?_
                  rintro e x2 ⟨rfl, R, T1⟩
                  replace V := V.turn T1
                  have T := TC.r T T1
                  refine ⟨T, ?_⟩
                  refine reg_seg (f := 0) (by kernel_rfl) [8, 9] _ _ _ T (by kernel_rfl) ?_
                  simp only [pickL, List.filterMap_cons, List.filterMap_nil, List.getElem?_toArray, List.getElem?_cons_zero, List.getElem?_cons_succ]
                  show wpQuiet _ _ _ _ [_, _] _
                  repeat (go_big_quiet_step (fail))
                  refine wpQuiet_nil ?_
                  refine reg_end (by kernel_rfl) ?_
                  refine hKK _ _ ?_
                  have z5 := Nat.le_trans z4 T.size
                  have b5 : Below B w _ := b4.trans T.below
                  go_wp2_with (first | (go_at_call 13; refine (vlen V).mono ?_; rintro e y ⟨rfl, rfl⟩) | (go_at_call 24; refine (rlen R).mono ?_; rintro e y ⟨rfl, rfl⟩))
                  go_roundw
                  case rel => exact ⟨k + 1, _, by omega, by go_num, V, R, z5, b5⟩
                  case measure => simp [intOf]; omega
                · have n3 : (xc == 3) = false := by simpa using h3
                  have N : Below wr.heap.size wr (wr.alloc (.cells #[.int .u8 xc, .string xk, .int .i64 xa, .int .i64 xm, .int .i64 xw] 47)) := (Below.refl _ _).alloc (Nat.le_refl _) _
                  have V4 := V.call N
                  have R4 := R.call N
                  have z4 := Nat.le_trans z N.size
                  have b4 := b.trans (N.mono z)
                  have BX := Blk.new wr 47 #[.int .u8 xc, .string xk, .int .i64 xa, .int .i64 xm, .int .i64 xw]
                  clear V R z b N
                  go_wp2_with (first | (go_at_call 14; refine (vlas V4 xk).mono ?_; rintro e y ⟨rfl, rfl⟩) | (go_at_call 23; refine (rlas R4 xk).mono ?_; rintro e y ⟨rfl, rfl⟩) | (go_at_call 13; refine (vlen V4).mono ?_; rintro e y ⟨rfl, rfl⟩) | (go_at_call 24; refine (rlen R4).mono ?_; rintro e y ⟨rfl, rfl⟩))
                  go_roundw
                  case rel => exact ⟨k + 1, _, by omega, by go_num, V4, R4, z4, b4⟩
                  case measure => simp [intOf]; omega
      · go_wp2_with (go_at_call 8; refine (awake_any _).mono ?_; rintro e w8 ⟨rfl, b8⟩)
        go_ret
        refine ⟨rfl, ?_⟩
        rw [HB.out]
        exact b.trans (b8.mono z)
end Go.Proofs.Ytieimeahppmefaa
