/-
  Walks over the chapter's Set and Clear, for all numbers. No condition.
-/
import Derived.Test.YtfolabkgeeeobaaPd
namespace Go.Proofs.Ytfolabkgeeeobaa
open Go.RowKit

set_option maxRecDepth 100000 in
set_option maxHeartbeats 400000 in
theorem rset_any (x y n : Int) (w : World) (r0 r1 re : Int) (hr : ofRes (ofR (lst (hasR x y) 127 ++ [n]) 0 0) = .tuple #[.agg #[.int .u64 r0, .int .u64 r1], .int .i64 re]) :
    Calls Try.prog 24 #[.agg #[.int .u64 x, .int .u64 y], .int .i64 n] w fun e w' => e = .returned (.tuple #[.agg #[.int .u64 r0, .int .u64 r1], .int .i64 re]) ∧ Below w.heap.size w w' := by
  have HR := Lib.hid hr
  clear hr
  have iss := isSome_setCell
  have ll := lst_len (hasR x y) 127
  go_enter Try.func24, Try.ntmps24
  have hne : w.heap.size ≠ w.heap.size + 1 := by omega
  go_wp2_with (first
    | (go_at_call 29; refine (rlist_any _ _ _).mono ?_; rintro e w1 ⟨v, rfl, own, hb⟩
       have R1 := (Blk.new (w.alloc (.cells #[.int .u64 x, .int .u64 y] 26)) 26 #[.int .u64 0, .int .u64 0]).call hb
       simp only [World.size_alloc] at R1
       have z1 := hb.size)
    | (at_builtin; refine wpList_push intE _ _ rfl rfl _ _ _ _ rfl (own.alloc _) _ #[.int .i64 n] (Blk.new w1 3 _) rfl rfl (fun u hu => by simp at hu; subst hu; rfl) (by unfold maxLen; omega) (by omega) (by simp at z1 ⊢; omega) ?_
       intro g cap w2 own2 hg2 hor
       have R2 := (R1.alloc (.cells #[.int .i64 n] 3)).grown hg2 (Ne.symm (own_blk_ne own (R1) (by decide))))
    | (go_at_call 11; refine (rof_any _ _ _ (lst (hasR x y) 127 ++ [n]) _ (by simp) (by omega) (RD.of_own (by simpa using own2))).mono ?_; rintro e w3 ⟨rfl, hb3⟩; rw [HR.out]; have R3 := R2.call hb3; have c0 := R3.c0; have c1 := R3.c1; have f0 := R3.frozen; have l0 := R3.lt))
  have zz := R1.lt
  refine post_cell2 (w.heap.size + 1) (.int .u64 r0) (.int .u64 r1) (.int .i64 re) Try.results24 rfl rfl Try.isAgg26 Try.sizeOf26 ((R3.s0 _).s1 _) rfl ⟨rfl, ?_⟩
  have b1 : Below w.heap.size w w1 := (((Below.refl _ _).alloc (Nat.le_refl _) _).alloc (by simp) _).trans (hb.mono (by simp; omega))
  have b2 := below_grown (b1.alloc (by omega) (.cells #[.int .i64 n] 3)) (own.alloc _) hg2 (by simp; omega) (by simp; omega)
  exact ((b2.trans (hb3.mono b2.size)).setCell (by simp) _).setCell (by simp) _

set_option maxRecDepth 100000 in
theorem rclear_no (x y n : Int) (w : World) (h : n < 2 ∨ 128 < n) :
    Calls Try.prog 26 #[.agg #[.int .u64 x, .int .u64 y], .int .i64 n] w fun e w' => e = .returned (.tuple #[.agg #[.int .u64 0, .int .u64 0], .int .i64 4]) ∧ Below w.heap.size w w' := by
  have HR := Lib.hid (show ofRes (ofR [n] 0 0) = .tuple #[.agg #[.int .u64 0, .int .u64 0], .int .i64 4] by rw [rone_no h]; rfl)
  clear h
  have iss := isSome_setCell
  have RB := RD.of_blk (Blk.new ((w.alloc (.cells #[.int .u64 x, .int .u64 y] 26)).alloc (.cells #[.int .u64 0, .int .u64 0] 26)) 3 #[.int .i64 n])
  simp only [World.size_alloc] at RB
  go_enter Try.func26, Try.ntmps26
  go_wp2_with (first
    | (go_at_call 11; refine (rof_any _ 1 _ [n] _ rfl (by decide) RB).mono ?_; rintro e w1 ⟨rfl, hb⟩; rw [HR.out]
       have R1 := ((Blk.new (w.alloc (.cells #[.int .u64 x, .int .u64 y] 26)) 26 #[.int .u64 0, .int .u64 0]).alloc (.cells #[.int .i64 n] 3)).call hb
       simp only [World.size_alloc] at R1
       have c0 := R1.c0; have c1 := R1.c1; have f0 := R1.frozen; have l0 := R1.lt))
  refine post_cell2 (w.heap.size + 1) (.int .u64 0) (.int .u64 0) (.int .i64 4) Try.results26 rfl rfl Try.isAgg26 Try.sizeOf26 (((R1.s0 _).s1 _).alloc _) rfl ⟨rfl, ?_⟩
  have z1 := hb.size
  simp at z1
  repeat' (first | refine Below.setCell ?_ (by simp <;> omega) _ | refine Below.alloc ?_ (by first | omega | (simp <;> omega)) _ | exact Below.refl _ _ | refine Below.trans ?_ (hb.mono (by simp <;> omega)))

set_option maxRecDepth 100000 in
set_option maxHeartbeats 400000 in
theorem rclear_yes (x y n : Int) (w : World) (hx : Wd x) (hy : Wd y) (h2 : 2 ≤ n) (h3 : n ≤ 128) :
    Calls Try.prog 26 #[.agg #[.int .u64 x, .int .u64 y], .int .i64 n] w fun e w' => e = .returned (.tuple #[.agg #[.int .u64 (cutX n x), .int .u64 (cutY n y)], .int .i64 0]) ∧ Below w.heap.size w w' := by
  have HR := Lib.hid (show ofRes (ofR [n] 0 0) = .tuple #[.agg #[.int .u64 (sorX n 0), .int .u64 (sorY n 0)], .int .i64 0] by rw [rone_yes h2 h3]; rfl)
  have HM := Lib.hid (minus_eq hx hy (sorX_wd h2 h3) (sorY_wd h2 h3))
  rw [(cut_eq hx hy h2 h3).1, (cut_eq hx hy h2 h3).2] at HM
  clear hx hy h2 h3
  have iss := isSome_setCell
  have RB := RD.of_blk (Blk.new ((w.alloc (.cells #[.int .u64 x, .int .u64 y] 26)).alloc (.cells #[.int .u64 0, .int .u64 0] 26)) 3 #[.int .i64 n])
  simp only [World.size_alloc] at RB
  go_enter Try.func26, Try.ntmps26
  go_wp2_with (first
    | (go_at_call 11; refine (rof_any _ 1 _ [n] _ rfl (by decide) RB).mono ?_; rintro e w1 ⟨rfl, hb⟩; rw [HR.out]
       have R0 := ((Blk.new w 26 #[.int .u64 x, .int .u64 y]).alloc (.cells #[.int .u64 0, .int .u64 0] 26)).alloc (.cells #[.int .i64 n] 3) |>.call hb
       have R1 := ((Blk.new (w.alloc (.cells #[.int .u64 x, .int .u64 y] 26)) 26 #[.int .u64 0, .int .u64 0]).alloc (.cells #[.int .i64 n] 3)).call hb
       simp only [World.size_alloc] at R1
       have c0 := R0.c0; have c1 := R0.c1; have c2 := R1.c0; have c3 := R1.c1; have f0 := R1.frozen; have l0 := R1.lt; have l2 := R0.lt)
    | (go_at_call 15; refine (rminus_any x y (sorX n 0) (sorY n 0) _ _ _ HM.out).mono ?_; rintro e w2 ⟨rfl, hb2⟩
       have S1 := (R1.alloc (.cells #[.int .u64 (sorX n 0), .int .u64 (sorY n 0)] 26)).call hb2
       have d0 := S1.c0; have d1 := S1.c1; have f1 := S1.frozen; have l1 := S1.lt))
  refine post_cell2 (w.heap.size + 1) (.int .u64 (cutX n x)) (.int .u64 (cutY n y)) (.int .i64 0) Try.results26 rfl rfl Try.isAgg26 Try.sizeOf26 ((S1.s0 _).s1 _) rfl ⟨rfl, ?_⟩
  have z1 := hb.size
  have z2 := hb2.size
  simp at z1 z2
  repeat' (first | refine Below.setCell ?_ (by simp <;> omega) _ | refine Below.trans ?_ (hb2.mono (by simp <;> omega)) | refine Below.alloc ?_ (by first | omega | (simp <;> omega)) _ | exact Below.refl _ _ | refine Below.trans ?_ (hb.mono (by simp <;> omega)))
end Go.Proofs.Ytfolabkgeeeobaa
