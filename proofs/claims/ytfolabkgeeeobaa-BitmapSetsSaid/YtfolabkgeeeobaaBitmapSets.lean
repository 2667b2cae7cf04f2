/-
  cardnetlaw05.BitmapSets returns true for all bitmaps and all numbers, and they read behind the call as before it: Has, Set, Clear, List and Count are those of the chapter. No condition.
-/
import Derived.Test.YtfolabkgeeeobaaWl
import Derived.Test.YtfolabkgeeeobaaRow
import Derived.WalkKit
import Derived.ProofKit
import Derived.OpenShut
import Derived.ChangeOld
import Derived.Below
namespace Go.Proofs.Ytfolabkgeeeobaa.bitmapSets
open Go.ChangeShapes Go.WideShapes Go.ChangeAt Go.RowKit
set_option linter.unusedVariables false

theorem own : ownKnob Try.prog.godebug = none := by kernel_rfl
theorem laidOut : laidOutB Try.prog = true := by kernel_rfl
theorem wd {n : Int} (h : (Lit.int .u64 n).wf = true) : Wd n := by
  simp [Lit.wf, IntKind.min, IntKind.max, IntKind.signed, IntKind.bits] at h
  unfold Wd
  omega

theorem walk (x y n : Int) (w : World) (hx : Wd x) (hy : Wd y) :
    Calls Try.prog 7 #[.agg #[.int .u64 x, .int .u64 y], .int .i64 n] w fun e w' => e = .returned (.bool true) ∧ Below w.heap.size w w' := by
  by_cases h : 2 ≤ n ∧ n ≤ 128
  · refine law_sets_of x y n (setX n x) (setY n y) 0 (cutX n x) (cutY n y) 0 (hasR x y n) w hx hy (fun w => set_yes x y n w h.1 h.2) (fun w => rset_any x y n w _ _ _ (by rw [rset_yes hx hy h.1 h.2]; rfl)) (fun w => ?_) (fun w => rclear_yes x y n w hx hy h.1 h.2) (fun w => ?_) (fun w => rhas_in x y n w h.1 h.2)
    · by_cases h64 : n ≤ 64
      · exact clear_lo x y n w h.1 h64
      · exact clear_hi x y n w (by omega) h.2
    · rw [← has_eq hx hy h.1 h.2]
      exact has_in x y n w h.1 h.2
  · have h' : n < 2 ∨ 128 < n := by omega
    exact law_sets_of x y n 0 0 4 0 0 4 false w hx hy (fun w => set_no x y n w h') (fun w => rset_any x y n w _ _ _ (by rw [rset_no x y h']; rfl)) (fun w => clear_no x y n w h') (fun w => rclear_no x y n w h') (fun w => has_out x y n w h') (fun w => rhas_out x y n w h')

set_option maxRecDepth 100000 in
theorem lifted (os : Os) (started : os.Started) (H : Type) (enc : TypeId × Value → H) :
    ReturnsInHanded {} Try.checked os 7 .any (Rows.bitmapSetsSpec.pre6 enc Try.prog Try.f7 Rows.bitmapSetsRow.domain false) (Rows.bitmapSetsSpec.post enc Try.prog Try.f7 false true false false) := by
  refine returnsInHanded_of_change (C := Try.checked) own started (by kernel_rfl) Try.func7
    (ChangeSpec.witness6 (enc := enc) (C := Try.checked) false ⟨#[], #[.agg #[.int .u64 0, .int .u64 0], .int .i64 0], []⟩ 8 (by kernel_rfl) (by kernel_rfl) (by kernel_rfl) (by kernel_rfl)) ?_
  intro W base args ds gs before hval0 hW hcnd _
  have hval : ∀ (j : Nat) t v, Try.f7.params[j]? = some t → args[j]? = some v → Value.okWide Try.prog W .any base t v := hval0
  have hW' := hW
  obtain ⟨p, q, hA0, hV, rfl, hfz, hnd⟩ := hW
  have hA : DataW.TrodAll enc Try.prog W 0 (fun _ => true) true Try.f7.params.toList args.toList ds p := hA0
  rw [Try.params7] at hA hval
  obtain ⟨v0, vs0, d0, ds0, p0, q0, hargs, rfl, rfl, h0, r0⟩ := trodAll_cons hA
  obtain ⟨v1, vs1, d1, ds1, p1, q1, hargs1, rfl, rfl, h1, r1⟩ := trodAll_cons r0
  obtain ⟨rfl, rfl, rfl⟩ := trodAll_nil r1
  obtain rfl : args = #[v0, v1] := by cases args; simp_all
  obtain ⟨rfl, rfl⟩ := trodVars_none hV
  have k0 := h0
  have k1 := h1
  have lt0 : ∀ x ∈ p0, x.block < W.heap.size := by obtain ⟨m, hm⟩ := k0; exact DataW.trod_lt m _ _ _ hm
  have lt1 : ∀ x ∈ p1, x.block < W.heap.size := by obtain ⟨m, hm⟩ := k1; exact DataW.trod_lt m _ _ _ hm
  obtain ⟨a, b, rfl, wa, wb⟩ := open_words Try.underlying26 Try.underlying24 (by kernel_rfl) (by kernel_rfl) (hval 0 26 v0 rfl rfl) h0
  obtain ⟨n, rfl, _⟩ := open_int Try.underlying3 (hval 1 3 v1 rfl rfl) h1
  clear hA0 hval0
  refine (walk a b n W (wd wa) (wd wb)).mono fun e W' ⟨he, bel⟩ => ?_
  subst he
  exact ⟨_, rfl, _, _, _, [], _, [], hW', trodAll_mk1 (shut_bool Try.underlying4 _), (trodAll_cons_mk (Below.trod laidOut (by kernel_rfl) (of_decide_eq_true (by kernel_rfl)) k0 bel lt0) (trodAll_cons_mk (Below.trod laidOut (by kernel_rfl) (of_decide_eq_true (by kernel_rfl)) k1 bel lt1) trodAll_mk0)), rfl, bel.frame _, fun h => by cases h⟩

theorem over : Rows.bitmapSetsRow.holds Try.pinned (OpenSpec.ofChange Rows.bitmapSetsSpec) :=
  OpenClaim.holds_of_wide 7 Try.f7 rfl rfl rfl rfl rfl rfl rfl ⟨rfl, rfl, rfl, rfl, rfl⟩ rfl rfl rfl rfl rfl (by kernel_rfl) Try.func7 (by kernel_rfl)
    (of_decide_eq_true (by kernel_rfl)) (by unfold Func.isWrapper; first | (rw [if_pos (by decide +kernel)]; kernel_rfl) | (rw [if_neg (by decide +kernel)]; exact ⟨rfl, rfl⟩))
    (fun os started H enc _ => lifted os started H enc)

theorem proved : Rows.BitmapSetsSaid := over
#print axioms proved
end Go.Proofs.Ytfolabkgeeeobaa.bitmapSets
