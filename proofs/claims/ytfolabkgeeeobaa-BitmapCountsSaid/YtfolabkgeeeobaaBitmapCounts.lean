/-
  cardnetlaw05.BitmapCounts returns true for all bitmaps, and they read behind the call as before it: the numbers of unions and differences add up. No condition.
-/
import Derived.Test.YtfolabkgeeeobaaWm
import Derived.Test.YtfolabkgeeeobaaRow
import Derived.WalkKit
import Derived.ProofKit
import Derived.OpenShut
import Derived.ChangeOld
import Derived.Below
namespace Go.Proofs.Ytfolabkgeeeobaa.bitmapCounts
open Go.ChangeShapes Go.WideShapes Go.ChangeAt Go.RowKit
set_option linter.unusedVariables false

theorem own : ownKnob Try.prog.godebug = none := by kernel_rfl
theorem laidOut : laidOutB Try.prog = true := by kernel_rfl
theorem wd {n : Int} (h : (Lit.int .u64 n).wf = true) : Wd n := by
  simp [Lit.wf, IntKind.min, IntKind.max, IntKind.signed, IntKind.bits] at h
  unfold Wd
  omega

theorem walk (a b c d : Int) (w : World) (ha : Wd a) (hb : Wd b) (hc : Wd c) (hd : Wd d) :
    Calls Try.prog 6 #[.agg #[.int .u64 a, .int .u64 b], .agg #[.int .u64 c, .int .u64 d]] w fun e w' => e = .returned (.bool true) ∧ Below w.heap.size w w' := by
  have hu := fun w => union_any c d a b w
  rw [orI_comm hc ha, orI_comm hd hb] at hu
  refine law_counts_of a b c d (clr a) b (clr (orI a c)) (orI b d) (clr (anI c a)) (anI d b) (clr (anI a a)) (anI b b) (cntB (clr (orI a c)) (orI b d) : Nat) (cntB a b : Nat) (cntB (clr (anI c a)) (anI d b) : Nat) (lst (hasR a b) 127) w (lst_len _ _) ?_ (fun w => list_any a b w ha hb) (fun w => ?_) (fun w => union_any a b c d w) hu (fun w => minus_any c d a b w) (fun w => minus_any a b a b w)
    (fun w => count_any _ _ w (clr_wd (orI_wd ha hc)) (orI_wd hb hd)) (fun w => count_any a b w ha hb) (fun w => count_any _ _ w (clr_wd (anI_wd hc ha)) (anI_wd hd hb)) (fun w => ?_) ?_
  · rw [of_list ha hb]; rfl
  · rw [← list_clr ha]
    exact list_any (clr a) b w (clr_wd ha) hb
  · have := count_any (clr (anI a a)) (anI b b) w (clr_wd (anI_wd ha ha)) (anI_wd hb hb)
    rw [count_self ha hb] at this
    exact this
  · rw [count_join ha hb hc hd]
    have e1 : cntB a b ≤ 128 := by have := pop_le (clr a); have := pop_le b; unfold cntB; omega
    have e2 : cntB (clr (anI c a)) (anI d b) ≤ 128 := by have := pop_le (clr (clr (anI c a))); have := pop_le (anI d b); unfold cntB; omega
    unfold wrap64
    omega

set_option maxRecDepth 100000 in
theorem lifted (os : Os) (started : os.Started) (H : Type) (enc : TypeId × Value → H) :
    ReturnsInHanded {} Try.checked os 6 .any (Rows.bitmapCountsSpec.pre6 enc Try.prog Try.f6 Rows.bitmapCountsRow.domain false) (Rows.bitmapCountsSpec.post enc Try.prog Try.f6 false true false false) := by
  refine returnsInHanded_of_change (C := Try.checked) own started (by kernel_rfl) Try.func6
    (ChangeSpec.witness6 (enc := enc) (C := Try.checked) false ⟨#[], #[.agg #[.int .u64 0, .int .u64 0], .agg #[.int .u64 0, .int .u64 0]], []⟩ 8 (by kernel_rfl) (by kernel_rfl) (by kernel_rfl) (by kernel_rfl)) ?_
  intro W base args ds gs before hval0 hW hcnd _
  have hval : ∀ (j : Nat) t v, Try.f6.params[j]? = some t → args[j]? = some v → Value.okWide Try.prog W .any base t v := hval0
  have hW' := hW
  obtain ⟨p, q, hA0, hV, rfl, hfz, hnd⟩ := hW
  have hA : DataW.TrodAll enc Try.prog W 0 (fun _ => true) true Try.f6.params.toList args.toList ds p := hA0
  rw [Try.params6] at hA hval
  obtain ⟨v0, vs0, d0, ds0, p0, q0, hargs, rfl, rfl, h0, r0⟩ := trodAll_cons hA
  obtain ⟨v1, vs1, d1, ds1, p1, q1, hargs1, rfl, rfl, h1, r1⟩ := trodAll_cons r0
  obtain ⟨rfl, rfl, rfl⟩ := trodAll_nil r1
  obtain rfl : args = #[v0, v1] := by cases args; simp_all
  obtain ⟨rfl, rfl⟩ := trodVars_none hV
  have k0 := h0
  have k1 := h1
  have lt0 : ∀ x ∈ p0, x.block < W.heap.size := by obtain ⟨m, hm⟩ := k0; exact DataW.trod_lt m _ _ _ hm
  have lt1 : ∀ x ∈ p1, x.block < W.heap.size := by obtain ⟨m, hm⟩ := k1; exact DataW.trod_lt m _ _ _ hm
  obtain ⟨a, b, rfl, wa, wb⟩ := open_words Try.underlying26 Try.underlying24 (by kernel_rfl) (by kernel_rfl) (hval 0 26 v0 rfl rfl) h0
  obtain ⟨c, d, rfl, wc, wdd⟩ := open_words Try.underlying26 Try.underlying24 (by kernel_rfl) (by kernel_rfl) (hval 1 26 v1 rfl rfl) h1
  clear hA0 hval0
  refine (walk a b c d W (wd wa) (wd wb) (wd wc) (wd wdd)).mono fun e W' ⟨he, bel⟩ => ?_
  subst he
  exact ⟨_, rfl, _, _, _, [], _, [], hW', trodAll_mk1 (shut_bool Try.underlying4 _), (trodAll_cons_mk (Below.trod laidOut (by kernel_rfl) (of_decide_eq_true (by kernel_rfl)) k0 bel lt0) (trodAll_cons_mk (Below.trod laidOut (by kernel_rfl) (of_decide_eq_true (by kernel_rfl)) k1 bel lt1) trodAll_mk0)), rfl, bel.frame _, fun h => by cases h⟩

theorem over : Rows.bitmapCountsRow.holds Try.pinned (OpenSpec.ofChange Rows.bitmapCountsSpec) :=
  OpenClaim.holds_of_wide 6 Try.f6 rfl rfl rfl rfl rfl rfl rfl ⟨rfl, rfl, rfl, rfl, rfl⟩ rfl rfl rfl rfl rfl (by kernel_rfl) Try.func6 (by kernel_rfl)
    (of_decide_eq_true (by kernel_rfl)) (by unfold Func.isWrapper; first | (rw [if_pos (by decide +kernel)]; kernel_rfl) | (rw [if_neg (by decide +kernel)]; exact ⟨rfl, rfl⟩))
    (fun os started H enc _ => lifted os started H enc)

theorem proved : Rows.BitmapCountsSaid := over
#print axioms proved
end Go.Proofs.Ytfolabkgeeeobaa.bitmapCounts
