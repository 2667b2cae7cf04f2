/-
  cardnetlaw19.ExchangeOutcome returns true for every timeout and every sequence of steps, and they read behind the call as before it: a request is answered once or lost once, never both, and Lost reports it when its time is over. No condition.
-/
import Derived.Test.YtgacpkbpbckgiaaWn
import Derived.Test.YtgacpkbpbckgiaaRowS
import Derived.WalkKit
import Derived.ProofKit
import Derived.OpenShut
import Derived.ShutString
import Derived.ChangeOld
import Derived.Below
namespace Go.Proofs.Ytgacpkbpbckgiaa.exchangeOutcome
open Go.ChangeShapes Go.WideShapes Go.ChangeAt Go.RowKit
open Go.ChangeMaps (open_string)
set_option linter.unusedVariables false

theorem own : ownKnob Try.prog.godebug = none := by kernel_rfl
theorem laidOut : laidOutB Try.prog = true := by kernel_rfl
theorem bd8 {n : Int} (h : (Lit.int .u8 n).wf = true) : 0 ≤ n ∧ n ≤ 255 := by
  simp [Lit.wf, IntKind.min, IntKind.max, IntKind.signed, IntKind.bits] at h
  omega
def IsSteps (w : World) (a : Option Addr) (n : Nat) (l : List Stp) : Prop := l.length = n ∧ n ≤ 9223372036854775807 ∧ RD w a (n * 3) (l.flatMap stC) ∧ ∀ x ∈ l, (0 ≤ x.kd ∧ x.kd ≤ 255) ∧ (0 ≤ x.ky ∧ x.ky ≤ 255) ∧ (0 ≤ x.la ∧ x.la ≤ 255)

set_option maxRecDepth 100000 in
theorem lifted (os : Os) (started : os.Started) (H : Type) (enc : TypeId × Value → H) :
    ReturnsInHanded {} Try.checked os 4 .any (Rows.exchangeOutcomeSpec.pre6 enc Try.prog Try.f4 Rows.exchangeOutcomeRow.domain false) (Rows.exchangeOutcomeSpec.post enc Try.prog Try.f4 false true false false) := by
  refine returnsInHanded_of_change (C := Try.checked) own started (by kernel_rfl) Try.func4
    (ChangeSpec.witness6 (enc := enc) (C := Try.checked) false ⟨#[], #[.int .u8 0, .slice none 0 0], []⟩ 8 (by kernel_rfl) (by kernel_rfl) (by kernel_rfl) (by kernel_rfl)) ?_
  intro W base args ds gs before hval0 hW hcnd _
  have hval : ∀ (j : Nat) t v, Try.f4.params[j]? = some t → args[j]? = some v → Value.okWide Try.prog W .any base t v := hval0
  have hW' := hW
  obtain ⟨p, q, hA0, hV, rfl, hfz, hnd⟩ := hW
  have hA : DataW.TrodAll enc Try.prog W 0 (fun _ => true) true Try.f4.params.toList args.toList ds p := hA0
  rw [Try.params4] at hA hval
  obtain ⟨v0, vs0, d0, ds0, p0, q0, hargs0, rfl, rfl, h0, r0⟩ := trodAll_cons hA
  obtain ⟨v1, vs1, d1, ds1, p1, q1, hargs1, rfl, rfl, h1, r1⟩ := trodAll_cons r0
  obtain ⟨rfl, rfl, rfl⟩ := trodAll_nil r1
  obtain rfl : args = #[v0, v1] := by cases args; simp_all
  obtain ⟨rfl, rfl⟩ := trodVars_none hV
  have k0 := h0
  have k1 := h1
  have lt0 : ∀ x ∈ p0, x.block < W.heap.size := by obtain ⟨m, hm⟩ := k0; exact DataW.trod_lt m _ _ _ hm
  have lt1 : ∀ x ∈ p1, x.block < W.heap.size := by obtain ⟨m, hm⟩ := k1; exact DataW.trod_lt m _ _ _ hm
  obtain ⟨a0, rfl, _, _, wa0⟩ := open_int Try.underlying5 (hval 0 5 v0 rfl rfl) h0
  obtain ⟨A1, n1, c1, rfl⟩ := okWide_slice Try.underlying52 (hval 1 52 v1 rfl rfl)
  obtain ⟨l1, wl1⟩ : ∃ l, IsSteps W A1 n1 l := by
    obtain ⟨fuel, hf⟩ := h1
    rcases open_cells Try.underlying52 Try.underlying55 (by kernel_rfl) (by kernel_rfl) hf rfl with hv | ⟨a, len, cap, hv, hl, hm, hcell⟩
    · injection hv with e1 e2 e3
      subst e1 e2
      exact ⟨[], rfl, by omega, RD.nil W, by simp⟩
    · injection hv with e1 e2 e3
      subst e1 e2
      unfold maxLen at hm
      obtain ⟨l, hll, hc⟩ := records (α := { x : Stp // (0 ≤ x.kd ∧ x.kd ≤ 255) ∧ (0 ≤ x.ky ∧ x.ky ≤ 255) ∧ (0 ≤ x.la ∧ x.la ≤ 255) }) (fun x => stC x.1) 3 (fun _ => rfl) (w := W) (a := a) n1 (fun i hi => by
        obtain ⟨_, u0, y0, k0, t0⟩ := hcell i hi 0 _ rfl
        obtain ⟨_, u1, y1, k1, t1⟩ := hcell i hi 1 _ rfl
        obtain ⟨_, u2, y2, k2, t2⟩ := hcell i hi 2 _ rfl
        obtain ⟨z0, rfl, w0⟩ := field_int Try.underlying5 t0
        obtain ⟨z1, rfl, w1⟩ := field_int Try.underlying5 t1
        obtain ⟨z2, rfl, w2⟩ := field_int Try.underlying5 t2
        refine ⟨⟨⟨z0, z1, z2⟩, bd8 w0, bd8 w1, bd8 w2⟩, fun j u hu => ?_⟩
        match j, hu with
        | 0, hu => simp [stC] at hu; subst hu; exact k0
        | 1, hu => simp [stC] at hu; subst hu; exact k1
        | 2, hu => simp [stC] at hu; subst hu; exact k2
        | j + 3, hu => simp [stC] at hu)
      have e : (l.map (·.1)).flatMap stC = l.flatMap fun x => stC x.1 := by rw [List.flatMap_map]
      have el : (l.flatMap fun x => stC x.1).length = n1 * 3 := by
        rw [← hll]
        clear hll hc e
        induction l with
        | nil => rfl
        | cons x l ih => rw [List.flatMap_cons, List.length_append, ih, List.length_cons]; show 3 + _ = _; omega
      refine ⟨l.map (·.1), by simpa using hll, by omega, ?_, fun x hx => ?_⟩
      · rw [e, ← el]
        exact RD.of_addr hc
      · obtain ⟨y, _, rfl⟩ := List.mem_map.1 hx
        exact y.2
  clear hA0 hval0
  refine (law_outcome a0 A1 n1 c1 l1 W wl1.1 wl1.2.1 wl1.2.2.1 wl1.2.2.2 (bd8 wa0)).mono fun e W' ⟨he, bel⟩ => ?_
  subst he
  exact ⟨_, rfl, _, _, _, [], _, [], hW', trodAll_mk1 (shut_bool Try.underlying4 _), (trodAll_cons_mk (Below.trod laidOut (by kernel_rfl) (of_decide_eq_true (by kernel_rfl)) k0 bel lt0) (trodAll_cons_mk (Below.trod laidOut (by kernel_rfl) (of_decide_eq_true (by kernel_rfl)) k1 bel lt1) trodAll_mk0)), rfl, bel.frame _, fun h => by cases h⟩

theorem over : Rows.exchangeOutcomeRow.holds Try.pinned (OpenSpec.ofChange Rows.exchangeOutcomeSpec) :=
  OpenClaim.holds_of_wide 4 Try.f4 rfl rfl rfl rfl rfl rfl rfl ⟨rfl, rfl, rfl, rfl, rfl⟩ rfl rfl rfl rfl rfl (by kernel_rfl) Try.func4 (by kernel_rfl)
    (of_decide_eq_true (by kernel_rfl)) (by unfold Func.isWrapper; first | (rw [if_pos (by decide +kernel)]; kernel_rfl) | (rw [if_neg (by decide +kernel)]; exact ⟨rfl, rfl⟩))
    (fun os started H enc _ => lifted os started H enc)

theorem proved : Rows.ExchangeOutcomeSaid := over
#print axioms proved
end Go.Proofs.Ytgacpkbpbckgiaa.exchangeOutcome
