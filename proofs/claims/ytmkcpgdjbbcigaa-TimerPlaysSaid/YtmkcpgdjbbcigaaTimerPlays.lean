/-
  cardnetlaw17.TimerPlays returns true for every sequence of calls, and it reads behind the call as before it: every call returns what the chapter describes, for at most 80 calls with names of at most 100 bytes. No condition.
-/
import Derived.Test.YtmkcpgdjbbcigaaWx
import Derived.Test.YtmkcpgdjbbcigaaRowS
import Derived.WalkKit
import Derived.ProofKit
import Derived.OpenShut
import Derived.ShutString
import Derived.ChangeOld
import Derived.Below
namespace Go.Proofs.Ytmkcpgdjbbcigaa.timerPlays
open Go.ChangeShapes Go.WideShapes Go.ChangeAt Go.RowKit
open Go.ChangeMaps (open_string)
set_option linter.unusedVariables false

theorem own : ownKnob Try.prog.godebug = none := by kernel_rfl
theorem laidOut : laidOutB Try.prog = true := by kernel_rfl
theorem bd8 {n : Int} (h : (Lit.int .u8 n).wf = true) : 0 ≤ n ∧ n ≤ 255 := by
  simp [Lit.wf, IntKind.min, IntKind.max, IntKind.signed, IntKind.bits] at h
  omega
def IsSteps (w : World) (a : Option Addr) (n : Nat) (l : List St) : Prop := l.length = n ∧ n ≤ 9223372036854775807 ∧ RD w a (n * 3) (l.flatMap stC) ∧ ∀ x ∈ l, (0 ≤ x.call ∧ x.call ≤ 255) ∧ x.id.size ≤ 9223372036854775807

set_option maxRecDepth 100000 in
theorem lifted (os : Os) (started : os.Started) (H : Type) (enc : TypeId × Value → H) :
    ReturnsInHanded {} Try.checked os 3 .any (Rows.timerPlaysSpec.pre6 enc Try.prog Try.f3 Rows.timerPlaysRow.domain false) (Rows.timerPlaysSpec.post enc Try.prog Try.f3 false true false false) := by
  refine returnsInHanded_of_change (C := Try.checked) own started (by kernel_rfl) Try.func3
    (ChangeSpec.witness6 (enc := enc) (C := Try.checked) false ⟨#[], #[.slice none 0 0], []⟩ 8 (by kernel_rfl) (by kernel_rfl) (by kernel_rfl) (by kernel_rfl)) ?_
  intro W base args ds gs before hval0 hW hcnd _
  have hval : ∀ (j : Nat) t v, Try.f3.params[j]? = some t → args[j]? = some v → Value.okWide Try.prog W .any base t v := hval0
  have hW' := hW
  obtain ⟨p, q, hA0, hV, rfl, hfz, hnd⟩ := hW
  have hA : DataW.TrodAll enc Try.prog W 0 (fun _ => true) true Try.f3.params.toList args.toList ds p := hA0
  rw [Try.params3] at hA hval
  obtain ⟨v0, vs0, d0, ds0, p0, q0, hargs0, rfl, rfl, h0, r0⟩ := trodAll_cons hA
  obtain ⟨rfl, rfl, rfl⟩ := trodAll_nil r0
  obtain rfl : args = #[v0] := by cases args; simp_all
  obtain ⟨rfl, rfl⟩ := trodVars_none hV
  have k0 := h0
  have lt0 : ∀ x ∈ p0, x.block < W.heap.size := by obtain ⟨m, hm⟩ := k0; exact DataW.trod_lt m _ _ _ hm
  obtain ⟨A0, n0, c0, rfl⟩ := okWide_slice Try.underlying22 (hval 0 22 v0 rfl rfl)
  obtain ⟨l0, wl0⟩ : ∃ l, IsSteps W A0 n0 l := by
    obtain ⟨fuel, hf⟩ := h0
    rcases open_cells Try.underlying22 Try.underlying30 (by kernel_rfl) (by kernel_rfl) hf rfl with hv | ⟨a, len, cap, hv, hl, hm, hcell⟩
    · injection hv with e1 e2 e3
      subst e1 e2
      exact ⟨[], rfl, by omega, RD.nil W, by simp⟩
    · injection hv with e1 e2 e3
      subst e1 e2
      unfold maxLen at hm
      obtain ⟨l, hll, hc⟩ := records (α := { x : St // (0 ≤ x.call ∧ x.call ≤ 255) ∧ x.id.size ≤ 9223372036854775807 }) (fun x => stC x.1) 3 (fun _ => rfl) (w := W) (a := a) n0 (fun i hi => by
        obtain ⟨_, u0, y0, k0, t0⟩ := hcell i hi 0 _ rfl
        obtain ⟨_, u1, y1, k1, t1⟩ := hcell i hi 1 _ rfl
        obtain ⟨_, u2, y2, k2, t2⟩ := hcell i hi 2 _ rfl
        obtain ⟨z0, rfl, w0⟩ := field_int Try.underlying5 t0
        obtain ⟨z1, rfl, w1⟩ := field_string Try.underlying9 t1
        obtain ⟨z2, rfl, w2⟩ := field_int Try.underlying3 t2
        refine ⟨⟨⟨z0, z1, z2⟩, bd8 w0, w1⟩, fun j u hu => ?_⟩
        match j, hu with
        | 0, hu => simp [stC] at hu; subst hu; exact k0
        | 1, hu => simp [stC] at hu; subst hu; exact k1
        | 2, hu => simp [stC] at hu; subst hu; exact k2
        | j + 3, hu => simp [stC] at hu)
      have e : (l.map (·.1)).flatMap stC = l.flatMap fun x => stC x.1 := by rw [List.flatMap_map]
      have el : (l.flatMap fun x => stC x.1).length = n0 * 3 := by
        rw [← hll]
        clear hll hc e
        induction l with
        | nil => rfl
        | cons x l ih => rw [List.flatMap_cons, List.length_append, ih, List.length_cons]; show 3 + _ = _; omega
      refine ⟨l.map (·.1), by simpa using hll, by omega, ?_, fun x hx => ?_⟩
      · rw [e, ← el]
        exact RD.of_addr hc
      · obtain ⟨y, _, rfl⟩ := List.mem_map.1 hx
        exact y.2
  clear hA0 hval0
  refine (law_plays A0 n0 c0 l0 W wl0.1 wl0.2.1 wl0.2.2.1 wl0.2.2.2).mono fun e W' ⟨he, bel⟩ => ?_
  subst he
  exact ⟨_, rfl, _, _, _, [], _, [], hW', trodAll_mk1 (shut_bool Try.underlying4 _), (trodAll_cons_mk (Below.trod laidOut (by kernel_rfl) (of_decide_eq_true (by kernel_rfl)) k0 bel lt0) trodAll_mk0), rfl, bel.frame _, fun h => by cases h⟩

theorem over : Rows.timerPlaysRow.holds Try.pinned (OpenSpec.ofChange Rows.timerPlaysSpec) :=
  OpenClaim.holds_of_wide 3 Try.f3 rfl rfl rfl rfl rfl rfl rfl ⟨rfl, rfl, rfl, rfl, rfl⟩ rfl rfl rfl rfl rfl (by kernel_rfl) Try.func3 (by kernel_rfl)
    (of_decide_eq_true (by kernel_rfl)) (by unfold Func.isWrapper; first | (rw [if_pos (by decide +kernel)]; kernel_rfl) | (rw [if_neg (by decide +kernel)]; exact ⟨rfl, rfl⟩))
    (fun os started H enc _ => lifted os started H enc)

theorem proved : Rows.TimerPlaysSaid := over
#print axioms proved
end Go.Proofs.Ytmkcpgdjbbcigaa.timerPlays
