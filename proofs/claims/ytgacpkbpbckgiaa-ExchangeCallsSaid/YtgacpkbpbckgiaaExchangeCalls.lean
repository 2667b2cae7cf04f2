/-
  cardnetlaw19.ExchangeCalls returns true for every timeout and every sequence of calls, and they read behind the call as before it: New and every call return what the chapter describes, for at most 60 calls with keys of at most 100 bytes and texts of at most 4001 bytes. No condition.
-/
import Derived.Test.YtgacpkbpbckgiaaRf
import Derived.Test.YtgacpkbpbckgiaaRowS
import Derived.WalkKit
import Derived.ProofKit
import Derived.OpenShut
import Derived.ShutString
import Derived.ChangeOld
import Derived.Below
namespace Go.Proofs.Ytgacpkbpbckgiaa.exchangeCalls
open Go.ChangeShapes Go.WideShapes Go.ChangeAt Go.RowKit
open Go.ChangeMaps (open_string)
set_option linter.unusedVariables false

theorem own : ownKnob Try.prog.godebug = none := by kernel_rfl
theorem laidOut : laidOutB Try.prog = true := by kernel_rfl
def IsOps (w : World) (a : Option Addr) (n : Nat) (l : List Opn) : Prop := l.length = n ∧ n ≤ 9223372036854775807 ∧ RD w a (n * 5) (l.flatMap opC) ∧ ∀ x ∈ l, x.key.size ≤ 9223372036854775807

set_option maxRecDepth 100000 in
theorem lifted (os : Os) (started : os.Started) (H : Type) (enc : TypeId × Value → H) :
    ReturnsInHanded {} Try.checked os 3 .any (Rows.exchangeCallsSpec.pre6 enc Try.prog Try.f3 Rows.exchangeCallsRow.domain false) (Rows.exchangeCallsSpec.post enc Try.prog Try.f3 false true false false) := by
  refine returnsInHanded_of_change (C := Try.checked) own started (by kernel_rfl) Try.func3
    (ChangeSpec.witness6 (enc := enc) (C := Try.checked) false ⟨#[], #[.int .i64 0, .slice none 0 0], []⟩ 8 (by kernel_rfl) (by kernel_rfl) (by kernel_rfl) (by kernel_rfl)) ?_
  intro W base args ds gs before hval0 hW hcnd _
  have hval : ∀ (j : Nat) t v, Try.f3.params[j]? = some t → args[j]? = some v → Value.okWide Try.prog W .any base t v := hval0
  have hW' := hW
  obtain ⟨p, q, hA0, hV, rfl, hfz, hnd⟩ := hW
  have hA : DataW.TrodAll enc Try.prog W 0 (fun _ => true) true Try.f3.params.toList args.toList ds p := hA0
  rw [Try.params3] at hA hval
  obtain ⟨v0, vs0, d0, ds0, p0, q0, hargs0, rfl, rfl, h0, r0⟩ := trodAll_cons hA
  obtain ⟨v1, vs1, d1, ds1, p1, q1, hargs1, rfl, rfl, h1, r1⟩ := trodAll_cons r0
  obtain ⟨rfl, rfl, rfl⟩ := trodAll_nil r1
  obtain rfl : args = #[v0, v1] := by cases args; simp_all
  obtain ⟨rfl, rfl⟩ := trodVars_none hV
  have k0 := h0
  have k1 := h1
  have lt0 : ∀ x ∈ p0, x.block < W.heap.size := by obtain ⟨m, hm⟩ := k0; exact DataW.trod_lt m _ _ _ hm
  have lt1 : ∀ x ∈ p1, x.block < W.heap.size := by obtain ⟨m, hm⟩ := k1; exact DataW.trod_lt m _ _ _ hm
  obtain ⟨a0, rfl, _, _, wa0⟩ := open_int Try.underlying3 (hval 0 3 v0 rfl rfl) h0
  obtain ⟨A1, n1, c1, rfl⟩ := okWide_slice Try.underlying22 (hval 1 22 v1 rfl rfl)
  obtain ⟨l1, wl1⟩ : ∃ l, IsOps W A1 n1 l := by
    obtain ⟨fuel, hf⟩ := h1
    rcases open_cells Try.underlying22 Try.underlying33 (by kernel_rfl) (by kernel_rfl) hf rfl with hv | ⟨a, len, cap, hv, hl, hm, hcell⟩
    · injection hv with e1 e2 e3
      subst e1 e2
      exact ⟨[], rfl, by omega, RD.nil W, by simp⟩
    · injection hv with e1 e2 e3
      subst e1 e2
      unfold maxLen at hm
      obtain ⟨l, hll, hc⟩ := records (α := { x : Opn // x.key.size ≤ 9223372036854775807 }) (fun x => opC x.1) 5 (fun _ => rfl) (w := W) (a := a) n1 (fun i hi => by
        obtain ⟨_, u0, y0, k0, t0⟩ := hcell i hi 0 _ rfl
        obtain ⟨_, u1, y1, k1, t1⟩ := hcell i hi 1 _ rfl
        obtain ⟨_, u2, y2, k2, t2⟩ := hcell i hi 2 _ rfl
        obtain ⟨_, u3, y3, k3, t3⟩ := hcell i hi 3 _ rfl
        obtain ⟨_, u4, y4, k4, t4⟩ := hcell i hi 4 _ rfl
        obtain ⟨z0, rfl, w0⟩ := field_int Try.underlying3 t0
        obtain ⟨z1, rfl, w1⟩ := field_int Try.underlying3 t1
        obtain ⟨z2, e2, _⟩ := DataW.trod_bool Try.underlying4 t2
        simp at e2
        subst e2
        obtain ⟨z3, rfl, w3⟩ := field_string Try.underlying9 t3
        obtain ⟨z4, rfl, w4⟩ := field_string Try.underlying9 t4
        refine ⟨⟨⟨z0, z1, z2, z3, z4⟩, w3⟩, fun j u hu => ?_⟩
        match j, hu with
        | 0, hu => simp [opC] at hu; subst hu; exact k0
        | 1, hu => simp [opC] at hu; subst hu; exact k1
        | 2, hu => simp [opC] at hu; subst hu; exact k2
        | 3, hu => simp [opC] at hu; subst hu; exact k3
        | 4, hu => simp [opC] at hu; subst hu; exact k4
        | j + 5, hu => simp [opC] at hu)
      have e : (l.map (·.1)).flatMap opC = l.flatMap fun x => opC x.1 := by rw [List.flatMap_map]
      have el : (l.flatMap fun x => opC x.1).length = n1 * 5 := by
        rw [← hll]
        clear hll hc e
        induction l with
        | nil => rfl
        | cons x l ih => rw [List.flatMap_cons, List.length_append, ih, List.length_cons]; show 5 + _ = _; omega
      refine ⟨l.map (·.1), by simpa using hll, by omega, ?_, fun x hx => ?_⟩
      · rw [e, ← el]
        exact RD.of_addr hc
      · obtain ⟨y, _, rfl⟩ := List.mem_map.1 hx
        exact y.2
  clear hA0 hval0
  refine (law_calls a0 A1 n1 c1 l1 W wl1.1 wl1.2.1 wl1.2.2.1 wl1.2.2.2).mono fun e W' ⟨he, bel⟩ => ?_
  subst he
  exact ⟨_, rfl, _, _, _, [], _, [], hW', trodAll_mk1 (shut_bool Try.underlying4 _), (trodAll_cons_mk (Below.trod laidOut (by kernel_rfl) (of_decide_eq_true (by kernel_rfl)) k0 bel lt0) (trodAll_cons_mk (Below.trod laidOut (by kernel_rfl) (of_decide_eq_true (by kernel_rfl)) k1 bel lt1) trodAll_mk0)), rfl, bel.frame _, fun h => by cases h⟩

theorem over : Rows.exchangeCallsRow.holds Try.pinned (OpenSpec.ofChange Rows.exchangeCallsSpec) :=
  OpenClaim.holds_of_wide 3 Try.f3 rfl rfl rfl rfl rfl rfl rfl ⟨rfl, rfl, rfl, rfl, rfl⟩ rfl rfl rfl rfl rfl (by kernel_rfl) Try.func3 (by kernel_rfl)
    (of_decide_eq_true (by kernel_rfl)) (by unfold Func.isWrapper; first | (rw [if_pos (by decide +kernel)]; kernel_rfl) | (rw [if_neg (by decide +kernel)]; exact ⟨rfl, rfl⟩))
    (fun os started H enc _ => lifted os started H enc)

theorem proved : Rows.ExchangeCallsSaid := over
#print axioms proved
end Go.Proofs.Ytgacpkbpbckgiaa.exchangeCalls
