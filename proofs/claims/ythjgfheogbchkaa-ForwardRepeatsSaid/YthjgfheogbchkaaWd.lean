/-
  Forward: walk over Hold. Condition: the state is one that the calls make.
-/
import Derived.Test.YthjgfheogbchkaaWc
namespace Go.Proofs.Ythjgfheogbchkaa
open Go.RowKit
set_option linter.unusedVariables false

theorem hold_none (B p : Nat) (q : FQ) (key : ByteArray) (u : Int) (hf : findK key q.ws = none) (w : World) (r : FRep w B p q) :
    Calls Try.prog 13 #[.pointer (some ⟨p, 0, none⟩), .string key, .int .i64 u] w fun e w' => e = .returned (.int .i64 6) ∧ Below w.heap.size w w' := by
  have HF := find_any B p q key w r
  rw [hf] at HF
  replace HF := Lib.hid HF
  go_enter Try.func13, Try.ntmps13
  go_wp2_with (go_at_call 15; refine HF.out.mono ?_; rintro e w' ⟨rfl, hb⟩; rw [show idxI none = -1 from rfl])
  go_ret
  exact ⟨rfl, hb⟩

def heldTo (u : Int) (x : En) : En := { x with due := if x.due < u then u else x.due }
def HoldRet (B p : Nat) (q : FQ) (i : Nat) (x : En) (u : Int) (w : World) (e : Ending) (w' : World) : Prop :=
  e = .returned (.int .i64 0) ∧ FRep w' B p { q with ws := q.ws.set i (heldTo u x) } ∧ Turn B [43, 46] true w w'
set_option maxHeartbeats 1600000 in
theorem hold_ok (B p : Nat) (q : FQ) (key : ByteArray) (i : Nat) (x : En) (u : Int) (hf : findK key q.ws = some i) (hx : q.ws[i]? = some x) (hlen : q.ws.length ≤ 1000) (hu : isT u) (w : World) (hBw : B ≤ w.heap.size) (r : FRep w B p q) :
    Calls Try.prog 13 #[.pointer (some ⟨p, 0, none⟩), .string key, .int .i64 u] w (HoldRet B p q i x u w) := by
  have HF := find_any B p q key w r
  rw [hf] at HF
  replace HF := Lib.hid HF
  have hi := findK_lt hf
  obtain ⟨hB, mb, A, c, B0, hmb, hm, hr⟩ := r
  have HM1 := Lib.hid hm
  have HR := Lib.hid hr
  have HX := Lib.hid hx
  obtain ⟨hnc, hcm⟩ := hr.len
  obtain ⟨g, rfl, _, _, _, _⟩ := hr.cells (by omega)
  have hd : decide (isT u) = true := decide_eq_true hu
  clear hr hm hu hx
  go_enter Try.func13, Try.ntmps13
  go_wp2_with (first
    | (go_at_call 14; refine (isTime_any u _).mono ?_; rintro e w' ⟨rfl, rfl⟩; rw [hd])
    | (go_at_call 15
       refine HF.out.mono ?_
       rintro e w1 ⟨rfl, hb⟩
       rw [show idxI (some i) = (i : Int) from rfl]
       have B1 := B0.call hb
       have R1 := Lib.hid (HR.out.call hb)
       have M1 := Lib.hid (HM1.out.call hb)
       have T1 := Lib.hid (Turn.of_below (T := [43, 46]) (m := true) hb hBw)
       have z1 := hb.size))
  have i5 : (i : Int) < q.ws.length := by omega
  have L1 := fun n : Cls (UpC w1) => blk3_c2 (B1.call n.2)
  have L2 : ∀ n : Cls (UpC w1), n.val.cell? ⟨g, i * 4 + 2, none⟩ = some (.int .i64 x.due) := by
    intro n
    obtain ⟨g', e, _, _, hc, _⟩ := (R1.out.call n.2).cells (by omega)
    injection e with e
    injection e with e
    subst e
    exact hc (i * 4 + 2) _ (by rw [atM enC 4 enC4 q.ws i x 2 HX.out (by decide)]; rfl)
  have L3 : ∀ n : Cls (UpC w1), n.val.frozen? ⟨g, i * 4 + 2, none⟩ = false := by
    intro n
    obtain ⟨g', e, _, _, _, hc⟩ := (R1.out.call n.2).cells (by omega)
    injection e with e
    injection e with e
    subst e
    exact hc _
  have hBw1 : B ≤ w1.heap.size := by omega
  refine wp_region_regE (UpC w1) 18 17 rfl (by kernel_rfl) ?_
  have T : UpC w1 w1.drew := (Below.refl _ _).drew
  haveI : Nonempty (Cls (UpC w1)) := ⟨⟨_, T⟩⟩
  refine regE_seg (f := 3) (by kernel_rfl) [0, 1, 2, 3, 4, 5, 6, 7, 8, 9, 10, 11, 12, 13, 14] _ _ _ T (by kernel_rfl) ?_
  simp only [pickL, List.filterMap_cons, List.filterMap_nil, List.getElem?_toArray, List.getElem?_cons_zero, List.getElem?_cons_succ]
  show wpQuiet _ _ _ _ [_, _, _, _, _, _, _, _, _, _, _, _, _, _, _] _
  repeat (go_big_quiet_step (fail))
  refine wpQuiet_nil ?_
  have c2 := L2 ⟨_, T⟩
  have f2 := L3 ⟨_, T⟩
  clear L1 L2 L3
  rename_i K0 hKK
  generalize hv : (if x.due < u then u else x.due) = v
  refine regE_call 15 _ (by kernel_rfl) rfl rfl ?_
  go_simp
  refine regE_call 16 _ (by kernel_rfl) rfl rfl ?_
  go_simp
  refine regE_last _ (by kernel_rfl) rfl rfl ?_
  go_simp
  refine regE_end (by kernel_rfl) ?_
  refine hKK _ _ ?_
  have HV := Lib.hid hv
  clear hv T c2 f2
  go_wp2_with fail
  go_ret
  have R2 : rowL w1.drew B 46 4 (some ⟨g, 0, none⟩) q.ws.length c (q.ws.flatMap enC) := R1.out
  have e : (q.ws.flatMap enC).set (i * 4 + 2) (.int .i64 v) = (q.ws.set i (heldTo u x)).flatMap enC := setM enC 4 enC4 q.ws i x _ 2 _ HX.out (by decide) (by rw [← HV.out]; rfl)
  refine ⟨rfl, ⟨hB, mb, some ⟨g, 0, none⟩, c, ?_, hmb, M1.out.setL R1.out _ _, ?_⟩, T1.out.drew.setL R2 rfl _ _⟩
  · rw [show (q.ws.set i (heldTo u x)).length = q.ws.length by simp]
    exact B1.setL R1.out (by decide) _ _
  · rw [show (q.ws.set i (heldTo u x)).length = q.ws.length by simp, ← e]
    exact R2.set_ _ _
end Go.Proofs.Ythjgfheogbchkaa
