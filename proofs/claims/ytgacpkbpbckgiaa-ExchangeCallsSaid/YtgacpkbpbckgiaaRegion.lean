/-
  A region that draws its order: all but its last operations are quiet in a class of worlds (a callee may make memory), and the last ones stand in one forced order: one walk in the order of the text serves every order. No condition.
-/
import Derived.Test.YtgacpkbpbckgiaaRows
import Derived.WalkKit
import Derived.StillTail
import Derived.Deep.QuietTactic
import Derived.BigQuiet
namespace Go.Proofs.Ytgacpkbpbckgiaa
open Go

section
variable {P : Program} {ops : Array Oper} {md : Region.Mode} {C : World → Prop}

/-- f operations of the head are still to come; whatever comes up next is one of the head and quiet; behind them L. -/
def headRuns (P : Program) (md : Region.Mode) (ops : Array Oper) (C : World → Prop) (n : Nat) (L : Array Bool → Act → Prop) : Nat → Array Bool → Act → Prop
  | 0, lst, a => L lst a
  | f + 1, lst, a => (∃ i, i ∈ Region.ready md ops lst) ∧ ∀ i ∈ Region.ready md ops lst, i < n ∧ qOp P ops C i (headRuns P md ops C n L f (lst.setIfInBounds i true)) a

theorem any_of_headRuns {n g : Nat} {L : Array Bool → Act → Prop} {Q : Exit → Act → World → Prop} (hL : ∀ lst a w, C w → L lst a → wpAny P md ops Q g lst a w) (f : Nat) :
    ∀ (lst : Array Bool) (a : Act) (w : World), C w → headRuns P md ops C n L f lst a → wpAny P md ops Q (f + g) lst a w := by
  induction f with
  | zero => intro lst a w hw h; rw [Nat.zero_add]; exact hL lst a w hw h
  | succ f ih =>
    intro lst a w hw h
    obtain ⟨⟨i0, hi0⟩, hall⟩ := h
    rw [Nat.add_right_comm]
    refine ⟨fun he => ?_, fun i hi => ?_⟩
    · rw [he] at hi0; cases hi0
    · exact wpOp_of_qOp hw (fun a' w' hw' hk => ih _ a' w' hw' hk) (hall i hi).2

theorem headRuns_first {n i : Nat} {o : Oper} {v : Value} {L : Array Bool → Act → Prop} (hi : ops[i]? = some o) (hsel : ∀ (j : Nat) (o : Oper) cs b, ops[j]? = some o → o.op ≠ .select cs b)
    (hs : Region.sinkB md ops n = true) (hc : Region.chainB md ops n = true) (hn : n < ops.size) (hin : i < n) (hdone : ∀ lst a, L lst a → ∀ j ∈ Region.ready md ops lst, n ≤ j) (f : Nat) :
    ∀ (lst : Array Bool) (a : Act), HeadInv md ops n lst →
      (∀ j oj, ops[j]? = some oj → j ≠ i → lst.getD j true = false → (∀ e ∈ oj.after, Region.binds md e = true → e.on ≠ i) → o.apart ops oj = true) →
      i ∈ Region.ready md ops lst → YieldsIn P ops C o v a →
      headRuns P md ops C n L f (lst.setIfInBounds i true) (a.put o.dst v) → headRuns P md ops C n L (f + 1) lst a := by
  induction f with
  | zero =>
    intro lst a inv _ hr hy H
    refine ⟨⟨i, hr⟩, fun j hj => ?_⟩
    have hlt : j < n := Nat.lt_of_not_le fun hle => tail_waits hs hc hn inv _ i rfl hin (mem_ready.1 hr).1 j hle hj
    by_cases e : j = i
    · subst e; exact ⟨hlt, hy.qOp hi H⟩
    · exact absurd (hdone _ _ H j (ready_mono hj e)) (by omega)
  | succ f ih =>
    intro lst a inv hfree hr hy H
    refine ⟨⟨i, hr⟩, fun j hj => ?_⟩
    have hlt : j < n := Nat.lt_of_not_le fun hle => tail_waits hs hc hn inv _ i rfl hin (mem_ready.1 hr).1 j hle hj
    by_cases e : j = i
    · subst e; exact ⟨hlt, hy.qOp hi H⟩
    · obtain ⟨hun, oj, hoj, hall⟩ := mem_ready.1 hj
      have hno : ∀ e ∈ oj.after, Region.binds md e = true → e.on ≠ i := by
        intro e he hb hon
        have h1 := hall e he hb
        rw [hon, getD_both (mem_ready.1 hr).1] at h1
        cases h1
      have h2 := qOp_put hoj (hfree j oj hoj e hun hno) (fun cs b => hsel i o cs b hi) (fun cs b => hsel j oj cs b hoj) hy (H.2 j (ready_mono hj e)).2
      refine ⟨hlt, qOp_mono (fun a' h3 => ?_) h2⟩
      refine ih _ a' (inv.set hj hlt) (fun m om hm hmi hun' hno' => hfree m om hm hmi ?_ hno') (ready_mono hr (Ne.symm e)) h3.1 ?_
      · by_cases hjm : j = m
        · subst hjm; exact hun
        · rwa [getD_set_ne true hjm] at hun'
      · rw [Array.setIfInBounds_comm _ _ e]
        exact h3.2

theorem headRuns_lex {n g : Nat} {Lq : Act → Prop} (hsel : Region.noSelect ops = true) (hs : Region.sinkB md ops n = true) (hc : Region.chainB md ops n = true) (hn : n < ops.size) (l : List Oper) :
    ∀ (k : Nat) (lst : Array Bool) (a : Act), (∀ j, j < l.length → l[j]? = ops[k + j]?) → k + l.length = n → HeadInv md ops n lst → Region.lexHead md ops g l.length k lst = true →
      wpQuiet P ops C Lq l a → headRuns P md ops C n (fun lst' a' => Region.seqB md ops g n lst' = true ∧ Lq a') l.length lst a := by
  induction l with
  | nil =>
    intro k lst a _ hk _ hB h
    have hk' : k = n := by simpa using hk
    subst hk'
    exact ⟨by simpa [Region.lexHead] using hB, h⟩
  | cons o l ih =>
    intro k lst a hl hk inv hB h
    have h0 : ops[k]? = some o := by simpa using (hl 0 (by simp)).symm
    simp only [List.length_cons, Region.lexHead, Bool.and_eq_true] at hB
    have hkn : k < n := by simp only [List.length_cons] at hk; omega
    have hr : k ∈ Region.ready md ops lst := by simpa using hB.1.1
    obtain ⟨v, hy, hK⟩ := yieldsIn_of_qOp (C := C) h0 (show qOp P ops C k (wpQuiet P ops C Lq l) a by unfold qOp; simp only [h0]; exact h)
    refine headRuns_first h0 (Region.noSelect_spec hsel) hs hc hn hkn (fun lst' a' hL => seqB_ready hL.1) l.length lst a inv (Region.free_spec h0 hB.1.2) hr hy ?_
    exact ih (k + 1) _ _ (fun j hj => by have := hl (j + 1) (by simp; omega); simpa [Nat.add_assoc, Nat.add_comm 1 j] using this) (by simp only [List.length_cons] at hk; omega) (inv.set hr hkn) hB.2 hK

/-- THE RULE: n operations quiet in the class C, then the rest in its forced order, from whatever world of the class. -/
theorem wp_region_quiet_tail {id : Nat} {Q : Exit → Act → World → Prop} {a : Act} {w : World} {l : List Oper} (n : Nat) (hm : P.follows .mixedOrders = true) (hB : Region.lexTailB .any l.toArray n = true) (hC : C w.drew)
    (h : wpQuiet P l.toArray C (fun a' => ∀ w', C w' → wpList P l.toArray Q (l.drop n) a' w') (l.take n) a) : (Code.region id l.toArray true).wp P Q a w := by
  simp only [Region.lexTailB, Bool.and_eq_true, decide_eq_true_eq] at hB
  obtain ⟨⟨⟨⟨hsel, hn⟩, hs⟩, hc⟩, hlex⟩ := hB
  have hlen : n < l.length := by simpa using hn
  have htl : (l.take n).length = n := by simp; omega
  have hdl : (l.drop n).length = l.toArray.size - n := by simp
  have inv0 : HeadInv .any l.toArray n (Array.replicate l.toArray.size false) :=
    ⟨by simp, fun j oj _ hl => (by rw [getD_replicate_false] at hl; cases hl), fun t _ ht => getD_in (by simpa using ht) (getD_replicate_false _ _)⟩
  have H := headRuns_lex (md := .any) (g := l.toArray.size - n) hsel hs hc hn (l.take n) 0 _ a
    (fun j hj => by rw [htl] at hj; simp [hj]) (by simpa using htl) inv0 (by rw [htl]; exact hlex) h
  have H2 := any_of_headRuns (Q := Q) (g := l.toArray.size - n) (fun lst a' w' hw' hL => by
    have h3 := wpAny_of_seq (md := .any) (Q' := Q) (l.drop n) n lst a' w' (fun j => by simp [List.getElem?_drop]) (by rw [hdl]; exact hL.1) (hL.2 w' hw')
    rwa [hdl] at h3) _ _ _ w.drew hC H
  rw [htl, show n + (l.toArray.size - n) = l.toArray.size by omega] at H2
  exact wp_region_any hm H2

/-- The same where every operation is quiet. -/
theorem wp_region_quiet_class {id : Nat} {Q : Exit → Act → World → Prop} {a : Act} {w : World} {l : List Oper} (hm : P.follows .mixedOrders = true) (hB : Region.lexB .any l.toArray = true) (hC : C w.drew)
    (h : wpQuiet P l.toArray C (fun a' => ∀ w', C w' → Q .normal a' w') l a) : (Code.region id l.toArray true).wp P Q a w :=
  wp_region_quiet (C := C) hm hB hC (by simpa using h)
end

/-! ### The class of the worlds that keep all of w's blocks: a callee may make memory -/
open Go.RowKit
def Up (w : World) : Type := { x : World // Below w.heap.size w x }
instance (w : World) : Nonempty (Up w) := ⟨⟨w, Below.refl _ _⟩⟩
theorem Up.self (w : World) : ∃ n : Up w, w = n.1 := ⟨⟨w, Below.refl _ _⟩, rfl⟩
theorem Up.drew (w : World) : ∃ n : Up w, w.drew = n.1 := ⟨⟨w.drew, (Below.refl _ _).drew⟩, rfl⟩
theorem Calls.up {P : Program} {f : FuncId} {args : Array Value} {w : World} {v : Value} (n : Up w) (h : Calls P f args n.1 fun e w' => e = .returned v ∧ Below n.1.heap.size n.1 w') :
    Calls P f args n.1 fun e w'' => e = .returned v ∧ ∃ m : Up w, w'' = m.1 :=
  h.mono fun _ w'' ⟨he, hb⟩ => ⟨he, ⟨w'', n.2.trans (hb.mono n.2.size)⟩, rfl⟩
theorem Calls.up_same {P : Program} {f : FuncId} {args : Array Value} {w : World} {v : Value} (n : Up w) (h : Calls P f args n.1 fun e w' => e = .returned v ∧ n.1 = w') :
    Calls P f args n.1 fun e w'' => e = .returned v ∧ ∃ m : Up w, w'' = m.1 :=
  h.mono fun _ _ ⟨he, hb⟩ => ⟨he, n, hb.symm⟩
theorem Calls.up_drewN {P : Program} {f : FuncId} {args : Array Value} {w : World} {v : Value} (n : Up w) (h : Calls P f args n.1 fun e w' => e = .returned v ∧ ∃ q, w' = n.1.drewN q) :
    Calls P f args n.1 fun e w'' => e = .returned v ∧ ∃ m : Up w, w'' = m.1 :=
  h.mono fun _ _ ⟨he, q, hb⟩ => ⟨he, ⟨n.1.drewN q, n.2.trans ⟨rfl, rfl, rfl, Nat.le_refl _, fun _ _ => rfl⟩⟩, hb⟩
section
variable {P : Program}
theorem wp_region_up {id : Nat} {Q : Exit → Act → World → Prop} {a : Act} {w : World} {l : List Oper} (hm : P.follows .mixedOrders = true) (hB : Region.lexB .any l.toArray = true)
    (h : wpQuiet P l.toArray (fun w' => ∃ n : Up w, w' = n.1) (fun a' => ∀ n : Up w, Q .normal a' n.1) l a) : (Code.region id l.toArray true).wp P Q a w := by
  refine wp_region_quiet (C := fun w' => ∃ n : Up w, w' = n.1) hm hB (Up.drew w) ?_
  have e : (fun a' => ∀ w', (∃ n : Up w, w' = n.1) → Q .normal a' w') = (fun a' => ∀ n : Up w, Q .normal a' n.1) := by
    funext a'
    exact propext ⟨fun h n => h _ ⟨n, rfl⟩, fun h w' ⟨n, hn⟩ => hn ▸ h n⟩
  rw [e]
  exact h
theorem wp_region_up_tail {id : Nat} {Q : Exit → Act → World → Prop} {a : Act} {w : World} {l : List Oper} (k : Nat) (hm : P.follows .mixedOrders = true) (hB : Region.lexTailB .any l.toArray k = true)
    (h : wpQuiet P l.toArray (fun w' => ∃ n : Up w, w' = n.1) (fun a' => ∀ n : Up w, wpList P l.toArray Q (l.drop k) a' n.1) (l.take k) a) : (Code.region id l.toArray true).wp P Q a w := by
  refine wp_region_quiet_tail (C := fun w' => ∃ n : Up w, w' = n.1) k hm hB (Up.drew w) ?_
  have e : (fun a' => ∀ w', (∃ n : Up w, w' = n.1) → wpList P l.toArray Q (l.drop k) a' w') = (fun a' => ∀ n : Up w, wpList P l.toArray Q (l.drop k) a' n.1) := by
    funext a'
    exact propext ⟨fun h n => h _ ⟨n, rfl⟩, fun h w' ⟨n, hn⟩ => hn ▸ h n⟩
  rw [e]
  exact h
end
end Go.Proofs.Ytgacpkbpbckgiaa
