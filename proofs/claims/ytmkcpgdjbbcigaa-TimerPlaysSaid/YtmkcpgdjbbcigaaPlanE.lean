/-
  The plan rule for a region whose last operation (number m: a store that waits for all others) may leave the class of worlds. No condition.
-/
import Derived.Test.YtmkcpgdjbbcigaaPlan
namespace Go.Proofs.Ytmkcpgdjbbcigaa
open Go Go.RowKit

section
variable {P : Program} {ops : Array Oper} {C : World → Prop} {Q : Act → World → Prop} {m : Nat}

/-- f operations are still to come, in whatever order; every one but m leaves a world of the class. -/
def anyE (P : Program) (ops : Array Oper) (C : World → Prop) (Q : Act → World → Prop) (m : Nat) : Nat → Array Bool → Act → World → Prop
  | 0, lst, a, w => Region.ready .any ops lst = [] ∧ Q a w
  | f + 1, lst, a, w => (Region.ready .any ops lst = [] → Q a w) ∧
      ∀ i ∈ Region.ready .any ops lst, okAt P ops i (fun a' w' => (i ≠ m → C w') ∧ anyE P ops C Q m f (lst.setIfInBounds i true) a' w') a w

/-- Operation m waits for operation i. -/
def waits (ops : Array Oper) (m i : Nat) : Bool := match ops[m]? with | some o => o.after.any (fun e => Region.binds .any e && e.on == i) | none => true

theorem anyE_first {i : Nat} {o : Oper} {v : Value} (hi : ops[i]? = some o) (hsel : Region.noSelect ops = true) (hm : waits ops m i = true) (f : Nat) : ∀ (lst : Array Bool) (a : Act) (w : World), C w →
    (∀ j oj, ops[j]? = some oj → j ≠ i → lst.getD j true = false → (∀ e ∈ oj.after, Region.binds .any e = true → e.on ≠ i) → o.apart ops oj = true) →
    i ∈ Region.ready .any ops lst → Gives P ops C o v a →
    anyE P ops C Q m f (lst.setIfInBounds i true) (a.put o.dst v) w → anyE P ops C Q m (f + 1) lst a w := by
  induction f with
  | zero =>
    intro lst a w hw _ hr hy H
    refine ⟨fun he => (by rw [he] at hr; cases hr), fun j hj => ?_⟩
    by_cases e : j = i
    · subst e
      exact hy.okAt hi hw ⟨fun _ => hw, H⟩
    · have h1 := ready_mono hj e
      rw [H.1] at h1
      cases h1
  | succ f ih =>
    intro lst a w hw hfree hr hy H
    refine ⟨fun he => (by rw [he] at hr; cases hr), fun j hj => ?_⟩
    by_cases e : j = i
    · subst e
      exact hy.okAt hi hw ⟨fun _ => hw, H⟩
    · obtain ⟨hun, oj, hoj, hall⟩ := mem_ready.1 hj
      have hno : ∀ e ∈ oj.after, Region.binds .any e = true → e.on ≠ i := by
        intro e he hb hon
        have h1 := hall e he hb
        rw [hon, getD_both (mem_ready.1 hr).1] at h1
        cases h1
      have hjm : j ≠ m := by
        rintro rfl
        unfold waits at hm
        rw [hoj] at hm
        obtain ⟨e, he, h2⟩ := Array.any_eq_true'.1 hm
        simp only [Bool.and_eq_true] at h2
        exact hno e he h2.1 (by simpa using h2.2)
      have hap := hfree j oj hoj e hun hno
      have hsj := fun cs b => Region.noSelect_spec hsel j oj cs b hoj
      have h2 := okAt_puts hoj (okAt_put hoj hap hsj (H.2 j (ready_mono hj e)))
      refine okAt_mono (fun a' w' h3 => ?_) h2
      obtain ⟨⟨hb, hk⟩, u, hu⟩ := h3
      refine ⟨hb, ?_⟩
      refine ih _ a' w' (hb hjm) (fun m' om hm' hmi hun' hno' => hfree m' om hm' hmi ?_ hno') (ready_mono hr (Ne.symm e)) ((hy.put (fun cs b => Region.noSelect_spec hsel i o cs b hi) hap u).congr hu) ?_
      · by_cases hjm' : j = m'
        · subst hjm'; exact hun
        · rwa [getD_set_ne true hjm'] at hun'
      · rw [Array.setIfInBounds_comm _ _ e]
        exact hk

theorem any_of_anyE {Q' : Exit → Act → World → Prop} (hQ : ∀ a w, Q a w → Q' .normal a w) (f : Nat) : ∀ (lst : Array Bool) (a : Act) (w : World), anyE P ops C Q m f lst a w → wpAny P .any ops Q' f lst a w := by
  induction f with
  | zero => intro lst a w h; exact ⟨h.1, hQ _ _ h.2⟩
  | succ f ih =>
    intro lst a w h
    refine ⟨fun he => hQ _ _ (h.1 he), fun i hi => ?_⟩
    have h1 := h.2 i hi
    unfold okAt at h1
    unfold wpOp
    cases ho : ops[i]? with
    | none => simp only [ho] at h1 ⊢; exact ih _ _ _ h1.2
    | some o =>
      simp only [ho] at h1 ⊢
      by_cases hw : Region.wanted o (yielded ops a.tmps) = true
      · simp only [hw, if_true] at h1 ⊢
        exact .inl (wp_of_nope (Oper.wp_mono (fun a' w' hk => ih _ _ _ hk.2) h1))
      · simp only [hw] at h1 ⊢
        exact ih _ _ _ h1.2

theorem wp_region_regE {id : Nat} {Q' : Exit → Act → World → Prop} {a : Act} {w : World} {l : List Oper} (C : World → Prop) (n m : Nat) (hn : l.length = n) (hm : P.follows .mixedOrders = true)
    (h : anyE P l.toArray C (fun a' w' => Q' .normal a' w') m n (Array.replicate n false) a w.drew) : (Code.region id l.toArray true).wp P Q' a w := by
  subst hn
  refine wp_region_any hm (any_of_anyE (C := C) (m := m) (Q := fun a' w' => Q' .normal a' w') (fun _ _ h => h) _ _ _ _ ?_)
  simpa using h

theorem regE_end {f : Nat} {lst : Array Bool} {a : Act} {w : World} (hr : (Region.ready .any ops lst).isEmpty = true) (h : Q a w) : anyE P ops C Q m f lst a w := by
  have hr' : Region.ready .any ops lst = [] := List.isEmpty_iff.1 hr
  cases f with
  | zero => exact ⟨hr', h⟩
  | succ f => exact ⟨fun _ => h, fun i hi => by rw [hr'] at hi; cases hi⟩
theorem regE_call {f : Nat} {lst : Array Bool} {a : Act} {w : World} (k : Nat) (o : Oper) (hr : (Region.ready .any ops lst == [k]) = true) (ho : ops[k]? = some o) (hg : Region.wanted o (yielded ops a.tmps) = true)
    (h : o.wp P a w (fun a' w' => C w' ∧ anyE P ops C Q m f (lst.setIfInBounds k true) a' w') nope) : anyE P ops C Q m (f + 1) lst a w := by
  have hr' : Region.ready .any ops lst = [k] := eq_of_beq hr
  refine ⟨fun he => (by rw [hr'] at he; cases he), fun i hi => ?_⟩
  rw [hr'] at hi
  obtain rfl : i = k := by simpa using hi
  unfold okAt
  simp only [ho]
  rw [if_pos hg]
  exact Oper.wp_mono (fun a' w' h => ⟨fun _ => h.1, h.2⟩) h
/-- The last operation: the class is left. -/
theorem regE_last {f : Nat} {lst : Array Bool} {a : Act} {w : World} (o : Oper) (hr : (Region.ready .any ops lst == [m]) = true) (ho : ops[m]? = some o) (hg : Region.wanted o (yielded ops a.tmps) = true)
    (h : o.wp P a w (fun a' w' => anyE P ops C Q m f (lst.setIfInBounds m true) a' w') nope) : anyE P ops C Q m (f + 1) lst a w := by
  have hr' : Region.ready .any ops lst = [m] := eq_of_beq hr
  refine ⟨fun he => (by rw [hr'] at he; cases he), fun i hi => ?_⟩
  rw [hr'] at hi
  obtain rfl : i = m := by simpa using hi
  unfold okAt
  simp only [ho]
  rw [if_pos hg]
  exact Oper.wp_mono (fun a' w' h => ⟨fun e => absurd rfl e, h⟩) h

def segE (ops : Array Oper) (m : Nat) : Array Bool → List Nat → Bool
  | _, [] => true
  | lst, i :: is => (match ops[i]? with | some o => plainOp o.op | none => false) && (Region.ready .any ops lst).contains i && Region.free .any ops lst i && waits ops m i && segE ops m (lst.setIfInBounds i true) is
theorem regE_seg {f : Nat} (hsel : Region.noSelect ops = true) (is : List Nat) : ∀ (lst : Array Bool) (a : Act) (w : World), C w → segE ops m lst is = true →
    wpQuiet P ops (fun w' => ∃ n : Cls C, w' = n.1) (fun a' => anyE P ops C Q m f (setAll lst is) a' w) (pickL ops is) a → anyE P ops C Q m (f + is.length) lst a w := by
  induction is with
  | nil => intro lst a w _ _ h; exact h
  | cons i is ih =>
    intro lst a w hw hB h
    simp only [segE, Bool.and_eq_true] at hB
    obtain ⟨⟨⟨⟨h1, h2⟩, h3⟩, h5⟩, h4⟩ := hB
    cases ho : ops[i]? with
    | none => simp only [ho] at h1; cases h1
    | some o =>
      simp only [ho] at h1
      unfold pickL at h
      rw [List.filterMap_cons_some (by exact ho)] at h
      obtain ⟨v, hv, hk⟩ := gives_of_quiet (P := P) (ops := ops) (C := C) h1 h
      exact anyE_first ho hsel h5 (f + is.length) lst a w hw (Region.free_spec ho h3) (by simpa using h2) hv (ih _ _ w hw h4 hk)
end
end Go.Proofs.Ytmkcpgdjbbcigaa
