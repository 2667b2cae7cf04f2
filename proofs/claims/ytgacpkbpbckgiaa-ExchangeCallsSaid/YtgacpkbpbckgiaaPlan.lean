/-
  A region that draws its order, walked in an order of one's own choice: plain operations (loads, arithmetic) are taken as soon as they stand ready; a call, an append, an allocation or a store where it alone stands ready. One walk serves every order. No condition.
-/
import Derived.Test.YtgacpkbpbckgiaaRegion
namespace Go.Proofs.Ytgacpkbpbckgiaa
open Go Go.RowKit

section
variable {P : Program} {ops : Array Oper} {C : World → Prop} {Q : Act → World → Prop}

def nope : Exit → Act → World → Prop := fun _ _ _ => False

/-- Operation i comes up in the state a, w: it goes on to K and does not panic. -/
def okAt (P : Program) (ops : Array Oper) (i : Nat) (K : Act → World → Prop) (a : Act) (w : World) : Prop :=
  match ops[i]? with
  | none => K a w
  | some o => if Region.wanted o (yielded ops a.tmps) then o.wp P a w K nope else K (a.put o.dst undef) w

/-- f operations are still to come, in whatever order; every one leaves a world of the class. -/
def anyC (P : Program) (ops : Array Oper) (C : World → Prop) (Q : Act → World → Prop) : Nat → Array Bool → Act → World → Prop
  | 0, lst, a, w => Region.ready .any ops lst = [] ∧ Q a w
  | f + 1, lst, a, w => (Region.ready .any ops lst = [] → Q a w) ∧
      ∀ i ∈ Region.ready .any ops lst, okAt P ops i (fun a' w' => C w' ∧ anyC P ops C Q f (lst.setIfInBounds i true) a' w') a w

theorem wp_of_nope {o : Oper} {a : Act} {w : World} {K : Act → World → Prop} {Q' : Exit → Act → World → Prop} (h : o.wp P a w K nope) : o.wp P a w K Q' := by
  unfold Oper.wp at *
  generalize (execOp a.eval o).run P w = r at *
  cases r with
  | ok n w' =>
    cases n <;> simp only [Oper.upon] at h ⊢ <;>
      first
        | exact h
        | exact h.mono (fun e w'' he => by
            cases e with
            | returned v => exact he
            | panicked c => exact he.elim
            | outgrown => obtain ⟨_, _, hf⟩ := he; exact hf.elim)
  | halt x w' => cases x <;> simp only [Oper.upon] at h ⊢ <;> exact h.elim

theorem wp_put {o : Oper} {a : Act} {w : World} {K : Act → World → Prop} {t : Option Tmp} {v : Value} (hs : ∀ cs b, o.op ≠ .select cs b) (h1 : ∀ d, t = some d → d ∉ o.looksAt ops) (h2 : ∀ d, t = some d → o.dst ≠ some d)
    (h : o.wp P (a.put t v) w K nope) : o.wp P a w (fun a' w' => K (a'.put t v) w') nope := by
  have hp : ∀ u : Value, (a.put t v).put o.dst u = (a.put o.dst u).put t v := fun u => Act.put_comm a v u h2
  unfold Oper.wp at *
  rw [execOp_put (ops := ops) o hs a t v h1] at h
  generalize (execOp a.eval o).run P w = r at *
  cases r with
  | ok n w' =>
    cases n with
    | value u => simp only [Oper.upon] at h ⊢; rw [← hp]; exact h
    | skip => simp only [Oper.upon] at h ⊢; rw [← hp]; exact h
    | defer d =>
      simp only [Oper.upon] at h ⊢
      have e : ({ a.put t v with defers := d :: (a.put t v).defers } : Act).put o.dst undef = (({ a with defers := d :: a.defers } : Act).put o.dst undef).put t v := by
        rw [← Act.put_comm ({ a with defers := d :: a.defers } : Act) v undef h2]
        cases t <;> rfl
      rw [← e]
      exact h
    | enter f args =>
      simp only [Oper.upon] at h ⊢
      exact h.mono (fun e w'' he => by
        cases e with
        | returned u => simp only [] at he ⊢; rw [← hp]; exact he
        | panicked c => exact he
        | outgrown => exact he)
    | row r args =>
      simp only [Oper.upon] at h ⊢
      exact h.mono (fun u w'' he => by rw [← hp]; exact he)
    | _ => simp only [Oper.upon] at h
  | halt x w' => cases x <;> simp only [Oper.upon] at h ⊢ <;> exact h.elim

theorem okAt_mono {i : Nat} {a : Act} {w : World} {K K' : Act → World → Prop} (h : ∀ a w, K a w → K' a w) (hh : okAt P ops i K a w) : okAt P ops i K' a w := by
  unfold okAt at *
  cases ho : ops[i]? with
  | none => simp only [ho] at hh ⊢; exact h _ _ hh
  | some o =>
    simp only [ho] at hh ⊢
    by_cases hw : Region.wanted o (yielded ops a.tmps) = true
    · simp only [hw, if_true] at hh ⊢; exact Oper.wp_mono h hh
    · simp only [hw] at hh ⊢; exact h _ _ hh

theorem okAt_put {j : Nat} {oi oj : Oper} {v : Value} (hj : ops[j]? = some oj) (hap : oi.apart ops oj = true) (hsj : ∀ cs b, oj.op ≠ .select cs b) {K : Act → World → Prop} {a : Act} {w : World}
    (h : okAt P ops j K (a.put oi.dst v) w) : okAt P ops j (fun a' w' => K (a'.put oi.dst v) w') a w := by
  obtain ⟨h1, h2, _⟩ := Oper.apart_spec hap
  unfold okAt at *
  simp only [hj] at *
  rw [wanted_put (ops := ops) oj a oi.dst v h1] at h
  by_cases hw : Region.wanted oj (yielded ops a.tmps) = true
  · simp only [hw, if_true] at h ⊢; exact wp_put hsj h1 h2 h
  · simp only [hw] at h ⊢
    rw [← Act.put_comm a v undef h2]
    exact h

/-- In every world of the class operation o yields v, and turns nothing. -/
def Gives (P : Program) (ops : Array Oper) (C : World → Prop) (o : Oper) (v : Value) (a : Act) : Prop :=
  (Region.wanted o (yielded ops a.tmps) = true ∧ ∀ w, C w → (execOp a.eval o).run P w = .ok (.value v) w) ∨ (Region.wanted o (yielded ops a.tmps) = false ∧ v = undef)

theorem Gives.okAt {i : Nat} {o : Oper} {v : Value} {a : Act} (hi : ops[i]? = some o) (h : Gives P ops C o v a) {w : World} (hw : C w) {K : Act → World → Prop} (hK : K (a.put o.dst v) w) : okAt P ops i K a w := by
  unfold Proofs.Ytgacpkbpbckgiaa.okAt
  simp only [hi]
  rcases h with ⟨h1, hv⟩ | ⟨h1, rfl⟩
  · simp only [h1, if_true]
    unfold Oper.wp
    rw [hv w hw]
    exact hK
  · simp only [h1, Bool.false_eq_true, if_false]
    exact hK
theorem Gives.put {o oj : Oper} {v : Value} {a : Act} (h : Gives P ops C o v a) (hs : ∀ cs b, o.op ≠ .select cs b) (hap : o.apart ops oj = true) (u : Value) : Gives P ops C o v (a.put oj.dst u) := by
  obtain ⟨_, _, h3⟩ := Oper.apart_spec hap
  unfold Gives at *
  rw [wanted_put (ops := ops) o a oj.dst u h3, execOp_put (ops := ops) o hs a oj.dst u h3]
  exact h

/-- What an operation puts, whatever it is. -/
theorem okAt_puts {j : Nat} {oj : Oper} (hj : ops[j]? = some oj) {K : Act → World → Prop} {a : Act} {w : World} (h : okAt P ops j K a w) : okAt P ops j (fun a' w' => K a' w' ∧ ∃ u, a'.tmps = (a.put oj.dst u).tmps) a w := by
  unfold okAt at *
  simp only [hj] at *
  by_cases hw : Region.wanted oj (yielded ops a.tmps) = true
  · simp only [hw, if_true] at h ⊢
    unfold Oper.wp at *
    generalize (execOp a.eval oj).run P w = r at *
    cases r with
    | ok n w' =>
      cases n with
      | value u => simp only [Oper.upon] at h ⊢; exact ⟨h, u, rfl⟩
      | skip => simp only [Oper.upon] at h ⊢; exact ⟨h, _, rfl⟩
      | defer d =>
        simp only [Oper.upon] at h ⊢
        refine ⟨h, undef, ?_⟩
        cases oj.dst <;> rfl
      | enter f args =>
        simp only [Oper.upon] at h ⊢
        exact h.mono (fun e w'' he => by
          cases e with
          | returned u => exact ⟨he, u, rfl⟩
          | panicked c => exact he
          | outgrown => obtain ⟨_, _, hf⟩ := he; exact hf.elim)
      | row r args =>
        simp only [Oper.upon] at h ⊢
        exact h.mono (fun u w'' he => ⟨he, u, rfl⟩)
      | _ => simp only [Oper.upon] at h
    | halt x w' => cases x <;> simp only [Oper.upon] at h ⊢ <;> exact h.elim
  · simp only [hw] at h ⊢; exact ⟨h, _, rfl⟩

theorem Gives.congr {o : Oper} {v : Value} {a a' : Act} (h : Gives P ops C o v a) (e : a'.tmps = a.tmps) : Gives P ops C o v a' := by
  have he : a'.eval = a.eval := by
    funext x
    cases x <;> simp [Act.eval, e]
  unfold Gives at *
  rw [e, he]
  exact h

/-- An operation that stands ready and gives one value wherever it comes may be taken first. -/
theorem anyC_first {i : Nat} {o : Oper} {v : Value} (hi : ops[i]? = some o) (hsel : Region.noSelect ops = true) (f : Nat) : ∀ (lst : Array Bool) (a : Act) (w : World), C w →
    (∀ j oj, ops[j]? = some oj → j ≠ i → lst.getD j true = false → (∀ e ∈ oj.after, Region.binds .any e = true → e.on ≠ i) → o.apart ops oj = true) →
    i ∈ Region.ready .any ops lst → Gives P ops C o v a →
    anyC P ops C Q f (lst.setIfInBounds i true) (a.put o.dst v) w → anyC P ops C Q (f + 1) lst a w := by
  induction f with
  | zero =>
    intro lst a w hw _ hr hy H
    refine ⟨fun he => (by rw [he] at hr; cases hr), fun j hj => ?_⟩
    by_cases e : j = i
    · subst e
      exact hy.okAt hi hw ⟨hw, H⟩
    · have h1 := ready_mono hj e
      rw [H.1] at h1
      cases h1
  | succ f ih =>
    intro lst a w hw hfree hr hy H
    refine ⟨fun he => (by rw [he] at hr; cases hr), fun j hj => ?_⟩
    by_cases e : j = i
    · subst e
      exact hy.okAt hi hw ⟨hw, H⟩
    · obtain ⟨hun, oj, hoj, hall⟩ := mem_ready.1 hj
      have hno : ∀ e ∈ oj.after, Region.binds .any e = true → e.on ≠ i := by
        intro e he hb hon
        have h1 := hall e he hb
        rw [hon, getD_both (mem_ready.1 hr).1] at h1
        cases h1
      have hap := hfree j oj hoj e hun hno
      have hsj := fun cs b => Region.noSelect_spec hsel j oj cs b hoj
      have h2 := okAt_puts hoj (okAt_put hoj hap hsj (H.2 j (ready_mono hj e)))
      refine okAt_mono (fun a' w' h3 => ?_) h2
      obtain ⟨⟨hb, hk⟩, u, hu⟩ := h3
      refine ⟨hb, ?_⟩
      refine ih _ a' w' hb (fun m om hm hmi hun' hno' => hfree m om hm hmi ?_ hno') (ready_mono hr (Ne.symm e)) ((hy.put (fun cs b => Region.noSelect_spec hsel i o cs b hi) hap u).congr hu) ?_
      · by_cases hjm : j = m
        · subst hjm; exact hun
        · rwa [getD_set_ne true hjm] at hun'
      · rw [Array.setIfInBounds_comm _ _ e]
        exact hk

theorem any_of_anyC {Q' : Exit → Act → World → Prop} (hQ : ∀ a w, Q a w → Q' .normal a w) (f : Nat) : ∀ (lst : Array Bool) (a : Act) (w : World), anyC P ops C Q f lst a w → wpAny P .any ops Q' f lst a w := by
  induction f with
  | zero => intro lst a w h; exact ⟨h.1, hQ _ _ h.2⟩
  | succ f ih =>
    intro lst a w h
    refine ⟨fun he => hQ _ _ (h.1 he), fun i hi => ?_⟩
    have h1 := h.2 i hi
    unfold okAt at h1
    unfold wpOp
    cases ho : ops[i]? with
    | none => simp only [ho] at h1 ⊢; exact ih _ _ _ h1.2
    | some o =>
      simp only [ho] at h1 ⊢
      by_cases hw : Region.wanted o (yielded ops a.tmps) = true
      · simp only [hw, if_true] at h1 ⊢
        exact .inl (wp_of_nope (Oper.wp_mono (fun a' w' hk => ih _ _ _ hk.2) h1))
      · simp only [hw] at h1 ⊢
        exact ih _ _ _ h1.2

/-- The worlds of a class, as a type. -/
def Cls (C : World → Prop) : Type := { x : World // C x }

/-- The worlds that keep all of w's blocks. -/
def UpC (w : World) (x : World) : Prop := Go.RowKit.Below w.heap.size w x
theorem UpC.call {w x y : World} (h : UpC w x) (hb : Go.RowKit.Below x.heap.size x y) : UpC w y := Go.RowKit.Below.trans h (hb.mono (Go.RowKit.Below.size h))

/-- THE RULE: the region does where its state does from the start on. -/
theorem wp_region_reg {id : Nat} {Q' : Exit → Act → World → Prop} {a : Act} {w : World} {l : List Oper} (C : World → Prop) (m : Nat) (hn : l.length = m) (hm : P.follows .mixedOrders = true)
    (h : anyC P l.toArray C (fun a' w' => Q' .normal a' w') m (Array.replicate m false) a w.drew) : (Code.region id l.toArray true).wp P Q' a w := by
  subst hn
  refine wp_region_any hm (any_of_anyC (C := C) (Q := fun a' w' => Q' .normal a' w') (fun _ _ h => h) _ _ _ _ ?_)
  simpa using h

theorem reg_end {f : Nat} {lst : Array Bool} {a : Act} {w : World} (hr : (Region.ready .any ops lst).isEmpty = true) (h : Q a w) : anyC P ops C Q f lst a w := by
  have hr' : Region.ready .any ops lst = [] := List.isEmpty_iff.1 hr
  cases f with
  | zero => exact ⟨hr', h⟩
  | succ f => exact ⟨fun _ => h, fun i hi => by rw [hr'] at hi; cases hi⟩

/-- An operation that alone stands ready. -/
theorem reg_noisy {f : Nat} {lst : Array Bool} {a : Act} {w : World} (k : Nat) (o : Oper) (hr : (Region.ready .any ops lst == [k]) = true) (ho : ops[k]? = some o) (hg : o.guard = none)
    (h : o.wp P a w (fun a' w' => C w' ∧ anyC P ops C Q f (lst.setIfInBounds k true) a' w') nope) : anyC P ops C Q (f + 1) lst a w := by
  have hr' : Region.ready .any ops lst = [k] := eq_of_beq hr
  refine ⟨fun he => (by rw [hr'] at he; cases he), fun i hi => ?_⟩
  rw [hr'] at hi
  obtain rfl : i = k := by simpa using hi
  unfold okAt
  simp only [ho]
  rw [if_pos (by simp [Region.wanted, hg])]
  exact h
/-- An operation that alone stands ready, guarded or not, and is wanted. -/
theorem reg_call {f : Nat} {lst : Array Bool} {a : Act} {w : World} (k : Nat) (o : Oper) (hr : (Region.ready .any ops lst == [k]) = true) (ho : ops[k]? = some o) (hg : Region.wanted o (yielded ops a.tmps) = true)
    (h : o.wp P a w (fun a' w' => C w' ∧ anyC P ops C Q f (lst.setIfInBounds k true) a' w') nope) : anyC P ops C Q (f + 1) lst a w := by
  have hr' : Region.ready .any ops lst = [k] := eq_of_beq hr
  refine ⟨fun he => (by rw [hr'] at he; cases he), fun i hi => ?_⟩
  rw [hr'] at hi
  obtain rfl : i = k := by simpa using hi
  unfold okAt
  simp only [ho]
  rw [if_pos hg]
  exact h
/-- Two operations that stand ready, of which neither gives way. -/
theorem reg_branch {f : Nat} {lst : Array Bool} {a : Act} {w : World} (j k : Nat) (p o : Oper) (hr : (Region.ready .any ops lst == [j, k]) = true) (hp : ops[j]? = some p) (ho : ops[k]? = some o) (hpg : p.guard = none) (hg : o.guard = none)
    (h1 : p.wp P a w (fun a' w' => C w' ∧ anyC P ops C Q f (lst.setIfInBounds j true) a' w') nope)
    (h2 : o.wp P a w (fun a' w' => C w' ∧ anyC P ops C Q f (lst.setIfInBounds k true) a' w') nope) : anyC P ops C Q (f + 1) lst a w := by
  have hr' : Region.ready .any ops lst = [j, k] := eq_of_beq hr
  refine ⟨fun he => (by rw [hr'] at he; cases he), fun i hi => ?_⟩
  rw [hr'] at hi
  have hi' : i = j ∨ i = k := by simpa using hi
  unfold okAt
  rcases hi' with rfl | rfl
  · simp only [hp]
    rw [if_pos (by simp [Region.wanted, hpg])]
    exact h1
  · simp only [ho]
    rw [if_pos (by simp [Region.wanted, hg])]
    exact h2

/-- Operations that never enter a callee. -/
def plainOp : Op → Bool
  | .move _ | .assign _ | .pick .. | .load .. | .unOp .. | .binOp .. | .convert .. | .slice .. | .fieldAddr .. | .field .. | .indexAddr .. | .index .. | .extract .. | .build .. | .lookup .. => true
  | .nilCheck _ => true
  | .call c => match c.callee with
    | .builtin .len | .builtin .cap | .builtin .min | .builtin .max => true
    | _ => false
  | _ => false
theorem andThen_value (s : Result Value) : (∃ u w', (s.andThen fun a w => Result.ok (Next.value a) w) = .ok (.value u) w') ∨ ∃ x w', (s.andThen fun a w => Result.ok (Next.value a) w) = .halt x w' := by
  cases s with
  | ok a w1 => exact .inl ⟨_, _, rfl⟩
  | halt x w1 => exact .inr ⟨_, _, rfl⟩
theorem plain_call {c : Call} (h : plainOp (.call c) = true) (t : TypeId) (ρ : Operand → Value) (w : World) : (∃ u w', Sem.run P (do let d ← resolve ρ c t; invoke d.target d.args) w = .ok (.value u) w') ∨ ∃ x w', Sem.run P (do let d ← resolve ρ c t; invoke d.target d.args) w = .halt x w' := by
  unfold plainOp at h
  unfold resolve
  cases hc : c.callee with
  | builtin b =>
    simp only [hc] at h
    cases b <;> simp at h <;> simp only [Sem.run_bind, Sem.run_pure, Result.andThen_ok, invoke, builtin] <;> exact andThen_value _
  | invoke r n => simp [hc] at h
  | value f => simp [hc] at h
theorem nil_run {o : Oper} {x : Operand} (ho : o.op = .nilCheck x) (ρ : Operand → Value) (w : World) : (∃ u w', (execOp ρ o).run P w = .ok (.value u) w') ∨ ∃ x w', (execOp ρ o).run P w = .halt x w' := by
  unfold execOp
  simp only [ho]
  generalize ρ x = y
  split
  · exact .inr ⟨_, _, rfl⟩
  · exact .inr ⟨_, _, rfl⟩
  · exact .inr ⟨_, _, rfl⟩
  · split
    · exact .inr ⟨_, _, rfl⟩
    · simp only [Sem.run_bind]
      generalize Sem.run P program w = s
      cases s with
      | halt x w1 => exact .inr ⟨_, _, rfl⟩
      | ok a w1 =>
        simp only [Result.andThen_ok]
        generalize Sem.run P (nilAhead _ _ _ _) w1 = s2
        cases s2 with
        | halt x w1 => exact .inr ⟨_, _, rfl⟩
        | ok b w2 =>
          simp only [Result.andThen_ok]
          split
          · exact .inr ⟨_, _, rfl⟩
          · exact .inl ⟨_, _, rfl⟩
    · exact .inl ⟨_, _, rfl⟩
  · exact .inl ⟨_, _, rfl⟩
theorem plain_run {o : Oper} (h : plainOp o.op = true) (ρ : Operand → Value) (w : World) : (∃ u w', (execOp ρ o).run P w = .ok (.value u) w') ∨ ∃ x w', (execOp ρ o).run P w = .halt x w' := by
  cases ho : o.op <;> first
    | exact nil_run ho ρ w
    | skip
  all_goals
    unfold execOp
    simp only [ho, plainOp, Bool.false_eq_true] at h ⊢
  all_goals first
    | exact plain_call (by unfold plainOp; exact h) _ ρ w
    | exact .inl ⟨_, _, rfl⟩
    | (simp only [Sem.run_bind, Sem.run_pure]
       generalize Sem.run P _ w = s
       cases s with
       | ok a w1 => exact .inl ⟨_, _, rfl⟩
       | halt x w1 => exact .inr ⟨_, _, rfl⟩)
    | (simp only [Sem.run_bind, Sem.run_pure]
       exact andThen_value _)

theorem gives_of_quiet {o : Oper} {a : Act} {K : Act → Prop} (hp : plainOp o.op = true)
    (h : if Region.wanted o (yielded ops a.tmps) then o.quiet P a (fun w' => ∃ n : Cls C, w' = n.1) K else K (a.put o.dst undef)) : ∃ v, Gives P ops C o v a ∧ K (a.put o.dst v) := by
  by_cases hw : Region.wanted o (yielded ops a.tmps) = true
  · simp only [hw, if_true] at h
    obtain ⟨v, h1, h2⟩ := h
    refine ⟨v, .inl ⟨hw, fun w hC => ?_⟩, h2⟩
    have h3 := h1 w ⟨⟨w, hC⟩, rfl⟩
    unfold Oper.quietAt at h3
    rcases plain_run (P := P) hp a.eval w with ⟨u, w', e⟩ | ⟨x, w', e⟩
    · rw [e] at h3 ⊢
      simp only [Oper.quietUpon] at h3
      rw [h3.1, h3.2]
    · rw [e] at h3
      simp only [Oper.quietUpon] at h3
  · simp only [hw] at h
    exact ⟨undef, .inr ⟨by simpa using hw, rfl⟩, h⟩

def setAll (lst : Array Bool) : List Nat → Array Bool
  | [] => lst
  | i :: is => setAll (lst.setIfInBounds i true) is
def segB (ops : Array Oper) : Array Bool → List Nat → Bool
  | _, [] => true
  | lst, i :: is => (match ops[i]? with | some o => plainOp o.op | none => false) && (Region.ready .any ops lst).contains i && Region.free .any ops lst i && segB ops (lst.setIfInBounds i true) is

def pickL (ops : Array Oper) (is : List Nat) : List Oper := List.filterMap (fun i => ops[i]?) is
/-- Plain operations, one behind the other, in an order in which each stands ready. -/
theorem reg_seg {f : Nat} (hsel : Region.noSelect ops = true) (is : List Nat) : ∀ (lst : Array Bool) (a : Act) (w : World), C w → segB ops lst is = true →
    wpQuiet P ops (fun w' => ∃ n : Cls C, w' = n.1) (fun a' => anyC P ops C Q f (setAll lst is) a' w) (pickL ops is) a → anyC P ops C Q (f + is.length) lst a w := by
  induction is with
  | nil => intro lst a w _ _ h; exact h
  | cons i is ih =>
    intro lst a w hw hB h
    simp only [segB, Bool.and_eq_true] at hB
    obtain ⟨⟨⟨h1, h2⟩, h3⟩, h4⟩ := hB
    cases ho : ops[i]? with
    | none => simp only [ho] at h1; cases h1
    | some o =>
      simp only [ho] at h1
      unfold pickL at h
      rw [List.filterMap_cons_some (by exact ho)] at h
      obtain ⟨v, hv, hk⟩ := gives_of_quiet (P := P) (ops := ops) (C := C) h1 h
      exact anyC_first ho hsel (f + is.length) lst a w hw (Region.free_spec ho h3) (by simpa using h2) hv (ih _ _ w hw h4 hk)
end
end Go.Proofs.Ytgacpkbpbckgiaa
