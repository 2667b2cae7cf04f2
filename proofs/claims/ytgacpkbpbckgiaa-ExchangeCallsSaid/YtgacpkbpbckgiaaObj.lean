/-
  Objects: what a call of a method turns. 'Turn B T m w w'': of the blocks that were there only cells of the types T (and maps, where m), from block B on, may have turned. No condition.
-/
import Derived.Test.YtgacpkbpbckgiaaPlan
import Derived.Test.YtgacpkbpbckgiaaKit
namespace Go.Proofs.Ytgacpkbpbckgiaa
open Go Go.RowKit

structure Turn (B : Nat) (T : List TypeId) (m : Bool) (w w' : World) : Prop where
  os : w'.os = w.os
  tape : w'.tape = w.tape
  output : w'.output = w.output
  size : w.heap.size ≤ w'.heap.size
  low : ∀ k, k < B → w'.heap[k]? = w.heap[k]?
  far : ∀ (k : Nat) (cs : Array Value) (t : TypeId) (fr : Nat × Nat), w.heap[k]? = some (Obj.cells cs t fr) → T.contains t = false → w'.heap[k]? = w.heap[k]?
  map : m = false → ∀ (k : Nat) es c, w.heap[k]? = some (Obj.map es c) → w'.heap[k]? = w.heap[k]?

section
variable {B : Nat} {T : List TypeId} {m : Bool} {w w' a b c : World}
theorem Turn.refl (B : Nat) (T : List TypeId) (m : Bool) (w : World) : Turn B T m w w := ⟨rfl, rfl, rfl, Nat.le_refl _, fun _ _ => rfl, fun _ _ _ _ _ _ => rfl, fun _ _ _ _ _ => rfl⟩
theorem Turn.trans (h : Turn B T m a b) (k : Turn B T m b c) : Turn B T m a c :=
  ⟨k.os.trans h.os, k.tape.trans h.tape, k.output.trans h.output, Nat.le_trans h.size k.size, fun i hi => (k.low i hi).trans (h.low i hi),
    fun i cs t fr hi ht => (k.far i cs t fr ((h.far i cs t fr hi ht).trans hi) ht).trans (h.far i cs t fr hi ht),
    fun hm i es c hi => (k.map hm i es c ((h.map hm i es c hi).trans hi)).trans (h.map hm i es c hi)⟩
/-- A call that makes memory and turns nothing. -/
theorem Turn.of_below (h : Below a.heap.size a b) (hB : B ≤ a.heap.size) : Turn B T m a b :=
  ⟨h.os, h.tape, h.output, h.size, fun i hi => h.block i (Nat.lt_of_lt_of_le hi hB), fun i _ _ _ hi _ => h.block i (Array.getElem?_eq_some_iff.1 hi).1, fun _ i _ _ hi => h.block i (Array.getElem?_eq_some_iff.1 hi).1⟩
theorem Turn.call (h : Turn B T m a b) (k : Below b.heap.size b c) (hB : B ≤ a.heap.size) : Turn B T m a c := h.trans (Turn.of_below k (Nat.le_trans hB h.size))
theorem Turn.drew (h : Turn B T m a b) : Turn B T m a b.drew := ⟨h.os, h.tape, h.output, h.size, h.low, h.far, h.map⟩
theorem Turn.drewN (h : Turn B T m a b) (n : Nat) : Turn B T m a (b.drewN n) := ⟨h.os, h.tape, h.output, h.size, h.low, h.far, h.map⟩
theorem Turn.alloc (h : Turn B T m a b) (o : Obj) (hB : B ≤ a.heap.size) : Turn B T m a (b.alloc o) := h.call ((Below.refl _ _).alloc (Nat.le_refl _) o) hB
/-- A store into a cell of a type of T. -/
theorem Turn.set_ (h : Turn B T m a b) {g : Nat} {t : TypeId} {cs : Array Value} {fr : Nat × Nat} (hg : b.heap[g]? = some (Obj.cells cs t fr)) (ht : T.contains t = true) (hB : B ≤ g) (i : Nat) (u : Value) : Turn B T m a (b.setCell ⟨g, i, none⟩ u) := by
  refine h.trans ⟨rfl, rfl, rfl, by simp [World.setCell], fun k hk => Below.heap_setCell _ _ _ _ (by simp; omega), fun k cs' t' fr' hk ht' => Below.heap_setCell _ _ _ _ ?_, fun _ k es c hk => Below.heap_setCell _ _ _ _ ?_⟩
  · intro ek
    rw [show k = g from ek, hg] at hk
    injection hk with hk
    injection hk with _ e _
    subst e
    rw [ht] at ht'
    cases ht'
  · intro ek
    rw [show k = g from ek, hg] at hk
    injection hk with hk
    cases hk
theorem Turn.setB (h : Turn B T m a b) {g : Nat} {t : TypeId} {cs : Array Value} (hg : Blk b g t cs) (ht : T.contains t = true) (hB : B ≤ g) (i : Nat) (u : Value) : Turn B T m a (b.setCell ⟨g, i, none⟩ u) := h.set_ (cs := cs) (fr := (0, 0)) hg ht hB i u
/-- A store into a block that is new since a. -/
theorem Turn.setNew (h : Turn B T m a b) {g : Nat} (hg : a.heap.size ≤ g) (hB : B ≤ a.heap.size) (i : Nat) (u : Value) : Turn B T m a (b.setCell ⟨g, i, none⟩ u) := by
  have e : ∀ k, k < a.heap.size → (b.setCell ⟨g, i, none⟩ u).heap[k]? = b.heap[k]? := fun k hk => Below.heap_setCell _ _ _ _ (by simp; omega)
  refine ⟨h.os, h.tape, h.output, by simpa [World.setCell] using h.size, fun k hk => (e k (by omega)).trans (h.low k hk), fun k cs t fr hk ht => (e k (Array.getElem?_eq_some_iff.1 hk).1).trans (h.far k cs t fr hk ht), fun hm k es c hk => (e k (Array.getElem?_eq_some_iff.1 hk).1).trans (h.map hm k es c hk)⟩
/-- Behind a law that ends in 'grownBy': the row is of a type of T. -/
theorem Turn.grown (h : Turn B T m a b) (hg : b.grownBy c none) (hB : B ≤ a.heap.size) : Turn B T m a c :=
  h.call ⟨hg.os, hg.tape, hg.output, hg.size, fun k hk => hg.block k hk (by simp)⟩ hB
theorem Turn.grownBy (h : Turn B T m a b) {e : TypeId} {size n : Nat} {v : Value} {xs : List Value} (hown : b.ownsRow B e size v n xs) (hg : b.grownBy c v.ownBlock) (ht : T.contains e = true) (hB : B ≤ a.heap.size) : Turn B T m a c := by
  have hs : B ≤ b.heap.size := Nat.le_trans hB h.size
  rcases hown.2 with ⟨rfl, rfl⟩ | ⟨g, cap, cur, rfl, hbg, hh, _⟩
  · exact h.grown hg hB
  · have hne : ∀ k, k ≠ g → some k ≠ (Value.slice (some ⟨g, 0, none⟩) n cap).ownBlock := by intro k hk; simp [Value.ownBlock, hk]
    refine h.trans ⟨hg.os, hg.tape, hg.output, hg.size, fun k hk => hg.block k (by omega) (hne k (by omega)), fun k cs t fr hk ht' => hg.block k (Array.getElem?_eq_some_iff.1 hk).1 (hne k ?_), fun _ k es c hk => hg.block k (Array.getElem?_eq_some_iff.1 hk).1 (hne k ?_)⟩
    · rintro rfl
      rw [hh] at hk
      injection hk with hk
      injection hk with _ e _
      subst e
      rw [ht] at ht'
      cases ht'
    · rintro rfl
      rw [hh] at hk
      injection hk with hk
      cases hk
theorem Turn.below (h : Turn B T m w w') : Below B w w' := ⟨h.os, h.tape, h.output, h.size, h.low⟩
theorem Turn.mono {B' : Nat} {T' : List TypeId} {m' : Bool} (h : Turn B T m w w') (hB : B' ≤ B) (hT : ∀ t, T.contains t = true → T'.contains t = true) (hm : m = true → m' = true) : Turn B' T' m' w w' :=
  ⟨h.os, h.tape, h.output, h.size, fun k hk => h.low k (by omega), fun k cs t fr hk ht => h.far k cs t fr hk (by
    cases e : T.contains t with
    | false => rfl
    | true => rw [hT t e] at ht; cases ht), fun e => h.map (by cases m with | false => rfl | true => rw [hm rfl] at e; cases e)⟩
theorem Blk.turn {g : Nat} {t : TypeId} {cs : Array Value} (h : Blk w g t cs) (k : Turn B T m w w') (ht : T.contains t = false) : Blk w' g t cs := (k.far g cs t (0, 0) h ht).trans h
theorem Blk.low {g : Nat} {t : TypeId} {cs : Array Value} (h : Blk w g t cs) (k : Turn B T m w w') (hg : g < B) : Blk w' g t cs := (k.low g hg).trans h
theorem own_turn {base : Nat} {e : TypeId} {size : Nat} {v : Value} {n : Nat} {xs : List Value} (h : w.ownsRow base e size v n xs) (k : Turn B T m w w') (he : T.contains e = false) : w'.ownsRow base e size v n xs := by
  refine ⟨h.1, ?_⟩
  rcases h.2 with h2 | ⟨g, cap, cur, hv, hg, hh, r⟩
  · exact .inl h2
  · exact .inr ⟨g, cap, cur, hv, hg, (k.far g cur e (0, 0) hh he).trans hh, r⟩
end

/-! ### A row of the call's own, read and written; elements of 'size' cells -/
section
variable {w : World} {base : Nat} {e : TypeId} {size : Nat} {n : Nat} {xs : List Value} {A : Option Addr} {c : Nat}
theorem own_cells (h : w.ownsRow base e size (.slice A n c) n xs) (hn : 0 < n) : ∃ g, A = some ⟨g, 0, none⟩ ∧ base ≤ g ∧ g < w.heap.size ∧ n ≤ c ∧ (∀ j u, xs[j]? = some u → w.cell? ⟨g, j, none⟩ = some u) ∧ ∀ j, w.frozen? ⟨g, j, none⟩ = false := by
  rcases h.2 with ⟨hv, h0⟩ | ⟨g, cap, cur, hv, hb, hh, hnc, r⟩
  · omega
  · injection hv with h1 h2 h3
    subst h1 h3
    have B1 : Blk w g e cur := hh
    refine ⟨g, rfl, hb, B1.lt, hnc, fun j u hu => ?_, B1.frozen⟩
    have := h.cells (g := g) rfl j u hu
    rwa [Addr.add_lit, Nat.zero_add] at this
theorem own_len (h : w.ownsRow base e size (.slice A n c) n xs) : n ≤ c ∧ c ≤ maxLen := by
  rcases h.2 with ⟨hv, h0⟩ | ⟨g, cap, cur, hv, hb, hh, hnc, hm, r⟩
  · injection hv with h1 h2 h3
    subst h0 h3
    exact ⟨Nat.le_refl _, by unfold maxLen; omega⟩
  · injection hv with h1 h2 h3
    subst h3
    exact ⟨hnc, hm⟩
/-- A store into an element. -/
theorem own_set {cap g : Nat} (h : w.ownsRow base e size (.slice (some ⟨g, 0, none⟩) n cap) n xs) (j : Nat) (u : Value) : (w.setCell ⟨g, j, none⟩ u).ownsRow base e size (.slice (some ⟨g, 0, none⟩) n cap) n (xs.set j u) := by
  refine ⟨by rw [List.length_set]; exact h.1, .inr ?_⟩
  rcases h.2 with ⟨hv, h0⟩ | ⟨g', cap', cur, hv, hb, hh, hnc, hm, hcs, hx⟩
  · cases hv
  · injection hv with h1 h2 h3
    injection h1 with h1
    injection h1 with h1
    subst h1 h3
    refine ⟨g, cap, cur.setIfInBounds j u, rfl, hb, Blk.set_ (cs := cur) hh j u, hnc, hm, by simpa using hcs, ?_⟩
    rw [Array.toList_setIfInBounds, List.take_set, hx]
/-- The row cut at its end: 's[:k]'. -/
theorem own_take {v : Value} (h : w.ownsRow base e size v n xs) {A : Option Addr} {cap k : Nat} (hv : v = .slice A n cap) (hk : k ≤ n) (h0 : A = none → k = 0 ∧ cap = 0) : w.ownsRow base e size (.slice A k cap) k (xs.take (k * size)) := by
  have hks : k * size ≤ n * size := Nat.mul_le_mul_right _ hk
  refine ⟨by rw [List.length_take, h.1]; omega, ?_⟩
  rcases h.2 with ⟨hv', hn⟩ | ⟨g, cap', cur, hv', hb, hh, hnc, hm, hcs, hx⟩
  · rw [hv] at hv'
    injection hv' with h1 h2 h3
    subst h1 h3
    exact .inl ⟨by rw [(h0 rfl).1], (h0 rfl).1⟩
  · rw [hv] at hv'
    injection hv' with h1 h2 h3
    subst h1 h3
    exact .inr ⟨g, cap, cur, rfl, hb, hh, by omega, hm, hcs, by rw [← hx, List.take_take, Nat.min_eq_left hks]⟩
end

/-! ### Elements of three cells -/
theorem at3 {α : Type} (f : α → List Value) (hf : ∀ x, (f x).length = 3) : ∀ (l : List α) (i : Nat) (x : α) (j : Nat), l[i]? = some x → j < 3 → (l.flatMap f)[i * 3 + j]? = (f x)[j]?
  | [], i, x, j, h, _ => by simp at h
  | y :: l, 0, x, j, h, hj => by
    simp at h
    subst h
    rw [List.flatMap_cons, Nat.zero_mul, Nat.zero_add, List.getElem?_append_left (by rw [hf]; exact hj)]
  | y :: l, i + 1, x, j, h, hj => by
    simp at h
    rw [List.flatMap_cons, List.getElem?_append_right (by rw [hf]; omega), hf, show (i + 1) * 3 + j - 3 = i * 3 + j by omega]
    exact at3 f hf l i x j h hj
theorem len3 {α : Type} (f : α → List Value) (hf : ∀ x, (f x).length = 3) (l : List α) : (l.flatMap f).length = l.length * 3 := by
  induction l with
  | nil => rfl
  | cons y l ih => rw [List.flatMap_cons, List.length_append, hf, ih, List.length_cons]; omega
theorem take3 {α : Type} (f : α → List Value) (hf : ∀ x, (f x).length = 3) (l : List α) (k : Nat) : (l.flatMap f).take (k * 3) = (l.take k).flatMap f := by
  induction l generalizing k with
  | nil => simp
  | cons y l ih =>
    cases k with
    | zero => simp
    | succ k => rw [List.flatMap_cons, List.take_succ_cons, List.flatMap_cons, List.take_append, hf, List.take_of_length_le (by rw [hf]; omega), show (k + 1) * 3 - 3 = k * 3 by omega, ih]
theorem drop3 {α : Type} (f : α → List Value) (hf : ∀ x, (f x).length = 3) (l : List α) (k : Nat) : (l.flatMap f).drop (k * 3) = (l.drop k).flatMap f := by
  induction l generalizing k with
  | nil => simp
  | cons y l ih =>
    cases k with
    | zero => simp
    | succ k => rw [List.flatMap_cons, List.drop_succ_cons, List.drop_append, hf, List.drop_of_length_le (by rw [hf]; omega), show (k + 1) * 3 - 3 = k * 3 by omega, ih, List.nil_append]
end Go.Proofs.Ytgacpkbpbckgiaa
