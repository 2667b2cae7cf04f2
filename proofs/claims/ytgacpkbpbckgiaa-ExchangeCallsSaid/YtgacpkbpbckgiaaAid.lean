/-
  Small laws that a chapter's walks share: elements of several cells, rows of one cell, worlds behind worlds. No condition.
-/
import Derived.Test.YtgacpkbpbckgiaaMapO
namespace Go.Proofs.Ytgacpkbpbckgiaa
open Go Go.RowKit
set_option linter.unusedVariables false

/-! ### Elements of m cells -/
section
variable {α : Type} (f : α → List Value) (m : Nat) (hf : ∀ x, (f x).length = m)
include hf
theorem atM : ∀ (l : List α) (i : Nat) (x : α) (j : Nat), l[i]? = some x → j < m → (l.flatMap f)[i * m + j]? = (f x)[j]?
  | [], i, x, j, h, _ => by simp at h
  | y :: l, 0, x, j, h, hj => by
    simp at h
    subst h
    rw [List.flatMap_cons, Nat.zero_mul, Nat.zero_add, List.getElem?_append_left (by rw [hf]; exact hj)]
  | y :: l, i + 1, x, j, h, hj => by
    simp at h
    rw [List.flatMap_cons, List.getElem?_append_right (by rw [hf, Nat.add_mul]; omega), hf, show (i + 1) * m + j - m = i * m + j by rw [Nat.add_mul]; omega]
    exact atM l i x j h hj
theorem lenM (l : List α) : (l.flatMap f).length = l.length * m := by
  induction l with
  | nil => simp
  | cons y l ih => rw [List.flatMap_cons, List.length_append, hf, ih, List.length_cons, Nat.add_mul]; omega
theorem takeM (l : List α) (k : Nat) : (l.flatMap f).take (k * m) = (l.take k).flatMap f := by
  induction l generalizing k with
  | nil => simp
  | cons y l ih =>
    cases k with
    | zero => simp
    | succ k => rw [List.flatMap_cons, List.take_succ_cons, List.flatMap_cons, List.take_append, hf, List.take_of_length_le (by rw [hf, Nat.add_mul]; omega), show (k + 1) * m - m = k * m by rw [Nat.add_mul]; omega, ih]
theorem dropM (l : List α) (k : Nat) : (l.flatMap f).drop (k * m) = (l.drop k).flatMap f := by
  induction l generalizing k with
  | nil => simp
  | cons y l ih =>
    cases k with
    | zero => simp
    | succ k => rw [List.flatMap_cons, List.drop_succ_cons, List.drop_append, hf, List.drop_of_length_le (by rw [hf, Nat.add_mul]; omega), show (k + 1) * m - m = k * m by rw [Nat.add_mul]; omega, ih, List.nil_append]
theorem setM : ∀ (l : List α) (i : Nat) (x y : α) (j : Nat) (u : Value), l[i]? = some x → j < m → (f x).set j u = f y → (l.flatMap f).set (i * m + j) u = (l.set i y).flatMap f
  | [], i, x, y, j, u, h, _, _ => by simp at h
  | z :: l, 0, x, y, j, u, h, hj, e => by
    simp at h
    subst h
    rw [List.flatMap_cons, Nat.zero_mul, Nat.zero_add, List.set_append_left _ _ (by rw [hf]; exact hj), e]
    rfl
  | z :: l, i + 1, x, y, j, u, h, hj, e => by
    simp at h
    rw [List.flatMap_cons, List.set_append_right _ _ (by rw [hf, Nat.add_mul]; omega), hf, show (i + 1) * m + j - m = i * m + j by rw [Nat.add_mul]; omega, setM l i x y j u h hj e]
    rfl
end

theorem new1 (w : World) (o : Obj) (t : TypeId) (cs : Array Value) : Blk ((w.alloc o).alloc (.cells cs t)) (w.heap.size + 1) t cs := by
  have := Blk.new (w.alloc o) t cs
  rwa [show (w.alloc o).heap.size = w.heap.size + 1 by simp] at this

theorem bytes_inj {a b : ByteArray} (h : a.toList = b.toList) : a = b := by
  rw [ByteArray.toList_eq, ByteArray.toList_eq] at h
  exact ByteArray.ext (Array.toList_inj.1 h)

theorem RD.of_rowL {w : World} {base : Nat} {e : TypeId} {n c : Nat} {A : Option Addr} {xs : List Value} (h : rowL w base e 1 A n c xs) : RD w A n xs := by
  refine ⟨by have := h.1; omega, fun hn => ?_⟩
  obtain ⟨g, rfl, _, hlt, hc, _⟩ := h.cells hn
  exact ⟨g, 0, rfl, hlt, fun j u hu => by rw [Nat.zero_add]; exact hc j u hu⟩

theorem below_grownL {B : Nat} {w0 w w' : World} (hb : Below B w0 w) {base n c size : Nat} {e : TypeId} {A : Option Addr} {xs : List Value} (hr : rowL w base e size A n c xs) (h : B ≤ base) (hB : B ≤ w.heap.size) (hg : w.grownBy w' (blkOf A)) : Below B w0 w' :=
  hb.grown hg hB fun q hq => by
    rcases hr.2 with ⟨rfl, _⟩ | ⟨g, cur, rfl, hbg, _⟩
    · simp [blkOf] at hq
    · simp [blkOf] at hq
      omega

theorem strs_one (l : List ByteArray) : ∀ u ∈ l.map Value.string, u.oneCell' = true := by
  intro u hu
  obtain ⟨x, _, rfl⟩ := List.mem_map.1 hu
  rfl

theorem Turn.above {B : Nat} {T T' : List TypeId} {m m' : Bool} {a b c : World} (h : Turn B T m a b) (k : Turn a.heap.size T' m' b c) (hB : B ≤ a.heap.size) : Turn B T m a c :=
  ⟨k.os.trans h.os, k.tape.trans h.tape, k.output.trans h.output, Nat.le_trans h.size k.size, fun i hi => (k.low i (by omega)).trans (h.low i hi),
    fun i cs t fr hi ht => (k.low i (Array.getElem?_eq_some_iff.1 hi).1).trans (h.far i cs t fr hi ht), fun hm i es c hi => (k.low i (Array.getElem?_eq_some_iff.1 hi).1).trans (h.map hm i es c hi)⟩
end Go.Proofs.Ytgacpkbpbckgiaa
