/-
  Timer: what a set of timers computes, in plain Lean. No program in sight.
-/
import Derived.Test.YtmkcpgdjbbcigaaMap
namespace Go.Proofs.Ytmkcpgdjbbcigaa
open Go.RowKit
set_option linter.unusedVariables false

structure Ti where
  id : ByteArray
  at_ : Int
deriving DecidableEq
/-- A set of timers: the present time, the timers in their order. -/
structure TS where
  now : Int
  ts : List Ti

def tiC (x : Ti) : List Value := [.string x.id, .int .i64 x.at_]
theorem tiC2 (x : Ti) : (tiC x).length = 2 := rfl

/-- The index of an identification. -/
def findK (key : ByteArray) : List Ti → Option Nat
  | [] => none
  | x :: l => if x.id.toList = key.toList then some 0 else (findK key l).map (· + 1)
def idxI (o : Option Nat) : Int := match o with | some k => (k : Int) | none => -1
def noneK (key : ByteArray) (l : List Ti) (i : Nat) : Prop := ∀ j x, j < i → l[j]? = some x → ¬ x.id.toList = key.toList
theorem findK_none {key : ByteArray} : ∀ {l : List Ti}, noneK key l l.length → findK key l = none
  | [], _ => rfl
  | x :: l, h => by
    unfold findK
    rw [if_neg (h 0 x (by simp) rfl), findK_none (l := l) (fun j y hj hy => h (j + 1) y (by simp; omega) (by simpa using hy))]
    rfl
theorem findK_some {key : ByteArray} : ∀ {l : List Ti} {i : Nat} {x : Ti}, noneK key l i → l[i]? = some x → x.id.toList = key.toList → findK key l = some i
  | [], _, _, _, h, _ => by simp at h
  | y :: l, 0, x, _, h, e => by
    simp at h
    subst h
    unfold findK
    rw [if_pos e]
  | y :: l, i + 1, x, hn, h, e => by
    unfold findK
    rw [if_neg (hn 0 y (by omega) rfl), findK_some (l := l) (i := i) (fun j z hj hz => hn (j + 1) z (by omega) (by simpa using hz)) (by simpa using h) e]
    rfl
theorem noneK_zero (key : ByteArray) (l : List Ti) : noneK key l 0 := fun _ _ h => absurd h (by omega)
theorem noneK_succ {key : ByteArray} {l : List Ti} {i : Nat} {x : Ti} (h : noneK key l i) (hx : l[i]? = some x) (hne : ¬ x.id.toList = key.toList) : noneK key l (i + 1) := by
  intro j y hj hy
  by_cases e : j = i
  · subst e
    rw [hx] at hy
    injection hy with hy
    subst hy
    exact hne
  · exact h j y (by omega) hy
theorem findK_lt {key : ByteArray} : ∀ {l : List Ti} {i : Nat}, findK key l = some i → i < l.length
  | [], _, h => by simp [findK] at h
  | y :: l, i, h => by
    unfold findK at h
    split at h
    · injection h with h; subst h; simp
    · cases hf : findK key l with
      | none => rw [hf] at h; simp at h
      | some k =>
        rw [hf] at h
        have := findK_lt hf
        simp at h
        simp
        omega

/-- Where a timer set to a time goes: behind all that are not later. -/
def place (a : Int) (l : List Ti) : Nat → Nat
  | 0 => 0
  | k + 1 => match l[k]? with
    | some x => if a < x.at_ then place a l k else k + 1
    | none => k + 1
theorem place_le (a : Int) (l : List Ti) : ∀ k, place a l k ≤ k
  | 0 => Nat.le_refl _
  | k + 1 => by
    have := place_le a l k
    unfold place
    split
    · split <;> omega
    · omega
theorem place_succ {a : Int} {l : List Ti} {k : Nat} {x : Ti} (h : l[k]? = some x) : place a l (k + 1) = if a < x.at_ then place a l k else k + 1 := by
  rw [place, h]
def insT (x : Ti) (l : List Ti) : List Ti := l.take (place x.at_ l l.length) ++ x :: l.drop (place x.at_ l l.length)
def remT (i n : Nat) (l : List Ti) : List Ti := l.take i ++ l.drop (i + n)

/-- How many timers are due. -/
def dueN (u : Int) : List Ti → Nat
  | [] => 0
  | x :: l => if u < x.at_ then 0 else dueN u l + 1
theorem dueN_le (u : Int) : ∀ l : List Ti, dueN u l ≤ l.length
  | [] => Nat.le_refl _
  | x :: l => by
    have := dueN_le u l
    unfold dueN
    split <;> simp <;> omega

/-- A character of an identification. -/
def okc (b : UInt8) : Bool := (97 ≤ b && b ≤ 122) || (65 ≤ b && b ≤ 90) || (48 ≤ b && b ≤ 57) || b == 95 || b == 45
def identOk (s : ByteArray) : Bool := decide (1 ≤ s.size) && decide (s.size ≤ 16) && s.data.toList.all okc

/-! ### Elements of m cells -/
section
variable {α : Type} (f : α → List Value) (m : Nat) (hf : ∀ x, (f x).length = m)
include hf
theorem atM : ∀ (l : List α) (i : Nat) (x : α) (j : Nat), l[i]? = some x → j < m → (l.flatMap f)[i * m + j]? = (f x)[j]?
  | [], i, x, j, h, _ => by simp at h
  | y :: l, 0, x, j, h, hj => by
    simp at h
    subst h
    rw [List.flatMap_cons, Nat.zero_mul, Nat.zero_add, List.getElem?_append_left (by rw [hf]; exact hj)]
  | y :: l, i + 1, x, j, h, hj => by
    simp at h
    rw [List.flatMap_cons, List.getElem?_append_right (by rw [hf, Nat.add_mul]; omega), hf, show (i + 1) * m + j - m = i * m + j by rw [Nat.add_mul]; omega]
    exact atM l i x j h hj
theorem lenM (l : List α) : (l.flatMap f).length = l.length * m := by
  induction l with
  | nil => simp
  | cons y l ih => rw [List.flatMap_cons, List.length_append, hf, ih, List.length_cons, Nat.add_mul]; omega
theorem takeM (l : List α) (k : Nat) : (l.flatMap f).take (k * m) = (l.take k).flatMap f := by
  induction l generalizing k with
  | nil => simp
  | cons y l ih =>
    cases k with
    | zero => simp
    | succ k => rw [List.flatMap_cons, List.take_succ_cons, List.flatMap_cons, List.take_append, hf, List.take_of_length_le (by rw [hf, Nat.add_mul]; omega), show (k + 1) * m - m = k * m by rw [Nat.add_mul]; omega, ih]
theorem dropM (l : List α) (k : Nat) : (l.flatMap f).drop (k * m) = (l.drop k).flatMap f := by
  induction l generalizing k with
  | nil => simp
  | cons y l ih =>
    cases k with
    | zero => simp
    | succ k => rw [List.flatMap_cons, List.drop_succ_cons, List.drop_append, hf, List.drop_of_length_le (by rw [hf, Nat.add_mul]; omega), show (k + 1) * m - m = k * m by rw [Nat.add_mul]; omega, ih, List.nil_append]
theorem setM : ∀ (l : List α) (i : Nat) (x y : α) (j : Nat) (u : Value), l[i]? = some x → j < m → (f x).set j u = f y → (l.flatMap f).set (i * m + j) u = (l.set i y).flatMap f
  | [], i, x, y, j, u, h, _, _ => by simp at h
  | z :: l, 0, x, y, j, u, h, hj, e => by
    simp at h
    subst h
    rw [List.flatMap_cons, Nat.zero_mul, Nat.zero_add, List.set_append_left _ _ (by rw [hf]; exact hj), e]
    rfl
  | z :: l, i + 1, x, y, j, u, h, hj, e => by
    simp at h
    rw [List.flatMap_cons, List.set_append_right _ _ (by rw [hf, Nat.add_mul]; omega), hf, show (i + 1) * m + j - m = i * m + j by rw [Nat.add_mul]; omega, setM l i x y j u h hj e]
    rfl
end
end Go.Proofs.Ytmkcpgdjbbcigaa
