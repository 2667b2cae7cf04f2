/-
  Forward: what a queue computes, in plain Lean. No program in sight.
-/
import Derived.Test.YthjgfheogbchkaaMap
namespace Go.Proofs.Ythjgfheogbchkaa
open Go.RowKit
set_option linter.unusedVariables false

structure En where
  key : ByteArray
  text : ByteArray
  due : Int
  tries : Int
deriving DecidableEq
structure It where
  key : ByteArray
  text : ByteArray
  try_ : Int
deriving DecidableEq
/-- A queue: its retry, the keys that were ever put, the entries that wait. -/
structure FQ where
  retry : Int
  kn : List (List UInt8)
  ws : List En

def enC (x : En) : List Value := [.string x.key, .string x.text, .int .i64 x.due, .int .i64 x.tries]
def itC (x : It) : List Value := [.string x.key, .string x.text, .int .i64 x.try_]
theorem enC4 (x : En) : (enC x).length = 4 := rfl
theorem itC3 (x : It) : (itC x).length = 3 := rfl
def isT (n : Int) : Prop := 0 ≤ n ∧ n ≤ 1099511627776
instance (n : Int) : Decidable (isT n) := by unfold isT; exact inferInstance

/-- The index of a key, k behind those passed. -/
def findK (key : ByteArray) : List En → Option Nat
  | [] => none
  | x :: l => if x.key.toList = key.toList then some 0 else (findK key l).map (· + 1)
def idxI (o : Option Nat) : Int := match o with | some k => (k : Int) | none => -1
/-- None of the first i bears the key. -/
def noneK (key : ByteArray) (l : List En) (i : Nat) : Prop := ∀ j x, j < i → l[j]? = some x → ¬ x.key.toList = key.toList
theorem findK_none {key : ByteArray} : ∀ {l : List En}, noneK key l l.length → findK key l = none
  | [], _ => rfl
  | x :: l, h => by
    unfold findK
    rw [if_neg (h 0 x (by simp) rfl), findK_none (l := l) (fun j y hj hy => h (j + 1) y (by simp; omega) (by simpa using hy))]
    rfl
theorem findK_some {key : ByteArray} : ∀ {l : List En} {i : Nat} {x : En}, noneK key l i → l[i]? = some x → x.key.toList = key.toList → findK key l = some i
  | [], _, _, _, h, _ => by simp at h
  | y :: l, 0, x, _, h, e => by
    simp at h
    subst h
    unfold findK
    rw [if_pos e]
  | y :: l, i + 1, x, hn, h, e => by
    unfold findK
    rw [if_neg (hn 0 y (by omega) rfl), findK_some (l := l) (i := i) (fun j z hj hz => hn (j + 1) z (by omega) (by simpa using hz)) (by simpa using h) e]
    rfl
theorem noneK_zero (key : ByteArray) (l : List En) : noneK key l 0 := fun _ _ h => absurd h (by omega)
theorem noneK_succ {key : ByteArray} {l : List En} {i : Nat} {x : En} (h : noneK key l i) (hx : l[i]? = some x) (hne : ¬ x.key.toList = key.toList) : noneK key l (i + 1) := by
  intro j y hj hy
  by_cases e : j = i
  · subst e
    rw [hx] at hy
    injection hy with hy
    subst hy
    exact hne
  · exact h j y (by omega) hy
theorem findK_lt {key : ByteArray} : ∀ {l : List En} {i : Nat}, findK key l = some i → i < l.length
  | [], _, h => by simp [findK] at h
  | y :: l, i, h => by
    unfold findK at h
    split at h
    · injection h with h; subst h; simp
    · cases hf : findK key l with
      | none => rw [hf] at h; simp at h
      | some k =>
        rw [hf] at h
        have := findK_lt hf
        simp at h
        simp
        omega

/-- What a poll returns, and what it leaves. -/
def pollI (at_ : Int) : List En → List It
  | [] => []
  | x :: l => if at_ < x.due then pollI at_ l else ⟨x.key, x.text, x.tries + 1⟩ :: pollI at_ l
def pollW (at_ r : Int) (l : List En) : List En := l.map fun x => if at_ < x.due then x else ⟨x.key, x.text, at_ + r, x.tries + 1⟩
theorem pollW_len (at_ r : Int) (l : List En) : (pollW at_ r l).length = l.length := by simp [pollW]
theorem pollI_len (at_ : Int) : ∀ l : List En, (pollI at_ l).length ≤ l.length
  | [] => by simp [pollI]
  | x :: l => by
    have := pollI_len at_ l
    unfold pollI
    split <;> simp <;> omega
theorem pollI_append (at_ : Int) : ∀ a b : List En, pollI at_ (a ++ b) = pollI at_ a ++ pollI at_ b
  | [], b => rfl
  | x :: a, b => by
    simp only [List.cons_append, pollI, pollI_append at_ a b]
    split <;> simp
/-- The list of a poll in the middle: the first i are done. -/
def midW (at_ r : Int) (l : List En) (i : Nat) : List En := pollW at_ r (l.take i) ++ l.drop i
theorem midW_zero (at_ r : Int) (l : List En) : midW at_ r l 0 = l := by simp [midW, pollW]
theorem midW_len (at_ r : Int) (l : List En) (i : Nat) : (midW at_ r l i).length = l.length := by simp [midW, pollW_len]; omega
theorem midW_end (at_ r : Int) (l : List En) : midW at_ r l l.length = pollW at_ r l := by simp [midW]
theorem midW_at {at_ r : Int} {l : List En} {i : Nat} {x : En} (h : l[i]? = some x) : (midW at_ r l i)[i]? = some x := by
  have hi : i < l.length := (List.getElem?_eq_some_iff.1 h).1
  unfold midW
  rw [List.getElem?_append_right (by rw [pollW_len]; simp; omega), pollW_len]
  rw [List.length_take, Nat.min_eq_left (by omega), Nat.sub_self, List.getElem?_drop, Nat.add_zero]
  exact h
theorem midW_succ {at_ r : Int} {l : List En} {i : Nat} {x : En} (h : l[i]? = some x) : midW at_ r l (i + 1) = (midW at_ r l i).set i (if at_ < x.due then x else ⟨x.key, x.text, at_ + r, x.tries + 1⟩) := by
  obtain ⟨hi, rfl⟩ := List.getElem?_eq_some_iff.1 h
  unfold midW
  rw [List.take_succ_eq_append_getElem hi]
  have e1 : (pollW at_ r (l.take i)).length = i := by rw [pollW_len, List.length_take]; omega
  rw [List.set_append_right _ _ (by omega), e1, Nat.sub_self, List.drop_eq_getElem_cons hi, List.set_cons_zero]
  unfold pollW
  rw [List.map_append, List.append_assoc]
  rfl
theorem pollI_succ {at_ : Int} {l : List En} {i : Nat} {x : En} (h : l[i]? = some x) : pollI at_ (l.take (i + 1)) = pollI at_ (l.take i) ++ (if at_ < x.due then [] else [⟨x.key, x.text, x.tries + 1⟩]) := by
  obtain ⟨hi, rfl⟩ := List.getElem?_eq_some_iff.1 h
  rw [List.take_succ_eq_append_getElem hi, pollI_append]
  simp only [pollI]

/-! ### Elements of m cells -/
section
variable {α : Type} (f : α → List Value) (m : Nat) (hf : ∀ x, (f x).length = m)
include hf
theorem atM : ∀ (l : List α) (i : Nat) (x : α) (j : Nat), l[i]? = some x → j < m → (l.flatMap f)[i * m + j]? = (f x)[j]?
  | [], i, x, j, h, _ => by simp at h
  | y :: l, 0, x, j, h, hj => by
    simp at h
    subst h
    rw [List.flatMap_cons, Nat.zero_mul, Nat.zero_add, List.getElem?_append_left (by rw [hf]; exact hj)]
  | y :: l, i + 1, x, j, h, hj => by
    simp at h
    rw [List.flatMap_cons, List.getElem?_append_right (by rw [hf, Nat.add_mul]; omega), hf, show (i + 1) * m + j - m = i * m + j by rw [Nat.add_mul]; omega]
    exact atM l i x j h hj
theorem lenM (l : List α) : (l.flatMap f).length = l.length * m := by
  induction l with
  | nil => simp
  | cons y l ih => rw [List.flatMap_cons, List.length_append, hf, ih, List.length_cons, Nat.add_mul]; omega
theorem takeM (l : List α) (k : Nat) : (l.flatMap f).take (k * m) = (l.take k).flatMap f := by
  induction l generalizing k with
  | nil => simp
  | cons y l ih =>
    cases k with
    | zero => simp
    | succ k => rw [List.flatMap_cons, List.take_succ_cons, List.flatMap_cons, List.take_append, hf, List.take_of_length_le (by rw [hf, Nat.add_mul]; omega), show (k + 1) * m - m = k * m by rw [Nat.add_mul]; omega, ih]
theorem dropM (l : List α) (k : Nat) : (l.flatMap f).drop (k * m) = (l.drop k).flatMap f := by
  induction l generalizing k with
  | nil => simp
  | cons y l ih =>
    cases k with
    | zero => simp
    | succ k => rw [List.flatMap_cons, List.drop_succ_cons, List.drop_append, hf, List.drop_of_length_le (by rw [hf, Nat.add_mul]; omega), show (k + 1) * m - m = k * m by rw [Nat.add_mul]; omega, ih, List.nil_append]
theorem setM : ∀ (l : List α) (i : Nat) (x y : α) (j : Nat) (u : Value), l[i]? = some x → j < m → (f x).set j u = f y → (l.flatMap f).set (i * m + j) u = (l.set i y).flatMap f
  | [], i, x, y, j, u, h, _, _ => by simp at h
  | z :: l, 0, x, y, j, u, h, hj, e => by
    simp at h
    subst h
    rw [List.flatMap_cons, Nat.zero_mul, Nat.zero_add, List.set_append_left _ _ (by rw [hf]; exact hj), e]
    rfl
  | z :: l, i + 1, x, y, j, u, h, hj, e => by
    simp at h
    rw [List.flatMap_cons, List.set_append_right _ _ (by rw [hf, Nat.add_mul]; omega), hf, show (i + 1) * m + j - m = i * m + j by rw [Nat.add_mul]; omega, setM l i x y j u h hj e]
    rfl
end
end Go.Proofs.Ythjgfheogbchkaa
