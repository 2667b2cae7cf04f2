/-
  Velocity: walk over the law VelocityExact. No condition but that the slice's length is a Go int and that its numbers are bytes.
-/
import Derived.Test.YtieimeahppmefaaPb
import Derived.Test.YtieimeahppmefaaWf
namespace Go.Proofs.Ytieimeahppmefaa
open Go.RowKit
set_option linter.unusedVariables false

abbrev ev : ByteArray := ⟨#[101, 118, 101, 110]⟩
abbrev od : ByteArray := ⟨#[111, 100, 100]⟩
abbrev nn : ByteArray := ⟨#[110, 111, 110, 101]⟩
def nm (i : Nat) : ByteArray := if i % 2 = 0 then ev else od
theorem name_any (i : Nat) (w : World) (hi : i ≤ 1000) : Calls Try.prog 10 #[.int .i64 i] w fun e w' => e = .returned (.string (nm i)) ∧ w = w' := by
  unfold nm
  by_cases h : i % 2 = 0
  · rw [if_pos h]
    have h' : ((i : Int) % 2 == 0) = true := by simp; omega
    go_enter Try.func10, Try.ntmps10
    go_wp2
    go_ret
    exact ⟨rfl, rfl⟩
  · rw [if_neg h]
    have h' : ((i : Int) % 2 == 0) = false := by simp; omega
    go_enter Try.func10, Try.ntmps10
    go_wp2
    go_ret
    exact ⟨rfl, rfl⟩

def UE (gs : List Int) (j : Nat) : Us := ⟨nm j, pre gs (j + 1), j⟩
theorem UE_last (gs : List Int) : ∀ i, lastU (UE gs) i = pre gs i
  | 0 => rfl
  | i + 1 => rfl
theorem nm_size (i : Nat) : 1 ≤ (nm i).size ∧ (nm i).size ≤ 40 := by
  unfold nm
  split <;> decide
theorem UE_good {gs : List Int} (h : ∀ g ∈ gs, 0 ≤ g ∧ g ≤ 255) (n : Nat) (hn : n ≤ 60) (H : Int) (h1 : 1 ≤ H) (h2 : H ≤ 1000) : GoodU (UE gs) H n := by
  refine ⟨h1, by omega, by omega, fun i _ => nm_size i, fun i hi => ?_, fun i hi => ?_, fun i _ => ?_⟩
  · have := pre_bd h (i + 1)
    exact ⟨this.1, by unfold maxTime; show pre gs (i + 1) ≤ _; omega⟩
  · show (0 : Int) ≤ (i : Int) ∧ (i : Int) ≤ maxAm
    unfold maxAm
    omega
  · rw [UE_last]
    exact (pre_bd h i).2.2
theorem nm_ev (i : Nat) : (nm i = ev) ↔ i % 2 = 0 := by
  unfold nm
  split
  · simp [*]
  · constructor
    · intro h; exact absurd h (by decide)
    · intro h; omega
theorem nm_nn (i : Nat) : nm i ≠ nn := by
  unfold nm
  split <;> decide
/-- The count and the sum of the law, over the first k uses. -/
def wE (gs : List Int) (a n : Int) (k : Nat) : List Us := winL ev a n (LU (UE gs) k)
theorem wE_yes {gs : List Int} {a n : Int} {k : Nat} (h1 : k % 2 = 0) (h2 : a - n < pre gs (k + 1)) (h3 : pre gs (k + 1) ≤ a) : wE gs a n (k + 1) = wE gs a n k ++ [UE gs k] := by
  unfold wE
  rw [LU_succ, win_snoc]
  have : inWin ev a n (UE gs k) = true := by
    unfold inWin UE
    simp [(nm_ev k).2 h1, h2, h3]
  rw [this]
  rfl
theorem wE_no {gs : List Int} {a n : Int} {k : Nat} (h : ¬ (k % 2 = 0 ∧ a - n < pre gs (k + 1) ∧ pre gs (k + 1) ≤ a)) : wE gs a n (k + 1) = wE gs a n k := by
  unfold wE
  rw [LU_succ, win_snoc]
  have : inWin ev a n (UE gs k) = false := by
    unfold inWin UE
    simp only [Bool.and_eq_false_iff, decide_eq_false_iff_not]
    by_cases h1 : k % 2 = 0
    · right
      by_cases h2 : a - n < pre gs (k + 1)
      · right; exact fun h3 => h ⟨h1, h2, h3⟩
      · left; exact h2
    · left
      exact fun e => h1 ((nm_ev k).1 e)
  rw [this]
  simp
theorem wE_len (gs : List Int) (a n : Int) (k : Nat) : (wE gs a n k).length ≤ k := by
  unfold wE
  have := win_len ev a n (LU (UE gs) k)
  rwa [LU_len] at this
theorem wE_sum (gs : List Int) (a n : Int) : ∀ k, k ≤ 60 → 0 ≤ sumL (wE gs a n k) ∧ sumL (wE gs a n k) ≤ 60 * k
  | 0, _ => by simp [wE, LU, winL, sumL]
  | k + 1, hk => by
    have ih := wE_sum gs a n k (by omega)
    by_cases h : k % 2 = 0 ∧ a - n < pre gs (k + 1) ∧ pre gs (k + 1) ≤ a
    · rw [wE_yes h.1 h.2.1 h.2.2, sumL_snoc]
      show 0 ≤ sumL (wE gs a n k) + (k : Int) ∧ sumL (wE gs a n k) + (k : Int) ≤ _
      omega
    · rw [wE_no h]
      omega
theorem exact_facts {gs : List Int} (h : ∀ g ∈ gs, 0 ≤ g ∧ g ≤ 255) (N : Nat) (hN : N ≤ 60) (H : Int) (h1 : 1 ≤ H) (h2 : H ≤ 1000) (n : Int) (h3 : 1 ≤ n) (h4 : n ≤ H) (l : Int) (h5 : 0 ≤ l) (h6 : l ≤ 1000) :
    cntN (stU (UE gs) H N) ev (pre gs N + l) n = (wE gs (pre gs N + l) n N).length ∧ sumN (stU (UE gs) H N) ev (pre gs N + l) n = sumL (wE gs (pre gs N + l) n N) ∧ cntN (stU (UE gs) H N) nn (pre gs N + l) n = 0 := by
  have hb := pre_bd h N
  have ht : isT (pre gs N + l) := ⟨by omega, by unfold maxTime; omega⟩
  have w1 : winOk (stU (UE gs) H N) (pre gs N + l) n := ⟨h3, h4, ht⟩
  have e : (stU (UE gs) H N).us = young (pre gs N - H) (LU (UE gs) N) := by unfold stU; rw [UE_last]
  have hy : ∀ key, winL key (pre gs N + l) n (stU (UE gs) H N).us = winL key (pre gs N + l) n (LU (UE gs) N) := fun key => by rw [e]; exact win_young (by omega) _
  refine ⟨?_, ?_, ?_⟩
  · unfold cntN
    rw [if_pos w1, hy]
    rfl
  · unfold sumN
    rw [if_pos w1, hy]
    rfl
  · unfold cntN
    rw [if_pos w1, hy]
    have : winL nn (pre gs N + l) n (LU (UE gs) N) = [] := by
      unfold winL
      rw [List.filter_eq_nil_iff]
      intro u hu
      obtain ⟨j, hj, rfl⟩ := List.mem_map.1 hu
      unfold inWin UE
      simp [nm_nn j]
    rw [this]
    rfl

/-! ### Rows of other types beside the windows -/
theorem own_grown {w w' : World} {base base' : Nat} {e e' : TypeId} {size size' n n' : Nat} {v v' : Value} {xs xs' : List Value} (h : w.ownsRow base e size v n xs) (h' : w.ownsRow base' e' size' v' n' xs') (hne : e ≠ e') (hg : w.grownBy w' v'.ownBlock) : w'.ownsRow base e size v n xs := by
  rcases h.2 with ⟨rfl, rfl⟩ | ⟨g, cap, cur, rfl, hb, hh, r⟩
  · exact h.kept hg (.inl rfl)
  · refine h.kept hg (.inr ?_)
    have := own_blk_ne h' (show Blk w g e cur from hh) (Ne.symm hne)
    exact fun e => this (by rw [← e]; rfl)
theorem VRep.grown {w w' : World} {B p : Nat} {s : VS} (h : VRep w B p s) {base : Nat} {e : TypeId} {size n : Nat} {v : Value} {xs : List Value} (ho : w.ownsRow base e size v n xs) (h1 : e ≠ 52) (h2 : e ≠ 56) (hg : w.grownBy w' v.ownBlock) : VRep w' B p s := by
  obtain ⟨hB, A, c, b, o⟩ := h
  exact ⟨hB, A, c, b.grown hg (Ne.symm (own_blk_ne ho b h1)), own_grown o ho (Ne.symm h2) hg⟩
theorem intE : ElemT Try.prog 31 3 (.int .i64 0) 1 8 := ⟨Try.underlying31, by kernel_rfl, rfl, by decide⟩
def tm (gs : List Int) (k : Nat) : List Value := (List.range k).map fun j => Value.int .i64 (pre gs (j + 1))
theorem tm_succ (gs : List Int) (k : Nat) : tm gs (k + 1) = tm gs k ++ [.int .i64 (pre gs (k + 1))] := by
  unfold tm
  rw [List.range_succ, List.map_append]
  rfl
theorem tm_at {gs : List Int} {k i : Nat} (h : i < k) : (tm gs k)[i]? = some (.int .i64 (pre gs (i + 1))) := by
  unfold tm
  simp [h]
end Go.Proofs.Ytieimeahppmefaa
