/-
  Velocity: what a sequence of Adds leaves, and what it counts. No program in sight.
-/
import Derived.Test.YtieimeahppmefaaPa
namespace Go.Proofs.Ytieimeahppmefaa
set_option linter.unusedVariables false

def LU (U : Nat → Us) (i : Nat) : List Us := (List.range i).map U
def lastU (U : Nat → Us) : Nat → Int
  | 0 => 0
  | j + 1 => (U j).at_
def stU (U : Nat → Us) (h : Int) (i : Nat) : VS := ⟨h, lastU U i, young (lastU U i - h) (LU U i)⟩
structure GoodU (U : Nat → Us) (h : Int) (n : Nat) : Prop where
  h1 : 1 ≤ h
  h2 : h ≤ 10000000
  n1 : n ≤ 1000
  key : ∀ i, i < n → 1 ≤ (U i).key.size ∧ (U i).key.size ≤ 40
  tim : ∀ i, i < n → isT (U i).at_
  am : ∀ i, i < n → 0 ≤ (U i).am ∧ (U i).am ≤ maxAm
  up : ∀ i, i < n → lastU U i ≤ (U i).at_

theorem LU_succ (U : Nat → Us) (i : Nat) : LU U (i + 1) = LU U i ++ [U i] := by
  unfold LU
  rw [List.range_succ, List.map_append]
  rfl
theorem LU_len (U : Nat → Us) (i : Nat) : (LU U i).length = i := by simp [LU]
theorem young_young {b c : Int} (h : b ≤ c) (l : List Us) : young c (young b l) = young c l := by
  unfold young
  rw [List.filter_filter]
  refine List.filter_congr fun u _ => ?_
  unfold isOld
  by_cases h1 : u.at_ ≤ c
  · simp [h1]
  · have : ¬ u.at_ ≤ b := by omega
    simp [h1, this]
theorem young_snoc {b : Int} {l : List Us} {u : Us} (h : b < u.at_) : young b (l ++ [u]) = young b l ++ [u] := by
  unfold young
  rw [List.filter_append]
  have : ¬ u.at_ ≤ b := by omega
  simp [isOld, this]

theorem addE_is {s : VS} {key : ByteArray} {a am : Int} (h : 1 ≤ key.size ∧ key.size ≤ 40) (h2 : isT a ∧ s.last ≤ a) (h3 : 0 ≤ am ∧ am ≤ maxAm) (h4 : (young (a - s.h) s.us).length < 1000) : addE s key a am = 0 := by
  unfold addE
  rw [if_neg (by omega), if_neg (by intro h; rcases h with h | h; exact h h2.1; omega), if_neg (by omega), if_neg (by omega)]
theorem stU_add {U : Nat → Us} {h : Int} {n : Nat} (g : GoodU U h n) {i : Nat} (hi : i < n) : addE (stU U h i) (U i).key (U i).at_ (U i).am = 0 ∧ addS (stU U h i) (U i).key (U i).at_ (U i).am = stU U h (i + 1) := by
  have hu := g.up i hi
  have hh := g.h1
  have hn := g.n1
  have hy : young ((U i).at_ - (stU U h i).h) (stU U h i).us = young ((U i).at_ - h) (LU U i) := young_young (by show lastU U i - h ≤ (U i).at_ - h; omega) _
  have e : addE (stU U h i) (U i).key (U i).at_ (U i).am = 0 := addE_is (g.key i hi) ⟨g.tim i hi, hu⟩ (g.am i hi) (by rw [hy]; have := young_le ((U i).at_ - h) (LU U i); rw [LU_len] at this; omega)
  refine ⟨e, ?_⟩
  unfold addS
  rw [if_pos e, hy]
  unfold stU
  rw [LU_succ]
  show (⟨h, (U i).at_, _⟩ : VS) = ⟨h, (U i).at_, young ((U i).at_ - h) (LU U i ++ [U i])⟩
  rw [young_snoc (by omega)]
theorem stU_ok {U : Nat → Us} {h : Int} {n : Nat} (g : GoodU U h n) : ∀ i, i ≤ n → (stU U h i).Ok
  | 0, _ => VS.Ok.new g.h1 g.h2
  | i + 1, hi => by
    rw [← (stU_add g hi).2]
    exact (stU_ok g i (by omega)).addS _ _ _

/-- Sums of gaps. -/
def pre (gs : List Int) : Nat → Int
  | 0 => 0
  | i + 1 => pre gs i + gs.getD i 0
theorem pre_bd {gs : List Int} (h : ∀ g ∈ gs, 0 ≤ g ∧ g ≤ 255) : ∀ i, 0 ≤ pre gs i ∧ pre gs i ≤ 255 * i ∧ pre gs i ≤ pre gs (i + 1)
  | 0 => by
    have hg : 0 ≤ gs.getD 0 0 ∧ gs.getD 0 0 ≤ 255 := by
      by_cases hi : 0 < gs.length
      · have := h _ (List.getElem_mem hi)
        simpa [List.getD, hi] using this
      · simp [List.getD, List.getElem?_eq_none (Nat.le_of_not_lt hi)]
    simp only [pre]
    omega
  | i + 1 => by
    obtain ⟨h1, h2, h3⟩ := pre_bd h i
    have hg : ∀ j : Nat, 0 ≤ gs.getD j 0 ∧ gs.getD j 0 ≤ 255 := by
      intro j
      by_cases hi : j < gs.length
      · have := h _ (List.getElem_mem hi)
        simpa [List.getD, hi] using this
      · simp [List.getD, List.getElem?_eq_none (Nat.le_of_not_lt hi)]
    have g1 := hg i
    have g2 := hg (i + 1)
    simp only [pre]
    omega
theorem pre_mono {gs : List Int} (h : ∀ g ∈ gs, 0 ≤ g ∧ g ≤ 255) (i : Nat) : ∀ d, pre gs i ≤ pre gs (i + d)
  | 0 => Int.le_refl _
  | d + 1 => by
    have h1 := pre_mono h i d
    have h2 := (pre_bd h (i + d)).2.2
    rw [← Nat.add_assoc]
    omega

/-- All uses still young. -/
theorem young_all {b : Int} {l : List Us} (h : ∀ u ∈ l, b < u.at_) : young b l = l := by
  unfold young
  rw [List.filter_eq_self]
  intro u hu
  have := h u hu
  unfold isOld
  simp
  omega
theorem win_young {key : ByteArray} {a win b : Int} (h : b ≤ a - win) (l : List Us) : winL key a win (young b l) = winL key a win l := by
  unfold winL young
  rw [List.filter_filter]
  refine List.filter_congr fun u _ => ?_
  unfold inWin isOld
  by_cases h1 : a - win < u.at_
  · have : ¬ u.at_ ≤ b := by omega
    simp [h1, this]
  · simp [h1]
theorem win_snoc (key : ByteArray) (a win : Int) (l : List Us) (u : Us) : winL key a win (l ++ [u]) = winL key a win l ++ (if inWin key a win u then [u] else []) := by
  unfold winL
  rw [List.filter_append]
  congr 1
  cases h : inWin key a win u <;> simp [h]
theorem win_more {key : ByteArray} {a n m : Int} (h : n ≤ m) (l : List Us) : (winL key a n l).length ≤ (winL key a m l).length := by
  unfold winL
  rw [← List.countP_eq_length_filter, ← List.countP_eq_length_filter]
  refine List.countP_mono_left fun u _ hu => ?_
  unfold inWin at hu ⊢
  simp at hu ⊢
  refine ⟨hu.1, ?_, hu.2.2⟩
  omega
theorem sum_ones : ∀ l : List Us, (∀ u ∈ l, u.am = 1) → sumL l = l.length
  | [], _ => rfl
  | u :: l, h => by
    have h1 := h u (by simp)
    have h2 := sum_ones l fun v hv => h v (by simp [hv])
    simp only [sumL, List.length_cons, h1, h2]
    omega
theorem ix_none {u : Us} {l : List Us} (h : u ∉ l) : ∀ k, lastIx u l k = none
  | 0 => rfl
  | k + 1 => by
    unfold lastIx
    rw [if_neg (fun e => h (List.mem_of_getElem? e))]
    exact ix_none h k
theorem ix_last (u : Us) (l : List Us) : lastIx u (l ++ [u]) (l ++ [u]).length = some l.length := by
  rw [List.length_append, List.length_cons, List.length_nil, lastIx, if_pos (by simp)]
end Go.Proofs.Ytieimeahppmefaa
