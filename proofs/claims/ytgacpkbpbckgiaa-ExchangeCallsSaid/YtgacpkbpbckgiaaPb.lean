/-
  Exchange: the exchange of the law ExchangeTimes. Plain Lean, no program in sight.
-/
import Derived.Test.YtgacpkbpbckgiaaWl
namespace Go.Proofs.Ytgacpkbpbckgiaa
set_option linter.unusedVariables false

abbrev tr : ByteArray := ⟨#[114]⟩
def pre (gs : List Int) : Nat → Int
  | 0 => 0
  | k + 1 => pre gs k + gs.getD k 0
def imT (gs : List Int) (i : Nat) : Im := ⟨keyB i, tr, ke, pre gs (i + 1), 0⟩
def EX (W : Int) (gs : List Int) (k : Nat) : XS := ⟨W, pre gs k, (List.range k).map (imT gs)⟩
def tm (gs : List Int) (k : Nat) : List Value := (List.range k).map fun i => .int .i64 (pre gs (i + 1))
theorem pre_bd {gs : List Int} (hg : ∀ i, 0 ≤ gs.getD i 0 ∧ gs.getD i 0 ≤ 255) (k : Nat) : 0 ≤ pre gs k ∧ pre gs k ≤ 255 * k := by
  induction k with
  | zero => simp [pre]
  | succ k ih =>
    have := hg k
    rw [pre]
    push_cast
    omega
theorem tm_succ (gs : List Int) (k : Nat) : tm gs (k + 1) = tm gs k ++ [.int .i64 (pre gs (k + 1))] := by
  unfold tm
  rw [List.range_succ, List.map_append]
  rfl
theorem tm_at {gs : List Int} {k i : Nat} (h : i < k) : (tm gs k)[i]? = some (.int .i64 (pre gs (i + 1))) := by
  unfold tm
  rw [List.getElem?_map, List.getElem?_range h]
  rfl
theorem fnd_fresh {key : ByteArray} {l : List Im} (h : ∀ x ∈ l, x.key ≠ key) : fnd key l = none := by
  unfold fnd
  rw [List.find?_eq_none]
  intro x hx
  simpa using h x hx
theorem ex_wai (W : Int) (gs : List Int) (k : Nat) : waiL (EX W gs k).its = (List.range k).map keyB := by
  unfold waiL EX
  show (((List.range k).map (imT gs)).filter waitB).map Im.key = _
  rw [List.filter_map, List.map_map]
  have e : waitB ∘ imT gs = fun _ => true := rfl
  rw [e, List.filter_eq_self.2 (fun _ _ => rfl)]
  rfl
section
variable {gs : List Int} (hg : ∀ i, 0 ≤ gs.getD i 0 ∧ gs.getD i 0 ≤ 255) {W : Int} (hW : 1 ≤ W ∧ W ≤ 256)
include hg
theorem ex_beg {k : Nat} (hk : k < 60) : begE (EX W gs k) (pre gs (k + 1)) (keyB k) tr = 0 ∧ begS (EX W gs k) (pre gs (k + 1)) (keyB k) tr = EX W gs (k + 1) := by
  have h1 := pre_bd hg k
  have h2 := hg k
  have ho : ¬ ¬ okT (EX W gs k) (pre gs (k + 1)) := not_not_intro ⟨by show pre gs k ≤ pre gs k + gs.getD k 0; omega, by show pre gs k + gs.getD k 0 ≤ _; omega⟩
  have hf : fnd (keyB k) (EX W gs k).its = none := fnd_fresh (fun x hx => by
    obtain ⟨i, hi, rfl⟩ := List.mem_map.1 hx
    intro e
    have := keyB_inj (by have := List.mem_range.1 hi; omega) (by omega) e
    have := List.mem_range.1 hi
    omega)
  have he : begE (EX W gs k) (pre gs (k + 1)) (keyB k) tr = 0 := by
    unfold begE
    rw [if_neg ho, if_neg (by rw [keyB_size]; decide), if_neg (by decide), hf, if_neg (by decide), if_neg (by rw [ex_wai, List.length_map, List.length_range]; omega)]
  refine ⟨he, ?_⟩
  unfold begS
  rw [if_pos he]
  unfold EX
  rw [List.range_succ, List.map_append]
  rfl
include hW in
theorem ex_ok : ∀ {k : Nat}, k ≤ 60 → (EX W gs k).Ok
  | 0, _ => XS.Ok.new hW.1 (by omega)
  | k + 1, h => by
    have := (ex_ok (k := k) (by omega)).beg (pre gs (k + 1)) (keyB k) tr
    rwa [(ex_beg hg (k := k) (by omega)).2] at this
omit hg
theorem ex_next (n : Nat) : nexB (EX W gs n) = decide (0 < n) ∧ (0 < n → nexN (EX W gs n) = pre gs 1 + W) := by
  cases n with
  | zero => exact ⟨rfl, fun h => absurd h (by omega)⟩
  | succ n =>
    have h : (EX W gs (n + 1)).its.find? pendB = some (imT gs 0) := by
      unfold EX
      show ((List.range (n + 1)).map (imT gs)).find? pendB = _
      rw [List.range_succ_eq_map, List.map_cons, List.find?_cons]
      rfl
    unfold nexB nexN
    rw [h]
    exact ⟨by simp, fun _ => rfl⟩
/-- Which requests are lost at the time a. -/
def PL (W : Int) (gs : List Int) (a : Int) (i : Nat) : Bool := decide (pre gs (i + 1) + W ≤ a)
def cntL (W : Int) (gs : List Int) (a : Int) (i : Nat) : Nat := ((List.range i).filter (PL W gs a)).length
def outL (W : Int) (gs : List Int) (a : Int) (n : Nat) : List ByteArray := ((List.range n).filter (PL W gs a)).map keyB
theorem cntL_yes {a : Int} {i : Nat} (h : pre gs (i + 1) + W ≤ a) : cntL W gs a (i + 1) = cntL W gs a i + 1 := by
  unfold cntL
  rw [List.range_succ, List.filter_append, List.length_append, List.filter_cons_of_pos (by unfold PL; exact decide_eq_true h)]
  rfl
theorem cntL_no {a : Int} {i : Nat} (h : ¬ pre gs (i + 1) + W ≤ a) : cntL W gs a (i + 1) = cntL W gs a i := by
  unfold cntL
  rw [List.range_succ, List.filter_append, List.length_append, List.filter_cons_of_neg (by unfold PL; rw [decide_eq_false h]; decide)]
  rfl
theorem cntL_le (a : Int) (i : Nat) : cntL W gs a i ≤ i := by
  unfold cntL
  exact Nat.le_trans (List.length_filter_le _ _) (by rw [List.length_range]; exact Nat.le_refl _)
theorem outL_len (a : Int) (n : Nat) : (outL W gs a n).length = cntL W gs a n := by
  unfold outL cntL
  rw [List.length_map]
theorem outL_at {a : Int} {i : Nat} (h : pre gs (i + 1) + W ≤ a) : ∀ m, (outL W gs a (i + 1 + m))[cntL W gs a i]? = some (keyB i)
  | 0 => by
    unfold outL cntL
    rw [Nat.add_zero, List.range_succ, List.filter_append, List.map_append, List.getElem?_append_right (by rw [List.length_map]; exact Nat.le_refl _), List.length_map, Nat.sub_self, List.filter_cons_of_pos (by unfold PL; exact decide_eq_true h)]
    rfl
  | m + 1 => by
    have ih := outL_at h m
    unfold outL at ih ⊢
    rw [← Nat.add_assoc, List.range_succ, List.filter_append, List.map_append, List.getElem?_append_left (List.getElem?_eq_some_iff.1 ih).1]
    exact ih
theorem cntL_lt {a : Int} {i n : Nat} (h : pre gs (i + 1) + W ≤ a) (hi : i < n) : cntL W gs a i < cntL W gs a n := by
  have := (List.getElem?_eq_some_iff.1 (outL_at (W := W) (gs := gs) h (n - (i + 1)))).1
  rw [show i + 1 + (n - (i + 1)) = n by omega, outL_len] at this
  exact this
theorem ex_los {a : Int} (n : Nat) (hn : n ≤ 60) (ha : pre gs n ≤ a) (ha2 : a ≤ 1000000) : losL (EX W gs n) a = outL W gs a n ∧ (waiL (losS (EX W gs n) a).its).length = n - cntL W gs a n := by
  have ho : ¬ ¬ okT (EX W gs n) a := not_not_intro ⟨ha, by omega⟩
  have e : lostB W a ∘ imT gs = PL W gs a := by
    funext i
    show (false || (true && decide (pre gs (i + 1) + W ≤ a))) = _
    rfl
  constructor
  · unfold losL
    rw [if_neg ho]
    show (((List.range n).map (imT gs)).filter (lostB W a)).map Im.key = _
    rw [List.filter_map, List.map_map, e]
    rfl
  · unfold losS
    rw [if_neg ho]
    show ((((List.range n).map (imT gs)).map (lostU W a)).filter waitB |>.map Im.key).length = _
    rw [List.length_map, List.map_map, List.filter_map, List.length_map]
    have e2 : waitB ∘ (lostU W a ∘ imT gs) = fun i => !PL W gs a i := by
      funext i
      show waitB (lostU W a (imT gs i)) = _
      unfold lostU
      have h3 : lostB W a (imT gs i) = PL W gs a i := congrFun e i
      rw [h3]
      cases PL W gs a i <;> rfl
    rw [e2]
    unfold cntL
    clear e2 e ho ha hn
    induction n with
    | zero => rfl
    | succ n ih =>
      have hle : ((List.range n).filter (PL W gs a)).length ≤ n := Nat.le_trans (List.length_filter_le _ _) (by rw [List.length_range]; exact Nat.le_refl _)
      rw [List.range_succ, List.filter_append, List.filter_append, List.length_append, List.length_append, ih]
      cases h : PL W gs a n <;> simp [h] <;> omega
end
end Go.Proofs.Ytgacpkbpbckgiaa
