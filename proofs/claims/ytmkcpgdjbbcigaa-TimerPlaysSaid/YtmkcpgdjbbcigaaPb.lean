/-
  Timer: timers set in any order of times lie in the order of their times. Plain Lean, no program in sight.
-/
import Derived.Test.YtmkcpgdjbbcigaaWo
namespace Go.Proofs.Ytmkcpgdjbbcigaa
set_option linter.unusedVariables false

theorem place_base {a : Int} {L1 L2 : List Ti} (h : ∀ x ∈ L1, ¬ a < x.at_) : place a (L1 ++ L2) L1.length = L1.length := by
  cases e : L1.length with
  | zero => rfl
  | succ k =>
    have hk : k < L1.length := by omega
    have hx : (L1 ++ L2)[k]? = some L1[k] := by rw [List.getElem?_append_left hk, List.getElem?_eq_getElem hk]
    rw [place_succ hx, if_neg (h _ (List.getElem_mem _))]
theorem place_split {a : Int} {L1 L2 : List Ti} (h1 : ∀ x ∈ L1, ¬ a < x.at_) (h2 : ∀ x ∈ L2, a < x.at_) : ∀ j, j ≤ L2.length → place a (L1 ++ L2) (L1.length + j) = L1.length
  | 0, _ => place_base h1
  | j + 1, hj => by
    have hx : (L1 ++ L2)[L1.length + j]? = some (L2[j]'(by omega)) := by
      rw [List.getElem?_append_right (by omega), show L1.length + j - L1.length = j by omega, List.getElem?_eq_getElem (by omega)]
    rw [← Nat.add_assoc, place_succ hx, if_pos (h2 _ (List.getElem_mem _)), place_split h1 h2 j (by omega)]
theorem insT_split {x : Ti} {L1 L2 : List Ti} (h1 : ∀ y ∈ L1, ¬ x.at_ < y.at_) (h2 : ∀ y ∈ L2, x.at_ < y.at_) : insT x (L1 ++ L2) = L1 ++ x :: L2 := by
  unfold insT
  rw [List.length_append, place_split h1 h2 _ (Nat.le_refl _)]
  simp

/-- The timers of one time, in the order of their setting; those of the times below N. -/
def bk (gs : List Int) (k : Nat) (a : Nat) : List Ti := ((List.range k).filter fun i => gs.getD i 0 == (a : Int)).map fun i => ⟨nameB i, a⟩
def SLn (gs : List Int) (k N : Nat) : List Ti := (List.range N).flatMap (bk gs k)
def SL (gs : List Int) (k : Nat) : List Ti := SLn gs k 256
theorem bk_succ (gs : List Int) (k a : Nat) : bk gs (k + 1) a = bk gs k a ++ if gs.getD k 0 = (a : Int) then [⟨nameB k, a⟩] else [] := by
  unfold bk
  rw [List.range_succ, List.filter_append, List.map_append]
  congr 1
  by_cases h : gs.getD k 0 = (a : Int)
  · rw [if_pos h, List.filter_cons_of_pos (by simpa using h)]
    rfl
  · rw [if_neg h, List.filter_cons_of_neg (by simpa using h)]
    rfl
theorem bk_zero (gs : List Int) (a : Nat) : bk gs 0 a = [] := rfl
theorem bk_mem {gs : List Int} {k a : Nat} {x : Ti} (h : x ∈ bk gs k a) : ∃ i, i < k ∧ x = ⟨nameB i, a⟩ := by
  obtain ⟨i, hi, rfl⟩ := List.mem_map.1 h
  exact ⟨i, by simpa using (List.mem_filter.1 hi).1, rfl⟩
theorem SLn_succ (gs : List Int) (k N : Nat) : SLn gs k (N + 1) = SLn gs k N ++ bk gs k N := by
  unfold SLn
  rw [List.range_succ, List.flatMap_append]
  simp
theorem SLn_zero (gs : List Int) (N : Nat) : SLn gs 0 N = [] := by
  induction N with
  | zero => rfl
  | succ N ih => rw [SLn_succ, ih]; rfl
theorem SLn_mem {gs : List Int} {k N : Nat} {x : Ti} (h : x ∈ SLn gs k N) : ∃ i a, i < k ∧ a < N ∧ x = ⟨nameB i, (a : Nat)⟩ := by
  obtain ⟨a, ha, hx⟩ := List.mem_flatMap.1 h
  obtain ⟨i, hi, rfl⟩ := bk_mem hx
  exact ⟨i, a, hi, by simpa using ha, rfl⟩
theorem SLn_same {gs : List Int} {k N : Nat} {g : Nat} (hg : gs.getD k 0 = (g : Int)) (hN : N ≤ g) : SLn gs (k + 1) N = SLn gs k N := by
  induction N with
  | zero => rfl
  | succ N ih => rw [SLn_succ, SLn_succ, ih (by omega), bk_succ, if_neg (by rw [hg]; omega), List.append_nil]
theorem SLn_split {gs : List Int} {k g : Nat} (hg : gs.getD k 0 = (g : Int)) : ∀ m, ∃ L1 L2, SLn gs k (g + 1 + m) = L1 ++ L2 ∧ SLn gs (k + 1) (g + 1 + m) = L1 ++ ⟨nameB k, g⟩ :: L2 ∧ (∀ x ∈ L1, ¬ (g : Int) < x.at_) ∧ (∀ x ∈ L2, (g : Int) < x.at_)
  | 0 => by
    refine ⟨SLn gs k (g + 1), [], (List.append_nil _).symm, ?_, fun x hx => ?_, fun x hx => by simp at hx⟩
    · show SLn gs (k + 1) (g + 1) = _
      rw [SLn_succ, SLn_succ, SLn_same hg (Nat.le_refl _), bk_succ, if_pos hg]
      simp
    · obtain ⟨i, a, _, ha, rfl⟩ := SLn_mem hx
      show ¬ (g : Int) < (a : Int)
      omega
  | m + 1 => by
    obtain ⟨L1, L2, e1, e2, h1, h2⟩ := SLn_split hg m
    refine ⟨L1, L2 ++ bk gs k (g + 1 + m), ?_, ?_, h1, fun x hx => ?_⟩
    · rw [← Nat.add_assoc, SLn_succ, e1, List.append_assoc]
    · rw [← Nat.add_assoc, SLn_succ, e2, bk_succ, if_neg (by rw [hg]; omega), List.append_nil, List.append_assoc, List.cons_append]
    · rcases List.mem_append.1 hx with hx | hx
      · exact h2 x hx
      · obtain ⟨i, _, rfl⟩ := bk_mem hx
        show (g : Int) < ((g + 1 + m : Nat) : Int)
        omega
theorem SL_ins {gs : List Int} {k : Nat} (hg : 0 ≤ gs.getD k 0 ∧ gs.getD k 0 ≤ 255) : insT ⟨nameB k, gs.getD k 0⟩ (SL gs k) = SL gs (k + 1) := by
  obtain ⟨g, hgk⟩ := Int.eq_ofNat_of_zero_le hg.1
  obtain ⟨L1, L2, e1, e2, h1, h2⟩ := SLn_split hgk (255 - g)
  rw [show g + 1 + (255 - g) = 256 by omega] at e1 e2
  unfold SL
  rw [e1, e2, hgk, insT_split h1 h2]
theorem insT_len (x : Ti) (l : List Ti) : (insT x l).length = l.length + 1 := by
  have := place_le x.at_ l l.length
  unfold insT
  simp
  omega
theorem SL_len {gs : List Int} (hg : ∀ i, 0 ≤ gs.getD i 0 ∧ gs.getD i 0 ≤ 255) (k : Nat) : (SL gs k).length = k := by
  induction k with
  | zero => unfold SL; rw [SLn_zero]; rfl
  | succ k ih => rw [← SL_ins (hg k), insT_len, ih]
theorem SL_mem {gs : List Int} {k : Nat} {x : Ti} (h : x ∈ SL gs k) : (∃ i, i < k ∧ x.id = nameB i) ∧ x.at_ ≤ 255 := by
  obtain ⟨i, a, hi, ha, rfl⟩ := SLn_mem h
  exact ⟨⟨i, hi, rfl⟩, by show (a : Int) ≤ 255; omega⟩
/-- One more timer is set. -/
theorem SL_set {gs : List Int} (hg : ∀ i, 0 ≤ gs.getD i 0 ∧ gs.getD i 0 ≤ 255) {k : Nat} (hk : k < 60) : setE ⟨0, SL gs k⟩ (nameB k) (gs.getD k 0) = 0 ∧ setS ⟨0, SL gs k⟩ (nameB k) (gs.getD k 0) = ⟨0, SL gs (k + 1)⟩ := by
  have hgk := hg k
  obtain ⟨h1, h2⟩ := set_yes (s := ⟨0, SL gs k⟩) (key := nameB k) (a := gs.getD k 0) (identOk_name (by omega)) ⟨hgk.1, by omega⟩ (findK_mem fun x hx => by
    obtain ⟨⟨i, hi, e⟩, _⟩ := SL_mem hx
    rw [e]
    exact name_ne (by omega) (by omega) (by omega)) (by show (SL gs k).length < 256; rw [SL_len hg]; omega)
  exact ⟨h1, h2.trans (TS.eq_ rfl (SL_ins hgk))⟩

/-! ### Where each timer lies -/
theorem bk_at {gs : List Int} {i a : Nat} (h : gs.getD i 0 = (a : Int)) : ∀ m, ∃ R, bk gs (i + 1 + m) a = bk gs i a ++ ⟨nameB i, a⟩ :: R
  | 0 => ⟨[], by show bk gs (i + 1) a = _; rw [bk_succ, if_pos h]⟩
  | m + 1 => by
    obtain ⟨R, e⟩ := bk_at h m
    refine ⟨R ++ if gs.getD (i + 1 + m) 0 = (a : Int) then [⟨nameB (i + 1 + m), a⟩] else [], ?_⟩
    rw [← Nat.add_assoc, bk_succ, e]
    simp
theorem SLn_at (gs : List Int) (n a : Nat) : ∀ m, ∃ R, SLn gs n (a + 1 + m) = SLn gs n a ++ (bk gs n a ++ R)
  | 0 => ⟨[], by show SLn gs n (a + 1) = _; rw [SLn_succ, List.append_nil]⟩
  | m + 1 => by
    obtain ⟨R, e⟩ := SLn_at gs n a m
    exact ⟨R ++ bk gs n (a + 1 + m), by rw [← Nat.add_assoc, SLn_succ, e]; simp⟩
/-- How many were checked before the time a and the timer i. -/
def cntA (gs : List Int) (n a i : Nat) : Nat := (SLn gs n a).length + (bk gs i a).length
theorem cntA_at {gs : List Int} {n a i : Nat} (ha : a < 256) (hi : i < n) (h : gs.getD i 0 = (a : Int)) : (SL gs n)[cntA gs n a i]? = some ⟨nameB i, a⟩ := by
  obtain ⟨R1, e1⟩ := SLn_at gs n a (255 - a)
  rw [show a + 1 + (255 - a) = 256 by omega] at e1
  obtain ⟨R2, e2⟩ := bk_at h (n - (i + 1))
  rw [show i + 1 + (n - (i + 1)) = n by omega] at e2
  unfold SL cntA
  rw [e1, List.getElem?_append_right (by omega), show (SLn gs n a).length + (bk gs i a).length - (SLn gs n a).length = (bk gs i a).length by omega, e2, List.append_assoc, List.getElem?_append_right (by omega)]
  simp
theorem cntA_yes {gs : List Int} {n a i : Nat} (h : gs.getD i 0 = (a : Int)) : cntA gs n a (i + 1) = cntA gs n a i + 1 := by
  unfold cntA
  rw [bk_succ, if_pos h, List.length_append, List.length_singleton]
  omega
theorem cntA_no {gs : List Int} {n a i : Nat} (h : ¬ gs.getD i 0 = (a : Int)) : cntA gs n a (i + 1) = cntA gs n a i := by
  unfold cntA
  rw [bk_succ, if_neg h, List.append_nil]
theorem cntA_next (gs : List Int) (n a : Nat) : cntA gs n (a + 1) 0 = cntA gs n a n := by
  unfold cntA
  rw [SLn_succ, List.length_append]
  rfl
theorem cntA_zero (gs : List Int) (n : Nat) : cntA gs n 0 0 = 0 := rfl
theorem cntA_lt {gs : List Int} (hg : ∀ i, 0 ≤ gs.getD i 0 ∧ gs.getD i 0 ≤ 255) {n a i : Nat} (ha : a < 256) (hi : i < n) (h : gs.getD i 0 = (a : Int)) : cntA gs n a i < n := by
  have := (List.getElem?_eq_some_iff.1 (cntA_at ha hi h)).1
  rwa [SL_len hg] at this

/-! ### The timers become due -/
def idsV (l : List Ti) : List Value := l.map fun x => .string x.id
theorem due_step {S : List Ti} {m : Nat} {now u : Int} (h1 : now ≤ u) (h2 : u ≤ 1099511627776) : ∃ d, m + d ≤ max m S.length ∧ dueS ⟨now, S.drop m⟩ u = ⟨u, S.drop (m + d)⟩ ∧ (dueL ⟨now, S.drop m⟩ u).length = d ∧ idsV (S.take m) ++ (dueL ⟨now, S.drop m⟩ u).map Value.string = idsV (S.take (m + d)) ∧ d = dueN u (S.drop m) := by
  have hle := dueN_le u (S.drop m)
  have hlt : ¬ u < (⟨now, S.drop m⟩ : TS).now := by show ¬ u < now; omega
  rw [List.length_drop] at hle
  refine ⟨dueN u (S.drop m), by omega, ?_, ?_, ?_, rfl⟩
  · unfold dueS
    rw [if_neg hlt]
    have : min u 1099511627776 = u := by omega
    rw [this]
    simp only [List.drop_drop]
  · unfold dueL
    rw [if_neg hlt, List.length_map, List.length_take]
    simp only [List.length_drop]
    omega
  · unfold dueL idsV
    rw [if_neg hlt, List.map_map, List.take_add, List.map_append]
    rfl
theorem due_last {gs : List Int} (hg : ∀ i, 0 ≤ gs.getD i 0 ∧ gs.getD i 0 ≤ 255) (n m : Nat) : dueN 256 ((SL gs n).drop m) = n - m := by
  rw [dueN_all, List.length_drop, SL_len hg]
  intro x hx
  have := (SL_mem (List.mem_of_mem_drop hx)).2
  omega
end Go.Proofs.Ytmkcpgdjbbcigaa
