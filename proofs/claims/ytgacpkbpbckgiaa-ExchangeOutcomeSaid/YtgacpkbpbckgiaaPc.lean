/-
  Exchange: what the law ExchangeOutcome counts. Plain Lean, no program in sight.
-/
import Derived.Test.YtgacpkbpbckgiaaPb
namespace Go.Proofs.Ytgacpkbpbckgiaa
set_option linter.unusedVariables false

abbrev tx : ByteArray := ⟨#[120]⟩
def begV (s : XS) (j : Nat) : Int := match fnd (keyB j) s.its with | none => -1 | some x => x.at_
def ansV (s : XS) (j : Nat) : Int := match fnd (keyB j) s.its with | none => 0 | some x => if x.st = 1 then 1 else 0
def losV (s : XS) (j : Nat) : Int := match fnd (keyB j) s.its with | none => 0 | some x => if x.st = 3 then 1 else 0
def setF (f : Nat → Int) (k : Nat) (v : Int) : Nat → Int := fun j => if j = k then v else f j
/-- An exchange as the law's calls leave it. -/
structure Inv (W : Int) (s : XS) : Prop where
  ok : s.Ok
  tmo : s.tmo = W
  late : ∀ x ∈ s.its, x.st = 2 ∨ x.st = 3 → x.at_ + W ≤ s.now
theorem Inv.new {W : Int} (h1 : 1 ≤ W) (h2 : W ≤ 256) : Inv W ⟨W, 0, []⟩ := ⟨XS.Ok.new h1 (by omega), rfl, by simp⟩

theorem fnd_app (key : ByteArray) (l : List Im) (x : Im) : fnd key (l ++ [x]) = (fnd key l).or (if x.key = key then some x else none) := by
  unfold fnd
  rw [List.find?_append]
  congr 1
  rw [List.find?_cons]
  by_cases h : x.key = key
  · rw [decide_eq_true h, if_pos h]
  · rw [decide_eq_false h, if_neg h]
    rfl
theorem fnd_map {g : Im → Im} (hg : ∀ x, (g x).key = x.key) (key : ByteArray) (l : List Im) : fnd key (l.map g) = (fnd key l).map g := by
  unfold fnd
  rw [List.find?_map]
  have : ((fun x : Im => decide (x.key = key)) ∘ g) = fun x => decide (x.key = key) := by
    funext x
    show decide ((g x).key = key) = _
    rw [hg]
  rw [this]
theorem fnd_upd {g : Im → Im} (hg : ∀ x, (g x).key = x.key) (key k' : ByteArray) (l : List Im) : fnd k' (upd key g l) = if k' = key then (fnd k' l).map g else fnd k' l := by
  unfold upd
  rw [fnd_map (g := fun x => if x.key = key then g x else x) (fun x => by split; exact hg x; rfl)]
  cases h : fnd k' l with
  | none => split <;> rfl
  | some x =>
    have hk := (fnd_some h).2
    by_cases e : k' = key
    · rw [if_pos e]
      show some (if x.key = key then g x else x) = some (g x)
      rw [if_pos (by rw [hk, e])]
    · rw [if_neg e]
      show some (if x.key = key then g x else x) = some x
      rw [if_neg (by rw [hk]; exact e)]
/-- How often a key stands in a list. -/
def cntK (key : ByteArray) (l : List ByteArray) : Nat := (l.filter fun y => decide (y = key)).length
theorem cntK_zero {key : ByteArray} {l : List ByteArray} (h : key ∉ l) : cntK key l = 0 := by
  unfold cntK
  rw [List.length_eq_zero_iff, List.filter_eq_nil_iff]
  intro y hy
  have : y ≠ key := fun e => h (e ▸ hy)
  simpa using this
theorem cntK_one {key : ByteArray} : ∀ {l : List ByteArray}, l.Nodup → key ∈ l → cntK key l = 1
  | [], _, h => by cases h
  | y :: l, hn, h => by
    rw [List.nodup_cons] at hn
    unfold cntK
    by_cases e : y = key
    · rw [List.filter_cons_of_pos (by simpa using e), List.length_cons]
      have := cntK_zero (key := key) (l := l) (e ▸ hn.1)
      unfold cntK at this
      rw [this]
    · rw [List.filter_cons_of_neg (by simpa using e)]
      rcases List.mem_cons.1 h with e2 | h2
      · exact absurd e2.symm e
      · exact cntK_one hn.2 h2
theorem cntK_take {key y : ByteArray} {l : List ByteArray} {m : Nat} (h : l[m]? = some y) : cntK key (l.take (m + 1)) = cntK key (l.take m) + if y = key then 1 else 0 := by
  unfold cntK
  rw [List.take_add_one, h]
  by_cases e : y = key
  · simp [List.filter_append, e]
  · simp [List.filter_append, e]
theorem waiL_len (l : List Im) : (waiL l).length ≤ l.length := by
  unfold waiL
  rw [List.length_map]
  exact List.length_filter_le _ _

section
variable {W : Int} {s : XS} (I : Inv W s) {N : Int} (h1 : s.now ≤ N) (h2 : N ≤ 1000000)
include I h1 h2
omit I in
theorem out_okT : ¬ ¬ okT s N := not_not_intro ⟨h1, by omega⟩
/-! ### Begin -/
theorem out_beg7 {k : Nat} {x : Im} (hf : fnd (keyB k) s.its = some x) : begE s N (keyB k) tr = 7 ∧ begS s N (keyB k) tr = s ∧ ¬ begV s k < 0 := by
  have he : begE s N (keyB k) tr = 7 := by
    unfold begE
    rw [if_neg (out_okT h1 h2), if_neg (by rw [keyB_size]; decide), if_neg (by decide), hf, if_pos (by rfl)]
  refine ⟨he, by unfold begS; rw [he, if_neg (by decide)], ?_⟩
  unfold begV
  rw [hf]
  have := (I.ok.at_ x (fnd_some hf).1).1
  show ¬ x.at_ < 0
  omega
theorem out_beg0 (hl : s.its.length ≤ 100) {k : Nat} (hk : k < 64) (hf : fnd (keyB k) s.its = none) :
    begE s N (keyB k) tr = 0 ∧ begV s k < 0 ∧ Inv W (begS s N (keyB k) tr) ∧ (begS s N (keyB k) tr).now = N ∧
    (∀ j, j < 64 → begV (begS s N (keyB k) tr) j = setF (begV s) k N j) ∧ (∀ j, j < 64 → ansV (begS s N (keyB k) tr) j = ansV s j) ∧ (∀ j, j < 64 → losV (begS s N (keyB k) tr) j = losV s j) := by
  have he : begE s N (keyB k) tr = 0 := by
    have := waiL_len s.its
    unfold begE
    rw [if_neg (out_okT h1 h2), if_neg (by rw [keyB_size]; decide), if_neg (by decide), hf, if_neg (by decide), if_neg (by omega)]
  have hs : begS s N (keyB k) tr = ⟨s.tmo, N, s.its ++ [⟨keyB k, tr, ⟨#[]⟩, N, 0⟩]⟩ := by unfold begS; rw [if_pos he]
  have hF : ∀ j, j < 64 → fnd (keyB j) (s.its ++ [⟨keyB k, tr, ⟨#[]⟩, N, 0⟩]) = if j = k then some ⟨keyB k, tr, ⟨#[]⟩, N, 0⟩ else fnd (keyB j) s.its := by
    intro j hj
    rw [fnd_app]
    by_cases e : j = k
    · subst e
      rw [hf, if_pos rfl, if_pos rfl]
      rfl
    · rw [if_neg e, if_neg (fun h => e (keyB_inj hj hk h.symm))]
      cases fnd (keyB j) s.its <;> rfl
  refine ⟨he, by unfold begV; rw [hf]; decide, ⟨I.ok.beg _ _ _, by rw [hs]; exact I.tmo, ?_⟩, by rw [hs], ?_, ?_, ?_⟩
  · rw [hs]
    intro x hx hst
    rcases List.mem_append.1 hx with hx | hx
    · have := I.late x hx hst
      show x.at_ + W ≤ N
      omega
    · simp at hx
      subst hx
      rcases hst with h | h <;> cases h
  · intro j hj
    rw [hs]
    unfold begV setF
    rw [show (⟨s.tmo, N, s.its ++ [⟨keyB k, tr, ⟨#[]⟩, N, 0⟩]⟩ : XS).its = s.its ++ [⟨keyB k, tr, ⟨#[]⟩, N, 0⟩] from rfl, hF j hj]
    by_cases e : j = k
    · rw [if_pos e, if_pos e]
    · rw [if_neg e, if_neg e]
  · intro j hj
    rw [hs]
    unfold ansV
    rw [show (⟨s.tmo, N, s.its ++ [⟨keyB k, tr, ⟨#[]⟩, N, 0⟩]⟩ : XS).its = s.its ++ [⟨keyB k, tr, ⟨#[]⟩, N, 0⟩] from rfl, hF j hj]
    by_cases e : j = k
    · subst e
      rw [if_pos rfl, hf]
      rfl
    · rw [if_neg e]
  · intro j hj
    rw [hs]
    unfold losV
    rw [show (⟨s.tmo, N, s.its ++ [⟨keyB k, tr, ⟨#[]⟩, N, 0⟩]⟩ : XS).its = s.its ++ [⟨keyB k, tr, ⟨#[]⟩, N, 0⟩] from rfl, hF j hj]
    by_cases e : j = k
    · subst e
      rw [if_pos rfl, hf]
      rfl
    · rw [if_neg e]
/-! ### Reply -/
omit I h1 h2 in
theorem out_rep6 {k : Nat} (hf : fnd (keyB k) s.its = none) : repN s N (keyB k) tx = 0 ∧ repE s N (keyB k) tx = 6 ∧ repS s N (keyB k) tx = s ∧ begV s k < 0 := by
  unfold repN repE repS begV
  rw [hf]
  exact ⟨rfl, rfl, rfl, by decide⟩
theorem out_rep {k : Nat} (hk : k < 64) {x : Im} (hf : fnd (keyB k) s.its = some x) :
    repN s N (keyB k) tx = (if x.st = 1 then 3 else if x.st = 0 ∧ N < x.at_ + W then 1 else 2) ∧ repE s N (keyB k) tx = 0 ∧ begV s k = x.at_ ∧ ansV s k = (if x.st = 1 then 1 else 0) ∧ 0 ≤ x.at_ ∧ x.at_ ≤ N ∧ (x.st = 2 ∨ x.st = 3 → x.at_ + W ≤ N) ∧ x.st ≤ 3 ∧
    Inv W (repS s N (keyB k) tx) ∧ (repS s N (keyB k) tx).now = N ∧
    (∀ j, j < 64 → begV (repS s N (keyB k) tx) j = begV s j) ∧ (∀ j, j < 64 → ansV (repS s N (keyB k) tx) j = if x.st = 0 ∧ N < x.at_ + W then setF (ansV s) k 1 j else ansV s j) ∧ (∀ j, j < 64 → losV (repS s N (keyB k) tx) j = losV s j) := by
  obtain ⟨hx, hxk⟩ := fnd_some hf
  have ho := out_okT h1 h2
  have hat := I.ok.at_ x hx
  have hs : repS s N (keyB k) tx = ⟨s.tmo, N, upd (keyB k) (repU s.tmo N tx) s.its⟩ := by
    unfold repS
    rw [hf]
    simp only [if_neg ho, if_neg (show ¬ 4000 < tx.size by decide)]
  have hF : ∀ j, j < 64 → fnd (keyB j) (repS s N (keyB k) tx).its = if j = k then some (repU W N tx x) else fnd (keyB j) s.its := by
    intro j hj
    rw [hs]
    show fnd (keyB j) (upd (keyB k) (repU s.tmo N tx) s.its) = _
    rw [fnd_upd (repU_key _ _ _)]
    by_cases e : j = k
    · subst e
      rw [if_pos rfl, if_pos rfl, hf, I.tmo]
      rfl
    · rw [if_neg (fun h => e (keyB_inj hj hk h)), if_neg e]
  have hlate : x.st = 2 ∨ x.st = 3 → x.at_ + W ≤ N := fun h => by have := I.late x hx h; omega
  refine ⟨?_, ?_, by unfold begV; rw [hf], by unfold ansV; rw [hf], hat.1, by omega, hlate, I.ok.st x hx, ⟨I.ok.rep _ _ _, by rw [hs]; exact I.tmo, ?_⟩, by rw [hs], ?_, ?_, ?_⟩
  · unfold repN
    rw [hf]
    simp only [if_neg ho, if_neg (show ¬ 4000 < tx.size by decide), I.tmo]
  · unfold repE
    rw [hf]
    simp only [if_neg ho, if_neg (show ¬ 4000 < tx.size by decide)]
  · rw [hs]
    intro y hy hst
    show y.at_ + W ≤ N
    obtain ⟨z, hz, e⟩ := List.mem_map.1 hy
    have hzl := I.late z hz
    subst e
    split at hst
    · rename_i hk2
      rw [if_pos hk2]
      rw [repU_at]
      unfold repU at hst
      split at hst
      · split at hst
        · rcases hst with h | h <;> cases h
        · rename_i hn
          rw [I.tmo] at hn
          omega
      · have := hzl hst
        omega
    · rename_i hk2
      rw [if_neg hk2]
      have := hzl hst
      omega
  · intro j hj
    unfold begV
    rw [hF j hj]
    by_cases e : j = k
    · subst e
      rw [if_pos rfl, hf]
      show (repU W N tx x).at_ = x.at_
      rw [repU_at]
    · rw [if_neg e]
  · intro j hj
    unfold ansV setF
    rw [hF j hj]
    by_cases e : j = k
    · subst e
      rw [if_pos rfl, if_pos rfl, hf]
      show (if (repU W N tx x).st = 1 then (1 : Int) else 0) = _
      unfold repU
      by_cases h0 : x.st = 0
      · by_cases hd : N < x.at_ + W
        · simp [h0, hd]
        · simp [h0, hd]
      · simp [h0]
    · rw [if_neg e, if_neg e]
      by_cases hd : x.st = 0 ∧ N < x.at_ + W
      · rw [if_pos hd]
      · rw [if_neg hd]
  · intro j hj
    unfold losV
    rw [hF j hj]
    by_cases e : j = k
    · subst e
      rw [if_pos rfl, hf]
      show (if (repU W N tx x).st = 3 then (1 : Int) else 0) = _
      unfold repU
      by_cases h0 : x.st = 0
      · by_cases hd : N < x.at_ + W
        · simp [h0, hd]
        · simp [h0, hd]
      · simp [h0]
    · rw [if_neg e]
/-! ### Lost -/
theorem out_los : losL s N = (s.its.filter (lostB W N)).map Im.key ∧ losS s N = ⟨s.tmo, N, s.its.map (lostU W N)⟩ ∧ Inv W (losS s N) ∧
    (∀ j, j < 64 → begV (losS s N) j = begV s j) ∧ (∀ j, j < 64 → ansV (losS s N) j = ansV s j) ∧
    (∀ j, j < 64 → (cntK (keyB j) (losL s N) : Int) + losV s j = losV (losS s N) j) := by
  have ho := out_okT h1 h2
  have hL : losL s N = (s.its.filter (lostB W N)).map Im.key := by
    unfold losL
    rw [if_neg ho, I.tmo]
  have hs : losS s N = ⟨s.tmo, N, s.its.map (lostU W N)⟩ := by
    unfold losS
    rw [if_neg ho, I.tmo]
  have hF : ∀ j, fnd (keyB j) (losS s N).its = (fnd (keyB j) s.its).map (lostU W N) := by
    intro j
    rw [hs]
    exact fnd_map (lostU_key _ _) _ _
  have hst : ∀ x : Im, (lostU W N x).st = if lostB W N x then 3 else x.st := by
    intro x
    unfold lostU
    split <;> rfl
  refine ⟨hL, hs, ⟨I.ok.los N, by rw [hs]; exact I.tmo, ?_⟩, ?_, ?_, ?_⟩
  · rw [hs]
    intro y hy hy3
    obtain ⟨z, hz, rfl⟩ := List.mem_map.1 hy
    rw [lostU_at]
    show z.at_ + W ≤ N
    rw [hst] at hy3
    split at hy3
    · rename_i hb
      unfold lostB at hb
      simp only [Bool.or_eq_true, Bool.and_eq_true, beq_iff_eq, decide_eq_true_eq] at hb
      rcases hb with hb | hb
      · have := I.late z hz (.inl hb)
        omega
      · exact hb.2
    · have := I.late z hz hy3
      omega
  · intro j _
    unfold begV
    rw [hF]
    cases fnd (keyB j) s.its with
    | none => rfl
    | some x => exact lostU_at _ _ _
  · intro j _
    unfold ansV
    rw [hF]
    cases fnd (keyB j) s.its with
    | none => rfl
    | some x =>
      show (if (lostU W N x).st = 1 then (1 : Int) else 0) = if x.st = 1 then 1 else 0
      rw [hst]
      split
      · rename_i hb
        have : ¬ x.st = 1 := by
          intro e
          unfold lostB at hb
          rw [e] at hb
          simp at hb
        rw [if_neg (by decide), if_neg this]
      · rfl
  · intro j _
    have hnd : (losL s N).Nodup := by
      rw [hL]
      exact I.ok.keys.sublist (List.Sublist.map _ List.filter_sublist)
    unfold losV
    rw [hF]
    cases hf : fnd (keyB j) s.its with
    | none =>
      have : keyB j ∉ losL s N := by
        rw [hL]
        intro hm
        obtain ⟨x, hx, e⟩ := List.mem_map.1 hm
        exact fnd_none hf (List.mem_map.2 ⟨x, (List.mem_filter.1 hx).1, e⟩)
      rw [cntK_zero this]
      rfl
    | some x =>
      obtain ⟨hx, hxk⟩ := fnd_some hf
      show (cntK (keyB j) (losL s N) : Int) + (if x.st = 3 then 1 else 0) = if (lostU W N x).st = 3 then 1 else 0
      rw [hst]
      cases hb : lostB W N x with
      | true =>
        have hm : keyB j ∈ losL s N := by
          rw [hL]
          exact List.mem_map.2 ⟨x, List.mem_filter.2 ⟨hx, hb⟩, hxk⟩
        have hc : cntK (keyB j) (losL s N) = 1 := by
          exact cntK_one hnd hm
        have h3 : ¬ x.st = 3 := by
          intro e
          unfold lostB at hb
          rw [e] at hb
          simp at hb
        rw [hc, if_neg h3]
        rfl
      | false =>
        have hm : keyB j ∉ losL s N := by
          rw [hL]
          intro hm
          obtain ⟨y, hy, e⟩ := List.mem_map.1 hm
          obtain ⟨hy1, hy2⟩ := List.mem_filter.1 hy
          have := uniqI I.ok.keys hy1 hx (by rw [e, hxk])
          subst this
          rw [hb] at hy2
          cases hy2
        rw [cntK_zero hm]
        simp
omit I h1 h2
/-- What each key's counts are. -/
theorem out_sum (j : Nat) : 0 ≤ ansV s j ∧ 0 ≤ losV s j ∧ ansV s j + losV s j ≤ 1 := by
  unfold ansV losV
  cases fnd (keyB j) s.its with
  | none => exact ⟨by decide, by decide, by decide⟩
  | some x =>
    show 0 ≤ (if x.st = 1 then (1 : Int) else 0) ∧ 0 ≤ (if x.st = 3 then (1 : Int) else 0) ∧ (if x.st = 1 then (1 : Int) else 0) + (if x.st = 3 then (1 : Int) else 0) ≤ 1
    by_cases a1 : x.st = 1
    · rw [if_pos a1, if_neg (by omega)]
      omega
    · rw [if_neg a1]
      split <;> omega
include I in
theorem out_bounds (h1 : s.now ≤ N) (j : Nat) : -1 ≤ begV s j ∧ begV s j ≤ N ∨ begV s j = -1 := by
  unfold begV
  cases hf : fnd (keyB j) s.its with
  | none => exact .inr rfl
  | some x =>
    have := I.ok.at_ x (fnd_some hf).1
    exact .inl ⟨by show -1 ≤ x.at_; omega, by show x.at_ ≤ N; omega⟩
end
/-- Behind Lost at the time N: a request is late just where it is lost or answered. -/
theorem out_late {W : Int} {s : XS} (I : Inv W s) {N : Int} (h1 : s.now ≤ N) (h2 : N ≤ 1000000) (j : Nat) :
    (losV (losS s N) j = 1 → 0 ≤ begV s j ∧ begV s j + W ≤ N) ∧ (ansV s j = 0 → 0 ≤ begV s j → begV s j + W ≤ N → losV (losS s N) j = 1) := by
  obtain ⟨_, hs, I2, _, _, _⟩ := out_los I h1 h2
  have hF : fnd (keyB j) (losS s N).its = (fnd (keyB j) s.its).map (lostU W N) := by
    rw [hs]
    exact fnd_map (lostU_key _ _) _ _
  unfold losV begV ansV
  rw [hF]
  cases hf : fnd (keyB j) s.its with
  | none => exact ⟨fun h => (by cases h), fun _ h => absurd h (by decide)⟩
  | some x =>
    obtain ⟨hx, _⟩ := fnd_some hf
    have hat := I.ok.at_ x hx
    have hl := I.late x hx
    have hs3 := I.ok.st x hx
    show ((if (lostU W N x).st = 3 then (1 : Int) else 0) = 1 → 0 ≤ x.at_ ∧ x.at_ + W ≤ N) ∧ ((if x.st = 1 then (1 : Int) else 0) = 0 → 0 ≤ x.at_ → x.at_ + W ≤ N → (if (lostU W N x).st = 3 then (1 : Int) else 0) = 1)
    unfold lostU lostB
    constructor
    · intro h
      refine ⟨hat.1, ?_⟩
      by_cases hb : (x.st == 2 || (x.st == 0 && decide (x.at_ + W ≤ N))) = true
      · simp only [Bool.or_eq_true, Bool.and_eq_true, beq_iff_eq, decide_eq_true_eq] at hb
        rcases hb with hb | hb
        · have := hl (.inl hb)
          omega
        · exact hb.2
      · rw [if_neg hb] at h
        split at h
        · rename_i e
          have := hl (.inr e)
          omega
        · cases h
    · intro ha _ hle
      have h1' : ¬ x.st = 1 := by
        intro e
        rw [if_pos e] at ha
        cases ha
      by_cases hb : (x.st == 2 || (x.st == 0 && decide (x.at_ + W ≤ N))) = true
      · rw [if_pos hb]
        rfl
      · rw [if_neg hb]
        simp only [Bool.or_eq_true, Bool.and_eq_true, beq_iff_eq, decide_eq_true_eq, not_or, not_and] at hb
        rw [if_pos (by have := hb.1; have := hb.2; omega)]
end Go.Proofs.Ytgacpkbpbckgiaa
