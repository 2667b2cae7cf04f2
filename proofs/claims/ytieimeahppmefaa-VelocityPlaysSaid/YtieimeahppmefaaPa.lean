/-
  Velocity: the uses that are remembered, as plain lists, and what each call answers. No program in sight.
-/
namespace Go.Proofs.Ytieimeahppmefaa

/-- A use: key, time, amount. -/
structure Us where
  key : ByteArray
  at_ : Int
  am : Int
deriving DecidableEq

/-- The horizon, the last time, the uses in order. -/
structure VS where
  h : Int
  last : Int
  us : List Us

def maxTime : Int := 1099511627776
def maxAm : Int := 999999999999
def isT (a : Int) : Prop := 0 ≤ a ∧ a ≤ maxTime
instance (a : Int) : Decidable (isT a) := by unfold isT; infer_instance

/-- What holds of every state that the calls make. -/
structure VS.Ok (s : VS) : Prop where
  h1 : 1 ≤ s.h
  h2 : s.h ≤ 10000000
  l1 : 0 ≤ s.last
  l2 : s.last ≤ maxTime
  each : ∀ u ∈ s.us, 0 ≤ u.at_ ∧ u.at_ ≤ s.last ∧ 0 ≤ u.am ∧ u.am ≤ maxAm
  asc : s.us.Pairwise fun u v => u.at_ ≤ v.at_
  len : s.us.length ≤ 1000

def isOld (b : Int) (u : Us) : Bool := decide (u.at_ ≤ b)
def oldL (b : Int) (l : List Us) : List Us := l.takeWhile (isOld b)
def young (b : Int) (l : List Us) : List Us := l.filter fun u => !isOld b u

theorem drop_old (b : Int) : ∀ l : List Us, (l.Pairwise fun u v => u.at_ ≤ v.at_) → l.drop (oldL b l).length = young b l
  | [], _ => rfl
  | u :: l, h => by
    have h' := List.pairwise_cons.1 h
    unfold oldL young
    cases hu : isOld b u with
    | true =>
      rw [List.takeWhile_cons_of_pos hu]
      simp only [List.length_cons, List.drop_succ_cons, List.filter_cons, hu]
      exact drop_old b l h'.2
    | false =>
      rw [List.takeWhile_cons_of_neg (by simp [hu])]
      simp only [List.length_nil, List.drop_zero]
      symm
      rw [List.filter_eq_self]
      intro v hv
      rcases List.mem_cons.1 hv with rfl | hv
      · simp [hu]
      · have h1 := h'.1 v hv
        unfold isOld at hu ⊢
        simp at hu ⊢
        omega
theorem old_len (b : Int) (l : List Us) : (oldL b l).length ≤ l.length := by
  unfold oldL
  exact (List.takeWhile_sublist _).length_le
theorem young_len {b : Int} {l : List Us} (h : l.Pairwise fun u v => u.at_ ≤ v.at_) : (young b l).length = l.length - (oldL b l).length := by
  rw [← drop_old b l h, List.length_drop]

/-- The index of the last use that is u, below k. -/
def lastIx (u : Us) (l : List Us) : Nat → Option Nat
  | 0 => none
  | k + 1 => if l[k]? = some u then some k else lastIx u l k
theorem lastIx_lt {u : Us} {l : List Us} : ∀ {k i : Nat}, lastIx u l k = some i → i < k ∧ l[i]? = some u
  | 0, i, h => by simp [lastIx] at h
  | k + 1, i, h => by
    unfold lastIx at h
    split at h
    · rename_i hk; simp at h; subst h; exact ⟨by omega, hk⟩
    · obtain ⟨h1, h2⟩ := lastIx_lt h; exact ⟨by omega, h2⟩

/-- The last use of a key below k: its time. -/
def lastAt (key : ByteArray) (l : List Us) : Nat → Option Int
  | 0 => none
  | k + 1 => match l[k]? with
    | some u => if u.key = key then some u.at_ else lastAt key l k
    | none => lastAt key l k

def inWin (key : ByteArray) (a win : Int) (u : Us) : Bool := decide (u.key = key) && (decide (a - win < u.at_) && decide (u.at_ ≤ a))
def winL (key : ByteArray) (a win : Int) (l : List Us) : List Us := l.filter (inWin key a win)
def sumL : List Us → Int
  | [] => 0
  | u :: l => u.am + sumL l
theorem sumL_snoc (u : Us) : ∀ l : List Us, sumL (l ++ [u]) = sumL l + u.am
  | [] => by simp [sumL]
  | v :: l => by simp only [List.cons_append, sumL, sumL_snoc u l]; omega
theorem sumL_bd : ∀ l : List Us, (∀ u ∈ l, 0 ≤ u.am ∧ u.am ≤ maxAm) → 0 ≤ sumL l ∧ sumL l ≤ l.length * maxAm
  | [], _ => by simp [sumL]
  | u :: l, h => by
    have h1 := h u (by simp)
    have h2 := sumL_bd l fun v hv => h v (by simp [hv])
    simp only [sumL, List.length_cons]
    have : ((l.length + 1 : Nat) : Int) * maxAm = (l.length : Int) * maxAm + maxAm := by rw [Int.natCast_add, Int.add_mul]; simp
    omega

def winOk (s : VS) (a win : Int) : Prop := 1 ≤ win ∧ win ≤ s.h ∧ isT a
instance (s : VS) (a win : Int) : Decidable (winOk s a win) := by unfold winOk; infer_instance

/-! ### The calls -/
def addE (s : VS) (key : ByteArray) (a am : Int) : Int :=
  if key.size < 1 ∨ 40 < key.size then 5 else if ¬ isT a ∨ a < s.last then 14 else if am < 0 ∨ maxAm < am then 4 else if 1000 ≤ (young (a - s.h) s.us).length then 12 else 0
def addS (s : VS) (key : ByteArray) (a am : Int) : VS := if addE s key a am = 0 then { s with last := a, us := young (a - s.h) s.us ++ [⟨key, a, am⟩] } else s
def remE (s : VS) (u : Us) : Int := match lastIx u s.us s.us.length with | some _ => 0 | none => 6
def remS (s : VS) (u : Us) : VS := match lastIx u s.us s.us.length with | some i => { s with us := s.us.eraseIdx i } | none => s
def cntN (s : VS) (key : ByteArray) (a win : Int) : Int := if winOk s a win then (winL key a win s.us).length else 0
def sumN (s : VS) (key : ByteArray) (a win : Int) : Int := if winOk s a win then sumL (winL key a win s.us) else 0
def forN (s : VS) (a : Int) : Int := if isT a then (s.us.length - (young (a - s.h) s.us).length : Nat) else 0
def forS (s : VS) (a : Int) : VS := if isT a then { s with us := young (a - s.h) s.us } else s
def lasN (s : VS) (key : ByteArray) : Int := (lastAt key s.us s.us.length).getD 0
def lasB (s : VS) (key : ByteArray) : Bool := (lastAt key s.us s.us.length).isSome

theorem young_mem {b : Int} {l : List Us} {u : Us} (h : u ∈ young b l) : u ∈ l := (List.mem_filter.1 h).1
theorem young_le (b : Int) (l : List Us) : (young b l).length ≤ l.length := List.length_filter_le _ _

theorem VS.Ok.new {h : Int} (h1 : 1 ≤ h) (h2 : h ≤ 10000000) : VS.Ok ⟨h, 0, []⟩ := ⟨h1, h2, by simp, by simp [maxTime], by simp, by simp, by simp⟩
theorem VS.Ok.addS {s : VS} (o : s.Ok) (key : ByteArray) (a am : Int) : (addS s key a am).Ok := by
  unfold Ytieimeahppmefaa.addS
  split
  · rename_i h
    unfold addE at h
    split at h <;> try omega
    split at h <;> try omega
    split at h <;> try omega
    split at h <;> try omega
    rename_i h1 h2 h3 h4
    have h5 : isT a ∧ s.last ≤ a := ⟨by by_cases g : isT a; exact g; exact absurd (.inl g) h2, by by_cases g : s.last ≤ a; exact g; exact absurd (.inr (by omega)) h2⟩
    refine ⟨o.h1, o.h2, h5.1.1, h5.1.2, ?_, ?_, ?_⟩
    · intro u hu
      rcases List.mem_append.1 hu with hu | hu
      · have := o.each u (young_mem hu)
        have := h5.2
        simp only
        omega
      · simp at hu
        subst hu
        simp only
        have := h5.1.1
        omega
    · simp only
      rw [List.pairwise_append]
      refine ⟨o.asc.filter _, by simp, ?_⟩
      intro u hu v hv
      simp at hv
      subst hv
      have := o.each u (young_mem hu)
      have := h5.2
      simp only
      omega
    · simp only [List.length_append, List.length_cons, List.length_nil]
      omega
  · exact o
theorem eraseIdx_sub (l : List Us) (i : Nat) : (l.eraseIdx i).Sublist l := List.eraseIdx_sublist l i
theorem VS.Ok.sub {s : VS} (o : s.Ok) {l : List Us} (h : l.Sublist s.us) : VS.Ok { s with us := l } :=
  ⟨o.h1, o.h2, o.l1, o.l2, fun u hu => o.each u (h.subset hu), o.asc.sublist h, Nat.le_trans h.length_le o.len⟩
theorem VS.Ok.remS {s : VS} (o : s.Ok) (u : Us) : (remS s u).Ok := by
  unfold Ytieimeahppmefaa.remS
  split
  · exact o.sub (eraseIdx_sub _ _)
  · exact o
theorem VS.Ok.forS {s : VS} (o : s.Ok) (a : Int) : (forS s a).Ok := by
  unfold Ytieimeahppmefaa.forS
  split
  · exact o.sub List.filter_sublist
  · exact o

/-- The Last of the chapter: the greatest time of a key, from 0 on, below k. -/
def maxF (key : ByteArray) (l : List Us) (k : Nat) : Int × Bool := (l.take k).foldl (fun p u => if u.key = key then (max p.1 u.at_, true) else p) (0, false)
theorem maxF_succ {key : ByteArray} {l : List Us} {k : Nat} {u : Us} (h : l[k]? = some u) : maxF key l (k + 1) = if u.key = key then (max (maxF key l k).1 u.at_, true) else maxF key l k := by
  unfold maxF
  rw [List.take_add_one, h]
  simp [List.foldl_append]
theorem maxF_is {key : ByteArray} {l : List Us} (hp : l.Pairwise fun u v => u.at_ ≤ v.at_) (h0 : ∀ u ∈ l, 0 ≤ u.at_) : ∀ k, k ≤ l.length → maxF key l k = ((lastAt key l k).getD 0, (lastAt key l k).isSome) ∧ ∀ v, lastAt key l k = some v → ∃ u ∈ l.take k, u.at_ = v
  | 0, _ => ⟨by simp [maxF, lastAt], by simp [lastAt]⟩
  | k + 1, hk => by
    obtain ⟨e1, e2⟩ := maxF_is hp h0 k (by omega)
    have hu : l[k]? = some (l[k]'(by omega)) := List.getElem?_eq_getElem (by omega)
    have hm : l[k]'(by omega) ∈ l := List.getElem_mem _
    rw [maxF_succ hu]
    have hL : lastAt key l (k + 1) = if (l[k]'(by omega)).key = key then some (l[k]'(by omega)).at_ else lastAt key l k := by
      rw [lastAt, hu]
    rw [hL]
    by_cases h : (l[k]'(by omega)).key = key
    · rw [if_pos h, if_pos h]
      refine ⟨?_, fun v hv => ⟨l[k]'(by omega), ?_, Option.some.inj hv⟩⟩
      · rw [e1]
        cases hl : lastAt key l k with
        | none => simp; have := h0 _ hm; omega
        | some v =>
          obtain ⟨u, hu1, hu2⟩ := e2 v hl
          obtain ⟨j, hj, rfl⟩ := List.getElem_of_mem hu1
          have hj' : j < k := by simp at hj; omega
          have := List.pairwise_iff_getElem.1 hp j k (by omega) (by omega) hj'
          simp at hu2
          simp
          omega
      · rw [List.take_add_one, hu]; exact List.mem_append_right _ (by simp)
    · rw [if_neg h, if_neg h]
      refine ⟨e1, fun v hv => ?_⟩
      obtain ⟨u, h1, h2⟩ := e2 v hv
      exact ⟨u, List.mem_of_mem_take (l := l.take (k+1)) (i := k) (by rw [List.take_take]; rwa [Nat.min_eq_left (by omega)]), h2⟩
end Go.Proofs.Ytieimeahppmefaa
