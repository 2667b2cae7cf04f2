/-
  Exchange: what an exchange computes, in plain Lean. No program in sight.
-/
import Derived.Test.YtgacpkbpbckgiaaAid
namespace Go.Proofs.Ytgacpkbpbckgiaa
open Go.RowKit
set_option linter.unusedVariables false

/-- A request: 0 it waits, 1 it is answered, 2 it is lost, 3 it is lost and was reported. -/
structure Im where
  key : ByteArray
  text : ByteArray
  reply : ByteArray
  at_ : Int
  st : Nat
deriving DecidableEq
structure XS where
  tmo : Int
  now : Int
  its : List Im
deriving DecidableEq

def okT (s : XS) (a : Int) : Prop := s.now ≤ a ∧ a ≤ 1099511627776
instance (s : XS) (a : Int) : Decidable (okT s a) := by unfold okT; exact inferInstance
def fnd (key : ByteArray) (l : List Im) : Option Im := l.find? fun x => decide (x.key = key)
def upd (key : ByteArray) (g : Im → Im) (l : List Im) : List Im := l.map fun x => if x.key = key then g x else x
def pendB (x : Im) : Bool := x.st == 0 || x.st == 2
def waitB (x : Im) : Bool := x.st == 0
def lostB (t a : Int) (x : Im) : Bool := x.st == 2 || (x.st == 0 && decide (x.at_ + t ≤ a))
def lostU (t a : Int) (x : Im) : Im := if lostB t a x then { x with st := 3 } else x
def waiL (l : List Im) : List ByteArray := (l.filter waitB).map Im.key
/-- What Begin answers, and leaves. -/
def begE (s : XS) (a : Int) (key txt : ByteArray) : Int :=
  if ¬ okT s a then 14 else if key.size < 1 ∨ 40 < key.size then 5 else if 4000 < txt.size then 3 else if (fnd key s.its).isSome then 7 else if 256 ≤ (waiL s.its).length then 12 else 0
def begS (s : XS) (a : Int) (key txt : ByteArray) : XS := if begE s a key txt = 0 then ⟨s.tmo, a, s.its ++ [⟨key, txt, ⟨#[]⟩, a, 0⟩]⟩ else s
/-- What Reply answers, and leaves. -/
def repN (s : XS) (a : Int) (key r : ByteArray) : Int := match fnd key s.its with
  | none => 0
  | some x => if ¬ okT s a then 0 else if 4000 < r.size then 0 else if x.st = 1 then 3 else if x.st = 0 ∧ a < x.at_ + s.tmo then 1 else 2
def repE (s : XS) (a : Int) (key r : ByteArray) : Int := match fnd key s.its with
  | none => 6
  | some x => if ¬ okT s a then 14 else if 4000 < r.size then 3 else 0
def repU (t a : Int) (r : ByteArray) (x : Im) : Im := if x.st = 0 then (if a < x.at_ + t then { x with st := 1, reply := r } else { x with st := 2 }) else x
def repS (s : XS) (a : Int) (key r : ByteArray) : XS := match fnd key s.its with
  | none => s
  | some x => if ¬ okT s a then s else if 4000 < r.size then s else ⟨s.tmo, a, upd key (repU s.tmo a r) s.its⟩
/-- What Lost returns, and leaves. -/
def losL (s : XS) (a : Int) : List ByteArray := if ¬ okT s a then [] else (s.its.filter (lostB s.tmo a)).map Im.key
def losS (s : XS) (a : Int) : XS := if ¬ okT s a then s else ⟨s.tmo, a, s.its.map (lostU s.tmo a)⟩
def resV (s : XS) (key : ByteArray) : ByteArray := match fnd key s.its with
  | none => ⟨#[]⟩
  | some x => if x.st = 1 then x.reply else ⟨#[]⟩
def resE (s : XS) (key : ByteArray) : Int := match fnd key s.its with
  | none => 6
  | some x => if x.st = 0 then 8 else if x.st = 1 then 0 else 14
def reqV (s : XS) (key : ByteArray) : ByteArray := match fnd key s.its with
  | none => ⟨#[]⟩
  | some x => x.text
def reqB (s : XS) (key : ByteArray) : Bool := (fnd key s.its).isSome
def nexN (s : XS) : Int := match s.its.find? pendB with
  | none => 0
  | some x => x.at_ + s.tmo
def nexB (s : XS) : Bool := (s.its.find? pendB).isSome

/-- An exchange as the calls leave it. -/
structure XS.Ok (s : XS) : Prop where
  t1 : 1 ≤ s.tmo
  t2 : s.tmo ≤ 100000
  n1 : 0 ≤ s.now
  n2 : s.now ≤ 1099511627776
  at_ : ∀ x ∈ s.its, 0 ≤ x.at_ ∧ x.at_ ≤ s.now
  sort : s.its.Pairwise fun x y => x.at_ ≤ y.at_
  keys : (s.its.map Im.key).Nodup
  st : ∀ x ∈ s.its, x.st ≤ 3
  ks : ∀ x ∈ s.its, 1 ≤ x.key.size ∧ x.key.size ≤ 40

theorem upd_keys (key : ByteArray) (g : Im → Im) (hg : ∀ x, (g x).key = x.key) (l : List Im) : (upd key g l).map Im.key = l.map Im.key := by
  unfold upd
  rw [List.map_map]
  refine List.map_congr_left fun x _ => ?_
  show (if x.key = key then g x else x).key = x.key
  split
  · exact hg x
  · rfl
theorem pair_map {g : Im → Im} (hg : ∀ x, (g x).at_ = x.at_) {l : List Im} (h : l.Pairwise fun x y => x.at_ ≤ y.at_) : (l.map g).Pairwise fun x y => x.at_ ≤ y.at_ :=
  List.pairwise_map.2 (h.imp fun {x y} e => by rw [hg, hg]; exact e)
theorem repU_key (t a : Int) (r : ByteArray) (x : Im) : (repU t a r x).key = x.key := by unfold repU; split <;> (try split) <;> rfl
theorem repU_at (t a : Int) (r : ByteArray) (x : Im) : (repU t a r x).at_ = x.at_ := by unfold repU; split <;> (try split) <;> rfl
theorem lostU_key (t a : Int) (x : Im) : (lostU t a x).key = x.key := by unfold lostU; split <;> rfl
theorem lostU_at (t a : Int) (x : Im) : (lostU t a x).at_ = x.at_ := by unfold lostU; split <;> rfl
theorem XS.Ok.new {t : Int} (h1 : 1 ≤ t) (h2 : t ≤ 100000) : (⟨t, 0, []⟩ : XS).Ok := ⟨h1, h2, by simp, by simp, by simp, List.Pairwise.nil, List.nodup_nil, by simp, by simp⟩
theorem fnd_none {key : ByteArray} {l : List Im} (h : fnd key l = none) : key ∉ l.map Im.key := by
  intro hm
  obtain ⟨x, hx, e⟩ := List.mem_map.1 hm
  have := List.find?_eq_none.1 h x hx
  simp [e] at this
theorem fnd_some {key : ByteArray} {l : List Im} {x : Im} (h : fnd key l = some x) : x ∈ l ∧ x.key = key := ⟨List.mem_of_find?_eq_some h, by simpa using List.find?_some h⟩
theorem XS.Ok.beg {s : XS} (o : s.Ok) (a : Int) (key txt : ByteArray) : (begS s a key txt).Ok := by
  unfold begS
  split
  · rename_i h
    unfold begE at h
    split at h
    · cases h
    · rename_i ho
      have ho' : okT s a := Classical.byContradiction ho
      split at h
      · cases h
      · rename_i hk
        split at h
        · cases h
        · split at h
          · cases h
          · rename_i hf
            have hf' : fnd key s.its = none := by
              cases e : fnd key s.its with
              | none => rfl
              | some x => rw [e] at hf; exact absurd rfl hf
            refine ⟨o.t1, o.t2, by have := o.n1; have := ho'.1; show 0 ≤ a; omega, ho'.2, ?_, ?_, ?_, ?_, ?_⟩
            · intro x hx
              rcases List.mem_append.1 hx with hx | hx
              · have := o.at_ x hx
                have := ho'.1
                exact ⟨by omega, by show x.at_ ≤ a; omega⟩
              · simp at hx
                subst hx
                have := o.n1
                have := ho'.1
                exact ⟨by show 0 ≤ a; omega, Int.le_refl _⟩
            · refine List.pairwise_append.2 ⟨o.sort, List.pairwise_singleton _ _, fun x hx y hy => ?_⟩
              simp at hy
              subst hy
              have := o.at_ x hx
              have := ho'.1
              show x.at_ ≤ a
              omega
            · show ((s.its ++ [_]).map Im.key).Nodup
              rw [List.map_append]
              refine List.nodup_append.2 ⟨o.keys, by simp, fun x hx y hy => ?_⟩
              simp at hy
              subst hy
              rintro rfl
              exact fnd_none hf' hx
            · intro x hx
              rcases List.mem_append.1 hx with hx | hx
              · exact o.st x hx
              · simp at hx
                subst hx
                exact Nat.zero_le _
            · intro x hx
              rcases List.mem_append.1 hx with hx | hx
              · exact o.ks x hx
              · simp at hx
                subst hx
                show 1 ≤ key.size ∧ key.size ≤ 40
                omega
  · exact o
theorem upd_mem {key : ByteArray} {g : Im → Im} {l : List Im} {y : Im} (h : y ∈ upd key g l) : ∃ x ∈ l, y = x ∨ y = g x := by
  obtain ⟨x, hx, rfl⟩ := List.mem_map.1 h
  refine ⟨x, hx, ?_⟩
  split
  · exact .inr rfl
  · exact .inl rfl
theorem XS.Ok.rep {s : XS} (o : s.Ok) (a : Int) (key r : ByteArray) : (repS s a key r).Ok := by
  unfold repS
  split
  · exact o
  · split
    · exact o
    · rename_i ho
      have ho' : okT s a := Classical.byContradiction ho
      split
      · exact o
      · refine ⟨o.t1, o.t2, by have := o.n1; have := ho'.1; show 0 ≤ a; omega, ho'.2, ?_, ?_, ?_, ?_, ?_⟩
        · intro y hy
          obtain ⟨x, hx, h⟩ := upd_mem hy
          have h1 := o.at_ x hx
          have h2 := ho'.1
          have e : y.at_ = x.at_ := by rcases h with rfl | rfl; rfl; exact repU_at _ _ _ _
          rw [e]
          exact ⟨h1.1, by show x.at_ ≤ a; omega⟩
        · exact pair_map (fun x => by split; exact repU_at _ _ _ _; rfl) o.sort
        · show ((upd key _ s.its).map Im.key).Nodup
          rw [upd_keys _ _ (repU_key _ _ _)]
          exact o.keys
        · intro y hy
          obtain ⟨x, hx, h⟩ := upd_mem hy
          have h1 := o.st x hx
          rcases h with rfl | rfl
          · exact h1
          · unfold repU
            split
            · split <;> simp
            · exact h1
        · intro y hy
          obtain ⟨x, hx, h⟩ := upd_mem hy
          have h1 := o.ks x hx
          have e : y.key = x.key := by rcases h with rfl | rfl; rfl; exact repU_key _ _ _ _
          rw [e]
          exact h1
theorem XS.Ok.los {s : XS} (o : s.Ok) (a : Int) : (losS s a).Ok := by
  unfold losS
  split
  · exact o
  · rename_i ho
    have ho' : okT s a := Classical.byContradiction ho
    refine ⟨o.t1, o.t2, by have := o.n1; have := ho'.1; show 0 ≤ a; omega, ho'.2, ?_, ?_, ?_, ?_, ?_⟩
    · intro y hy
      obtain ⟨x, hx, rfl⟩ := List.mem_map.1 hy
      have h1 := o.at_ x hx
      have h2 := ho'.1
      rw [lostU_at]
      exact ⟨h1.1, by show x.at_ ≤ a; omega⟩
    · exact pair_map (lostU_at _ _) o.sort
    · show ((s.its.map _).map Im.key).Nodup
      rw [List.map_map, show Im.key ∘ lostU s.tmo a = Im.key from funext fun x => lostU_key _ _ x]
      exact o.keys
    · intro y hy
      obtain ⟨x, hx, rfl⟩ := List.mem_map.1 hy
      unfold lostU
      split
      · simp
      · exact o.st x hx
    · intro y hy
      obtain ⟨x, hx, rfl⟩ := List.mem_map.1 hy
      rw [lostU_key]
      exact o.ks x hx
theorem begS_len (s : XS) (a : Int) (key txt : ByteArray) : (begS s a key txt).its.length ≤ s.its.length + 1 := by
  unfold begS
  split
  · simp
  · omega
theorem repS_len (s : XS) (a : Int) (key r : ByteArray) : (repS s a key r).its.length = s.its.length := by
  unfold repS
  split
  · rfl
  · split
    · rfl
    · split
      · rfl
      · simp [upd]
theorem losS_len (s : XS) (a : Int) : (losS s a).its.length = s.its.length := by
  unfold losS
  split
  · rfl
  · simp
end Go.Proofs.Ytgacpkbpbckgiaa
