/-
  Timer: walks over slices.Delete and remove. Condition: the state is one that the calls make.
-/
import Derived.Test.YtmkcpgdjbbcigaaWa
import Derived.Test.YtmkcpgdjbbcigaaDel
import Derived.Test.YtmkcpgdjbbcigaaPlanE
namespace Go.Proofs.Ytmkcpgdjbbcigaa
open Go.RowKit
set_option linter.unusedVariables false

theorem zero61 (w : World) : (zeroValue 61).run Try.prog w = .ok (.agg #[.string ⟨#[]⟩, .int .i64 0]) w := by kernel_rfl
theorem entE : ElemT Try.prog 48 61 (.agg #[.string ⟨#[]⟩, .int .i64 0]) 2 24 := ⟨Try.underlying48, by kernel_rfl, rfl, by decide⟩
theorem zero_one : ∀ u ∈ (Value.agg #[.string ⟨#[]⟩, .int .i64 0]).cells.toList, u.oneCell' = true := by
  intro u hu
  simp [Value.cells] at hu
  rcases hu with rfl | rfl <;> rfl
theorem tiC_one (x : Ti) : ∀ u ∈ tiC x, u.oneCell' = true := by
  intro u hu
  simp [tiC] at hu
  rcases hu with rfl | rfl <;> rfl
theorem flat_one {l : List Ti} : ∀ u ∈ l.flatMap tiC, u.oneCell' = true := by
  intro u hu
  obtain ⟨x, _, hx⟩ := List.mem_flatMap.1 hu
  exact tiC_one x u hx
theorem drop_one {l : List Ti} {k : Nat} : ∀ u ∈ (l.flatMap tiC).drop k, u.oneCell' = true := fun u hu => flat_one u (List.mem_of_mem_drop hu)
theorem remT_len {i m : Nat} {l : List Ti} (h : i + m ≤ l.length) : (remT i m l).length = i + (l.length - (i + m)) := by
  unfold remT
  simp
  omega

def DelRet (B : Nat) (A : Option Addr) (c i m : Nat) (l : List Ti) (w : World) (e : Ending) (w' : World) : Prop :=
  e = .returned (.slice A (remT i m l).length c) ∧ rowL w' B 61 2 A (remT i m l).length c ((remT i m l).flatMap tiC) ∧ Turn B [61] false w w'
set_option maxHeartbeats 1600000 in
theorem delete_any (B : Nat) (A : Option Addr) (c i m : Nat) (l : List Ti) (him : i + m ≤ l.length) (w : World) (hBw : B ≤ w.heap.size) (hr : rowL w B 61 2 A l.length c (l.flatMap tiC)) :
    Calls Try.prog 43 #[.slice A l.length c, .int .i64 i, .int .i64 ((i + m : Nat) : Int)] w (DelRet B A c i m l w) := by
  obtain ⟨hnc, hcm⟩ := hr.len
  have HR := Lib.hid hr
  rcases Nat.eq_zero_or_pos m with rfl | hm
  · have e : remT i 0 l = l := by simp [remT]
    have HE := Lib.hid e
    have i1 : (i : Int) ≤ l.length := by omega
    have i2 : (l.length : Int) ≤ c := by omega
    clear hr e
    rw [Nat.add_zero]
    by_cases hil : i = l.length
    · obtain ⟨k, hk⟩ : ∃ k, l.length = k := ⟨_, rfl⟩
      have HK := Lib.hid hk
      rw [hk] at hil i1 i2
      rw [hk]
      subst hil
      clear hk
      cases A with
      | none =>
        go_enter Try.func43, Try.ntmps43
        go_wp2_with fail
        go_ret
        exact ⟨by rw [HE.out, HK.out]; rfl, by rw [HE.out]; exact HR.out, Turn.refl _ _ _ _⟩
      | some a =>
        go_enter Try.func43, Try.ntmps43
        go_wp2_with fail
        go_ret
        exact ⟨by rw [HE.out, HK.out]; rfl, by rw [HE.out]; exact HR.out, Turn.refl _ _ _ _⟩
    · have i3 : ¬ l.length = i := fun e => hil e.symm
      cases A with
      | none =>
        go_enter Try.func43, Try.ntmps43
        go_wp2_with fail
        go_ret
        exact ⟨by rw [HE.out]; rfl, by rw [HE.out]; exact HR.out, Turn.refl _ _ _ _⟩
      | some a =>
        go_enter Try.func43, Try.ntmps43
        go_wp2_with fail
        go_ret
        exact ⟨by rw [HE.out]; rfl, by rw [HE.out]; exact HR.out, Turn.refl _ _ _ _⟩
  · obtain ⟨g, rfl, _, _, _, _⟩ := hr.cells (by omega)
    obtain ⟨j, hj⟩ : ∃ j, i + m = j := ⟨_, rfl⟩
    have HJ := Lib.hid hj
    have i1 : (i : Int) ≤ (j : Int) := by omega
    have i2 : (j : Int) ≤ l.length := by omega
    have i3 : (l.length : Int) ≤ c := by omega
    have i4 : ¬ (i : Int) = (j : Int) := by omega
    have i5 : (i : Int) ≤ c := by omega
    have i6 : i + (l.length - j) ≤ c := by omega
    have i7 : ¬ c = i + (l.length - j) := by omega
    have i8 : (i : Int) ≤ l.length := by omega
    rw [hj]
    clear hr
    go_enter Try.func43, Try.ntmps43
    go_wp2_with fail
    rename_i K0 hKK
    refine wp_region_reg (fun x => Turn B [61] false w x) 8 rfl (by kernel_rfl) ?_
    have T : Turn B [61] false w w.drew := (Turn.refl _ _ _ _).drew
    haveI : Nonempty (Cls (fun x => Turn B [61] false w x)) := ⟨⟨_, T⟩⟩
    refine reg_seg (f := 2) (by kernel_rfl) [0, 1, 2, 3, 4, 5] _ _ _ T (by kernel_rfl) ?_
    simp only [pickL, List.filterMap_cons, List.filterMap_nil, List.getElem?_toArray, List.getElem?_cons_zero, List.getElem?_cons_succ]
    show wpQuiet _ _ _ _ [_, _, _, _, _, _] _
    repeat (go_big_quiet_step (fail))
    refine wpQuiet_nil ?_
    generalize hA2 : (if c = j then some (⟨g, 0, none⟩ : Addr) else some ⟨g, j * 2, none⟩) = A2
    have A21 : Hid (j < l.length → A2 = some ⟨g, j * 2, none⟩) := Lib.hid (by intro h; rw [← hA2, if_neg (by omega)])
    have A22 : Hid (A2 = none → l.length ≤ j) := Lib.hid (by intro h; rw [← hA2] at h; split at h <;> cases h)
    clear hA2
    refine reg_call 6 _ (by kernel_rfl) rfl rfl ?_
    refine wp_appR entE (.tmp 22) (.tmp 25) rfl rfl rfl (HR.out.to (k := i) (by omega)) (HR.out.drop A21.out A22.out) drop_one (by omega) ?_
    intro w2 hr2 hg2
    have T2 : Turn B [61] false w w2 := T.grownL HR.out hg2 rfl hBw
    have eN : (l.flatMap tiC).take (i * 2) ++ (l.flatMap tiC).drop (j * 2) = (remT i m l).flatMap tiC := by
      unfold remT
      rw [List.flatMap_append, ← takeM tiC 2 tiC2, ← dropM tiC 2 tiC2, HJ.out]
    have eL : i + (l.length - j) = (remT i m l).length := by rw [remT_len him, HJ.out]
    rw [eN, eL] at hr2
    rw [eL]
    have n1 : (remT i m l).length < l.length := by rw [← eL]; omega
    have HN : Hid (l.length - (remT i m l).length = m) := Lib.hid (by rw [← eL]; omega)
    have R2 := Lib.hid hr2
    have HT2 := Lib.hid T2
    refine ⟨T2, ?_⟩
    clear hr2 hg2 T T2 eN eL i6 i7 hj
    obtain ⟨l2, hl2⟩ : ∃ l2, remT i m l = l2 := ⟨_, rfl⟩
    have HL2 := Lib.hid hl2
    rw [hl2] at R2 n1 HN ⊢
    clear hl2
    refine reg_call 7 _ (by kernel_rfl) rfl rfl ?_
    have T := HT2.out
    go_simp
    refine reg_end (by kernel_rfl) ?_
    refine hKK _ _ ?_
    clear T
    have n2 : ¬ c = l2.length := by omega
    have n3 : (l2.length : Int) ≤ l.length := by omega
    have n4 : (l2.length : Int) ≤ c := by omega
    obtain ⟨w3, hcl, hr3, hg3⟩ := run_clearL (c' := c - l2.length) entE 0 zero61 zero_one R2.out (m := l.length - l2.length) (by omega) (by omega)
    have HR3 := Lib.hid hr3
    have T3 := Lib.hid (HT2.out.grownL R2.out hg3 rfl hBw)
    clear hr3 hg3
    go_wp2_with fail
    go_ret
    unfold DelRet
    rw [HL2.out]
    exact ⟨rfl, HR3.out, T3.out⟩

/-- What remove leaves. -/
def RemRet (B p : Nat) (s : TS) (i m : Nat) (w : World) (e : Ending) (w' : World) : Prop :=
  e = .returned (.tuple #[]) ∧ TRep w' B p { s with ts := remT i m s.ts } ∧ Turn B [52, 61] false w w'
theorem remove_any (B p : Nat) (s : TS) (i m : Nat) (him : i + m ≤ s.ts.length) (w : World) (hBw : B ≤ w.heap.size) (r : TRep w B p s) :
    Calls Try.prog 38 #[.pointer (some ⟨p, 1, none⟩), .int .i64 i, .int .i64 m] w (RemRet B p s i m w) := by
  obtain ⟨hB, A, c, B0, hr⟩ := r
  have hl := hr.len
  have HD := Lib.hid (delete_any B A c i m s.ts him w hBw hr)
  have c1 := B0.c1
  have i1 : IntKind.i64.wrap ((i : Int) + m) = ((i + m : Nat) : Int) := by rw [IntWalk.i64_in _ (by omega)]; omega
  clear hr
  go_enter Try.func38, Try.ntmps38
  go_wp2_with (
     go_at_call 43
     refine HD.out.mono ?_
     rintro e w2 ⟨rfl, hr2, T2⟩
     have B2 := B0.turn T2 rfl
     have l2 := B2.lt
     have f2 := B2.frozen
     have d2 := B2.c1
     have HR2 := Lib.hid hr2
     have HT2 := Lib.hid T2
     clear hr2 T2 c1)
  go_end0
  refine ⟨rfl, ⟨hB, A, c, B2.s1 _, HR2.out.far B2 (by decide) 1 _⟩, (HT2.out.mono (Nat.le_refl _) (fun t ht => by simp at ht ⊢; exact .inr ht) (fun h => h)).setB B2 rfl hB 1 _⟩
end Go.Proofs.Ytmkcpgdjbbcigaa
