/-
  Timer: walks over the chapter's New, Now, Len, Next, find and Identification. Condition: the state is one that the calls make.
-/
import Derived.Test.YtmkcpgdjbbcigaaWp
namespace Go.Proofs.Ytmkcpgdjbbcigaa
open Go.RowKit
set_option linter.unusedVariables false

/-- The chapter's timers at block p. -/
def RRep (w : World) (B p : Nat) (s : TS) : Prop :=
  B ≤ p ∧ ∃ A c, Blk w p 55 #[.slice A s.ts.length c, .int .i64 s.now] ∧ rowL w B 65 2 A s.ts.length c (s.ts.flatMap tiC)
theorem RRep.drewN {w : World} {B p : Nat} {s : TS} (h : RRep w B p s) (i : Nat) : RRep (w.drewN i) B p s := h
theorem RRep.call {w w' : World} {B p : Nat} {s : TS} (h : RRep w B p s) (hb : Below w.heap.size w w') : RRep w' B p s := by
  obtain ⟨h1, A, c, h2, h5⟩ := h
  exact ⟨h1, A, c, h2.call hb, h5.call hb⟩
theorem RRep.turnOther {w w' : World} {B B' p : Nat} {s : TS} {T : List TypeId} {m : Bool} (h : RRep w B p s) (k : Turn B' T m w w') (h1 : T.contains 55 = false) (h2 : T.contains 65 = false) : RRep w' B p s := by
  obtain ⟨hB, A0, c0, B0, hr0⟩ := h
  exact ⟨hB, A0, c0, B0.turn k h1, hr0.turn k h2⟩
theorem rnew_ok (w : World) : Calls Try.prog 11 #[] w fun e w' => e = .returned (.pointer (some ⟨w.heap.size, 0, none⟩)) ∧ RRep w' w.heap.size w.heap.size ⟨0, []⟩ ∧ Below w.heap.size w w' := by
  go_enter Try.func11, Try.ntmps11
  go_wp2
  go_ret
  exact ⟨rfl, ⟨Nat.le_refl _, none, 0, Blk.new _ _ _, rowL.nil _ _ _ _⟩, (Below.refl _ _).alloc (Nat.le_refl _) _⟩
theorem rnow_any (B p : Nat) (s : TS) (w : World) (r : RRep w B p s) : Calls Try.prog 26 #[.pointer (some ⟨p, 0, none⟩)] w fun e w' => e = .returned (.int .i64 s.now) ∧ w = w' := by
  obtain ⟨hB, A, c, B0, hr⟩ := r
  have c0 := B0.c1
  clear hr
  go_enter Try.func26, Try.ntmps26
  go_wp2
  go_ret
  exact ⟨rfl, rfl⟩
theorem rlen_any (B p : Nat) (s : TS) (w : World) (r : RRep w B p s) : Calls Try.prog 28 #[.pointer (some ⟨p, 0, none⟩)] w fun e w' => e = .returned (.int .i64 s.ts.length) ∧ w = w' := by
  obtain ⟨hB, A, c, B0, hr⟩ := r
  have c1 := B0.c0
  clear hr
  go_enter Try.func28, Try.ntmps28
  go_wp2
  go_ret
  exact ⟨rfl, rfl⟩
theorem rnext_none (B p : Nat) (s : TS) (h : s.ts.length = 0) (w : World) (r : RRep w B p s) :
    Calls Try.prog 24 #[.pointer (some ⟨p, 0, none⟩)] w fun e w' => e = .returned (.tuple #[.int .i64 0, .bool false]) ∧ w = w' := by
  obtain ⟨hB, A, c, B0, hr⟩ := r
  have c1 := B0.c0
  rw [h] at c1
  clear hr
  go_enter Try.func24, Try.ntmps24
  go_wp2
  go_ret2
  exact ⟨rfl, rfl⟩
theorem rnext_some (B p : Nat) (s : TS) (x : Ti) (hx : s.ts[0]? = some x) (w : World) (r : RRep w B p s) :
    Calls Try.prog 24 #[.pointer (some ⟨p, 0, none⟩)] w fun e w' => e = .returned (.tuple #[.int .i64 x.at_, .bool true]) ∧ w = w' := by
  obtain ⟨hB, A, c, B0, hr⟩ := r
  have c1 := B0.c0
  have hi : 0 < s.ts.length := (List.getElem?_eq_some_iff.1 hx).1
  obtain ⟨g, rfl, _, _, hc, _⟩ := hr.cells hi
  have g1 : w.cell? ⟨g, 1, none⟩ = some (.int .i64 x.at_) := hc 1 _ (by have := atM tiC 2 tiC2 _ 0 _ 1 hx (by decide); simpa [tiC] using this)
  have n1 : ¬ s.ts.length = 0 := by omega
  have n2 : ¬ (s.ts.length : Int) = 0 := by omega
  have n3 : (0 : Int) < s.ts.length := by omega
  clear hc hr hx
  go_enter Try.func24, Try.ntmps24
  go_wp2
  go_ret2
  exact ⟨rfl, rfl⟩

theorem rfind_any (B p : Nat) (s : TS) (key : ByteArray) (w : World) (r : RRep w B p s) :
    Calls Try.prog 36 #[.pointer (some ⟨p, 0, none⟩), .string key] w fun e w' => e = .returned (.int .i64 (idxI (findK key s.ts))) ∧ w = w' := by
  obtain ⟨hB, A, c, B0, hr⟩ := r
  have c1 := B0.c0
  have hlen := hr.len
  have HR := Lib.hid hr
  clear hr
  go_enter Try.func36, Try.ntmps36
  go_wp2_with fail
  go_loopw [5] (fun i wr => ∃ k : Nat, k ≤ s.ts.length ∧ i = .int .i64 k ∧ noneK key s.ts k ∧ wr = w) (fun i _ => s.ts.length - (intOf i).toNat)
  case atStart => exact ⟨0, by omega, rfl, noneK_zero _ _, rfl⟩
  case round =>
    obtain ⟨k, hk, rfl, hno, rfl⟩ := hrel
    have HN := Lib.hid hno
    clear hno
    by_cases hlt : k < s.ts.length
    · obtain ⟨ga, rfl, hBg, hgs, hcell, _⟩ := HR.out.cells (by omega)
      have hu : s.ts[k]? = some s.ts[k] := List.getElem?_eq_getElem hlt
      have g0 := hcell (k * 2) (.string s.ts[k].id) (by have := atM tiC 2 tiC2 s.ts k _ 0 hu (by decide); simpa [tiC] using this)
      have HU := Lib.hid hu
      clear hcell hu
      generalize s.ts[k] = x at g0 HU
      by_cases he : x.id.toList = key.toList
      · have hbq : (x.id.toList == key.toList) = true := by simpa using he
        have HE := Lib.hid he
        clear he
        go_wp2_with fail
        go_ret
        exact ⟨by rw [findK_some HN.out HU.out HE.out]; rfl, rfl⟩
      · have hbq : (x.id.toList == key.toList) = false := by simpa using he
        have HE := Lib.hid he
        clear he
        go_wp2_with fail
        go_roundw
        case rel => exact ⟨k + 1, by omega, by go_num, noneK_succ HN.out HU.out HE.out, trivial⟩
        case measure => simp [intOf]; omega
    · have hkn : k = s.ts.length := by omega
      have HT : Hid (findK key s.ts = none) := Lib.hid (findK_none (by rw [← hkn]; exact HN.out))
      clear hkn
      go_wp2_with fail
      go_ret
      exact ⟨by rw [HT.out]; rfl, rfl⟩

set_option maxRecDepth 100000 in
set_option maxHeartbeats 3200000 in
theorem rident_ok (k : ByteArray) (hk : k.size ≤ 9223372036854775807) (w : World) : Calls Try.prog 35 #[.string k] w fun e w' => e = .returned (.bool (identOk k)) ∧ w = w' := by
  obtain ⟨t, ht⟩ : ∃ t, identOk k = t := ⟨_, rfl⟩
  rw [ht]
  have HT := Lib.hid ht
  clear ht
  go_enter Try.func35, Try.ntmps35
  go_wp2_with fail
  go_loopw [3] (fun i wr => ∃ j : Nat, j ≤ k.size ∧ i = .int .i64 j ∧ (∀ m x, m < j → k.data.toList[m]? = some x → okc x = true) ∧ wr = w) (fun i _ => k.size - (intOf i).toNat)
  case atStart => exact ⟨0, by omega, rfl, fun m x h => by omega, rfl⟩
  case round =>
    obtain ⟨j, hj, rfl, hok, rfl⟩ := hrel
    have HO := Lib.hid hok
    clear hok
    by_cases hlt : j < k.size
    · have hx : k.data.toList[j]? = some k[j] := by
        have hs : k.data.toList.length = k.size := by simp
        rw [List.getElem?_eq_getElem (by omega)]
        simp
        rfl
      have HX := Lib.hid hx
      clear hx
      go_wp2_with fail
      all_goals first
        | (refine ⟨⟨j + 1, by omega, by push_cast; rfl, ?_, trivial⟩, by simp [intOf]; omega⟩
           intro m x hm hxm
           by_cases e : m = j
           · subst e
             rw [HX.out] at hxm
             injection hxm with hxm
             subst hxm
             rw [okc_iff]
             clear HO HX HT
             first
               | omega
               | (simp only [bne_eq_false_iff_eq] at *
                  omega)
           · exact HO.out m x (by omega) hxm)
        | (have htf : t = false := by
             rw [← HT.out]
             unfold identOk
             rw [Bool.and_eq_false_iff]
             right
             rw [List.all_eq_false]
             refine ⟨_, List.mem_of_getElem? HX.out, ?_⟩
             rw [okc_iff]
             clear HO HT
             first
               | omega
               | (simp only [bne_iff_ne, ne_eq] at *
                  omega)
           subst htf
           go_ret
           exact ⟨rfl, rfl⟩)
    · have hall : k.data.toList.all okc = true := by
        rw [List.all_eq_true]
        intro x hx
        obtain ⟨m, hm, rfl⟩ := List.mem_iff_getElem.1 hx
        have hs : k.data.toList.length = k.size := by simp
        exact HO.out m _ (by omega) (List.getElem?_eq_getElem hm)
      have HA := Lib.hid hall
      clear hall
      by_cases h0 : k.size = 0
      · have hl : k.toList = [] := by
          have h5 : k.toList.length = k.size := by rw [ByteArray.toList_eq]; simp
          exact List.eq_nil_of_length_eq_zero (by omega)
        have hE : Hid (t = false) := Lib.hid (by
          rw [← HT.out]
          unfold identOk
          rw [decide_eq_false (by omega)]
          rfl)
        go_wp2_with fail
        go_ret
        exact ⟨by rw [hE.out]; rfl, rfl⟩
      · have hl : ¬ k.toList = [] := by
          intro e
          have h5 : k.toList.length = k.size := by rw [ByteArray.toList_eq]; simp
          rw [e] at h5
          simp at h5
          omega
        have hkc : k.toList.isEmpty = false := by cases h : k.toList with
          | nil => exact absurd h hl
          | cons x l => rfl
        by_cases h16 : k.size ≤ 16
        · have h3 : (k.size : Int) ≤ 16 := by omega
          have hE : Hid (t = true) := Lib.hid (by
            rw [← HT.out]
            unfold identOk
            rw [decide_eq_true (by omega), decide_eq_true h16, HA.out]
            rfl)
          go_wp2_with fail
          go_ret
          exact ⟨by rw [hE.out]; rfl, rfl⟩
        · have h3 : ¬ (k.size : Int) ≤ 16 := by omega
          have hE : Hid (t = false) := Lib.hid (by
            rw [← HT.out]
            unfold identOk
            rw [decide_eq_false h16]
            simp)
          go_wp2_with fail
          go_ret
          exact ⟨by rw [hE.out]; rfl, rfl⟩
end Go.Proofs.Ytmkcpgdjbbcigaa
