/-
  Timer: Due in one form; walks over the nil receivers, same, name and awake. Condition: the state is one that the calls make.
-/
import Derived.Test.YtmkcpgdjbbcigaaWj
import Derived.Laws.IdiomStrings
namespace Go.Proofs.Ytmkcpgdjbbcigaa
open Go.RowKit
set_option linter.unusedVariables false

theorem due_any (B p : Nat) (s : TS) (u : Int) (hl : s.ts.length < 1000) (w : World) (hBw : B ≤ w.heap.size) (r : TRep w B p s) :
    Calls Try.prog 19 #[.pointer (some ⟨p, 0, none⟩), .int .i64 u] w (DueRet B p s u w) := by
  by_cases h : u < s.now
  · exact due_past B p s u h w r
  · exact due_now B p s u h hl w hBw r

/-! ### A nil set -/
theorem set_nil (k : ByteArray) (a : Int) (w : World) : Calls Try.prog 12 #[.pointer none, .string k, .int .i64 a] w fun e w' => e = .returned (.int .i64 6) ∧ w = w' := by
  go_enter Try.func12, Try.ntmps12
  go_wp2
  go_ret
  exact ⟨rfl, rfl⟩
theorem move_nil (k : ByteArray) (a : Int) (w : World) : Calls Try.prog 14 #[.pointer none, .string k, .int .i64 a] w fun e w' => e = .returned (.int .i64 6) ∧ w = w' := by
  go_enter Try.func14, Try.ntmps14
  go_wp2
  go_ret
  exact ⟨rfl, rfl⟩
theorem cancel_nil (k : ByteArray) (w : World) : Calls Try.prog 16 #[.pointer none, .string k] w fun e w' => e = .returned (.int .i64 6) ∧ w = w' := by
  go_enter Try.func16, Try.ntmps16
  go_wp2
  go_ret
  exact ⟨rfl, rfl⟩
theorem due_nil (u : Int) (w : World) : Calls Try.prog 19 #[.pointer none, .int .i64 u] w fun e w' => e = .returned (.slice none 0 0) ∧ w = w' := by
  go_enter Try.func19, Try.ntmps19
  go_wp2
  go_ret
  exact ⟨rfl, rfl⟩
theorem at_nil (k : ByteArray) (w : World) : Calls Try.prog 21 #[.pointer none, .string k] w fun e w' => e = .returned (.tuple #[.int .i64 0, .bool false]) ∧ w = w' := by
  go_enter Try.func21, Try.ntmps21
  go_wp2
  go_ret2
  exact ⟨rfl, rfl⟩
theorem next_nil (w : World) : Calls Try.prog 23 #[.pointer none] w fun e w' => e = .returned (.tuple #[.int .i64 0, .bool false]) ∧ w = w' := by
  go_enter Try.func23, Try.ntmps23
  go_wp2
  go_ret2
  exact ⟨rfl, rfl⟩
theorem now_nil (w : World) : Calls Try.prog 25 #[.pointer none] w fun e w' => e = .returned (.int .i64 0) ∧ w = w' := by
  go_enter Try.func25, Try.ntmps25
  go_wp2
  go_ret
  exact ⟨rfl, rfl⟩
theorem len_nil (w : World) : Calls Try.prog 27 #[.pointer none] w fun e w' => e = .returned (.int .i64 0) ∧ w = w' := by
  go_enter Try.func27, Try.ntmps27
  go_wp2
  go_ret
  exact ⟨rfl, rfl⟩

/-! ### same -/
theorem bytes_inj {a b : ByteArray} (h : a.toList = b.toList) : a = b := by
  rw [ByteArray.toList_eq, ByteArray.toList_eq] at h
  exact ByteArray.ext (Array.toList_inj.1 h)
theorem RD.of_rowL {w : World} {base : Nat} {e : TypeId} {n c : Nat} {A : Option Addr} {xs : List Value} (h : rowL w base e 1 A n c xs) : RD w A n xs := by
  refine ⟨by have := h.1; omega, fun hn => ?_⟩
  obtain ⟨g, rfl, _, hlt, hc, _⟩ := h.cells hn
  exact ⟨g, 0, rfl, hlt, fun j u hu => by rw [Nat.zero_add]; exact hc j u hu⟩
set_option maxHeartbeats 800000 in
theorem same_ok (A : Option Addr) (n c : Nat) (xs : List ByteArray) (A' : Option Addr) (n' c' : Nat) (ys : List ByteArray) (hn : n ≤ 9223372036854775807) (w : World) (hx : RD w A n (xs.map Value.string)) (hy : RD w A' n' (ys.map Value.string)) :
    Calls Try.prog 18 #[.slice A n c, .slice A' n' c'] w fun e w' => e = .returned (.bool (decide (xs = ys))) ∧ Below w.heap.size w w' := by
  have lx : xs.length = n := by simpa using hx.1
  have ly : ys.length = n' := by simpa using hy.1
  by_cases hnn : n = n'
  · subst hnn
    have LX := Lib.hid lx
    have LY := Lib.hid ly
    have HX := Lib.hid hx
    have HY := Lib.hid hy
    clear lx ly hx hy
    go_enter Try.func18, Try.ntmps18
    go_wp2_with fail
    go_loopw [5] (fun i wr => ∃ k : Nat, k ≤ n ∧ i = .int .i64 k ∧ (∀ j, j < k → xs[j]? = ys[j]?) ∧ Below w.heap.size w wr) (fun i _ => n - (intOf i).toNat)
    case atStart => exact ⟨0, by omega, rfl, fun j h => by omega, Below.refl _ _⟩
    case round =>
      obtain ⟨k, hk, rfl, hall, hb⟩ := hrel
      have HA := Lib.hid hall
      have HB := Lib.hid hb
      clear hall hb
      by_cases hlt : k < n
      · have ex : xs[k]? = some (xs[k]'(by rw [LX.out]; exact hlt)) := List.getElem?_eq_getElem _
        have ey : ys[k]? = some (ys[k]'(by rw [LY.out]; exact hlt)) := List.getElem?_eq_getElem _
        obtain ⟨b1, o1, rfl, l1, c1⟩ := (HX.out.keep HB.out).2 (by omega)
        obtain ⟨b2, o2, rfl, l2, c2⟩ := (HY.out.keep HB.out).2 (by omega)
        have d1 := fun q : Cls (UpC wr) => (Below.cell q.2 (p := ⟨b1, o1 + k, none⟩) l1).trans (c1 k (.string (xs[k]'(by rw [LX.out]; exact hlt))) (by rw [List.getElem?_map, ex]; rfl))
        have d2 := fun q : Cls (UpC wr) => (Below.cell q.2 (p := ⟨b2, o2 + k, none⟩) l2).trans (c2 k (.string (ys[k]'(by rw [LY.out]; exact hlt))) (by rw [List.getElem?_map, ey]; rfl))
        clear c1 c2
        have EX := Lib.hid ex
        have EY := Lib.hid ey
        clear ex ey
        generalize (xs[k]'(by rw [LX.out]; exact hlt)) = x at d1 EX
        generalize (ys[k]'(by rw [LY.out]; exact hlt)) = y at d2 EY
        by_cases he : x.toList = y.toList
        · have hbq : (x.toList == y.toList) = true := by simpa using he
          have HE := Lib.hid he
          clear he
          go_wp2_with fail
          rename_i K0 hKK
          refine wp_region_reg (UpC wr) 9 rfl (by kernel_rfl) ?_
          have T : UpC wr wr.drew := (Below.refl _ _).drew
          haveI : Nonempty (Cls (UpC wr)) := ⟨⟨_, T⟩⟩
          refine reg_seg (f := 0) (by kernel_rfl) [0, 1, 2, 3, 4, 5, 6, 7, 8] _ _ _ T (by kernel_rfl) ?_
          simp only [pickL, List.filterMap_cons, List.filterMap_nil, List.getElem?_toArray, List.getElem?_cons_zero, List.getElem?_cons_succ]
          show wpQuiet _ _ _ _ [_, _, _, _, _, _, _, _, _] _
          repeat (go_big_quiet_step (fail))
          refine wpQuiet_nil ?_
          refine reg_end (by kernel_rfl) ?_
          refine hKK _ _ ?_
          clear T d1 d2
          go_wp2_with fail
          go_roundw
          case rel =>
            refine ⟨k + 1, by omega, by go_num, fun j hj => ?_, HB.out.drew⟩
            by_cases e : j = k
            · subst e
              rw [EX.out, EY.out, bytes_inj HE.out]
            · exact HA.out j (by omega)
          case measure => simp [intOf]; omega
        · have hbq : (x.toList == y.toList) = false := by simpa using he
          have HE := Lib.hid he
          clear he
          go_wp2_with fail
          rename_i K0 hKK
          refine wp_region_reg (UpC wr) 9 rfl (by kernel_rfl) ?_
          have T : UpC wr wr.drew := (Below.refl _ _).drew
          haveI : Nonempty (Cls (UpC wr)) := ⟨⟨_, T⟩⟩
          refine reg_seg (f := 0) (by kernel_rfl) [0, 1, 2, 3, 4, 5, 6, 7, 8] _ _ _ T (by kernel_rfl) ?_
          simp only [pickL, List.filterMap_cons, List.filterMap_nil, List.getElem?_toArray, List.getElem?_cons_zero, List.getElem?_cons_succ]
          show wpQuiet _ _ _ _ [_, _, _, _, _, _, _, _, _] _
          repeat (go_big_quiet_step (fail))
          refine wpQuiet_nil ?_
          refine reg_end (by kernel_rfl) ?_
          refine hKK _ _ ?_
          clear T d1 d2
          go_wp2_with fail
          go_ret
          refine ⟨?_, HB.out.drew⟩
          have : ¬ xs = ys := by
            intro e
            have h1 := EX.out
            rw [e, EY.out] at h1
            injection h1 with h1
            exact HE.out (by rw [h1])
          rw [decide_eq_false this]
          rfl
      · go_wp2_with fail
        go_ret
        refine ⟨?_, HB.out⟩
        have : xs = ys := by
          refine List.ext_getElem? fun j => ?_
          by_cases hj : j < n
          · exact HA.out j (by omega)
          · rw [List.getElem?_eq_none (by rw [LX.out]; omega), List.getElem?_eq_none (by rw [LY.out]; omega)]
        rw [decide_eq_true this]
        rfl
  · have hne : ¬ xs = ys := fun e => hnn (by rw [← lx, ← ly, e])
    have n1 : ¬ (n : Int) = n' := by omega
    rw [decide_eq_false hne]
    clear hx hy hne
    go_enter Try.func18, Try.ntmps18
    go_wp2_with fail
    go_ret
    exact ⟨rfl, Below.refl _ _⟩
end Go.Proofs.Ytmkcpgdjbbcigaa
