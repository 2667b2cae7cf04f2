/-
  Exchange: walks over SameTexts, key and awake. Condition: the number of the key is below 64.
-/
import Derived.Test.YtgacpkbpbckgiaaWi
import Derived.Laws.IdiomStrings
namespace Go.Proofs.Ytgacpkbpbckgiaa
open Go.RowKit
set_option linter.unusedVariables false

set_option maxHeartbeats 800000 in
theorem same_ok (A : Option Addr) (n c : Nat) (xs : List ByteArray) (A' : Option Addr) (n' c' : Nat) (ys : List ByteArray) (hn : n ≤ 9223372036854775807) (w : World) (hx : RD w A n (xs.map Value.string)) (hy : RD w A' n' (ys.map Value.string)) :
    Calls Try.prog 17 #[.slice A n c, .slice A' n' c'] w fun e w' => e = .returned (.bool (decide (xs = ys))) ∧ Below w.heap.size w w' := by
  have lx : xs.length = n := by simpa using hx.1
  have ly : ys.length = n' := by simpa using hy.1
  by_cases hnn : n = n'
  · subst hnn
    have LX := Lib.hid lx
    have LY := Lib.hid ly
    have HX := Lib.hid hx
    have HY := Lib.hid hy
    clear lx ly hx hy
    go_enter Try.func17, Try.ntmps17
    go_wp2_with fail
    go_loopw [5] (fun i wr => ∃ k : Nat, k ≤ n ∧ i = .int .i64 k ∧ (∀ j, j < k → xs[j]? = ys[j]?) ∧ Below w.heap.size w wr) (fun i _ => n - (intOf i).toNat)
    case atStart => exact ⟨0, by omega, rfl, fun j h => by omega, Below.refl _ _⟩
    case round =>
      obtain ⟨k, hk, rfl, hall, hb⟩ := hrel
      have HA := Lib.hid hall
      have HB := Lib.hid hb
      clear hall hb
      by_cases hlt : k < n
      · have ex : xs[k]? = some (xs[k]'(by rw [LX.out]; exact hlt)) := List.getElem?_eq_getElem _
        have ey : ys[k]? = some (ys[k]'(by rw [LY.out]; exact hlt)) := List.getElem?_eq_getElem _
        obtain ⟨b1, o1, rfl, l1, c1⟩ := (HX.out.keep HB.out).2 (by omega)
        obtain ⟨b2, o2, rfl, l2, c2⟩ := (HY.out.keep HB.out).2 (by omega)
        have d1 := fun q : Cls (UpC wr) => (Below.cell q.2 (p := ⟨b1, o1 + k, none⟩) l1).trans (c1 k (.string (xs[k]'(by rw [LX.out]; exact hlt))) (by rw [List.getElem?_map, ex]; rfl))
        have d2 := fun q : Cls (UpC wr) => (Below.cell q.2 (p := ⟨b2, o2 + k, none⟩) l2).trans (c2 k (.string (ys[k]'(by rw [LY.out]; exact hlt))) (by rw [List.getElem?_map, ey]; rfl))
        clear c1 c2
        have EX := Lib.hid ex
        have EY := Lib.hid ey
        clear ex ey
        generalize (xs[k]'(by rw [LX.out]; exact hlt)) = x at d1 EX
        generalize (ys[k]'(by rw [LY.out]; exact hlt)) = y at d2 EY
        by_cases he : x.toList = y.toList
        · have hbq : (x.toList == y.toList) = true := by simpa using he
          have HE := Lib.hid he
          clear he
          go_wp2_with fail
          rename_i K0 hKK
          refine wp_region_reg (UpC wr) 9 rfl (by kernel_rfl) ?_
          have T : UpC wr wr.drew := (Below.refl _ _).drew
          haveI : Nonempty (Cls (UpC wr)) := ⟨⟨_, T⟩⟩
          refine reg_seg (f := 0) (by kernel_rfl) [0, 1, 2, 3, 4, 5, 6, 7, 8] _ _ _ T (by kernel_rfl) ?_
          simp only [pickL, List.filterMap_cons, List.filterMap_nil, List.getElem?_toArray, List.getElem?_cons_zero, List.getElem?_cons_succ]
          show wpQuiet _ _ _ _ [_, _, _, _, _, _, _, _, _] _
          repeat (go_big_quiet_step (fail))
          refine wpQuiet_nil ?_
          refine reg_end (by kernel_rfl) ?_
          refine hKK _ _ ?_
          clear T d1 d2
          go_wp2_with fail
          go_roundw
          case rel =>
            refine ⟨k + 1, by omega, by go_num, fun j hj => ?_, HB.out.drew⟩
            by_cases e : j = k
            · subst e
              rw [EX.out, EY.out, bytes_inj HE.out]
            · exact HA.out j (by omega)
          case measure => simp [intOf]; omega
        · have hbq : (x.toList == y.toList) = false := by simpa using he
          have HE := Lib.hid he
          clear he
          go_wp2_with fail
          rename_i K0 hKK
          refine wp_region_reg (UpC wr) 9 rfl (by kernel_rfl) ?_
          have T : UpC wr wr.drew := (Below.refl _ _).drew
          haveI : Nonempty (Cls (UpC wr)) := ⟨⟨_, T⟩⟩
          refine reg_seg (f := 0) (by kernel_rfl) [0, 1, 2, 3, 4, 5, 6, 7, 8] _ _ _ T (by kernel_rfl) ?_
          simp only [pickL, List.filterMap_cons, List.filterMap_nil, List.getElem?_toArray, List.getElem?_cons_zero, List.getElem?_cons_succ]
          show wpQuiet _ _ _ _ [_, _, _, _, _, _, _, _, _] _
          repeat (go_big_quiet_step (fail))
          refine wpQuiet_nil ?_
          refine reg_end (by kernel_rfl) ?_
          refine hKK _ _ ?_
          clear T d1 d2
          go_wp2_with fail
          go_ret
          refine ⟨?_, HB.out.drew⟩
          have : ¬ xs = ys := by
            intro e
            have h1 := EX.out
            rw [e, EY.out] at h1
            injection h1 with h1
            exact HE.out (by rw [h1])
          rw [decide_eq_false this]
          rfl
      · go_wp2_with fail
        go_ret
        refine ⟨?_, HB.out⟩
        have : xs = ys := by
          refine List.ext_getElem? fun j => ?_
          by_cases hj : j < n
          · exact HA.out j (by omega)
          · rw [List.getElem?_eq_none (by rw [LX.out]; omega), List.getElem?_eq_none (by rw [LY.out]; omega)]
        rw [decide_eq_true this]
        rfl
  · have hne : ¬ xs = ys := fun e => hnn (by rw [← lx, ← ly, e])
    have n1 : ¬ (n : Int) = n' := by omega
    rw [decide_eq_false hne]
    clear hx hy hne
    go_enter Try.func17, Try.ntmps17
    go_wp2_with fail
    go_ret
    exact ⟨rfl, Below.refl _ _⟩

def dg (n : Nat) : UInt8 := UInt8.ofNat (48 + n)
def digL (i : Nat) : List UInt8 := [dg (i / 8 % 8), dg (i % 8)]
def keyB (i : Nat) : ByteArray := ⟨#[107, dg (i / 8 % 8), dg (i % 8)]⟩
theorem dg_nat {n : Nat} (h : n < 10) : ((dg n).toNat : Int) = 48 + n := by
  unfold dg
  rw [UInt8.toNat_ofNat']
  omega
theorem dg_inj {a b : Nat} (ha : a < 10) (hb : b < 10) (h : dg a = dg b) : a = b := by
  have h1 := dg_nat ha
  have h2 := dg_nat hb
  rw [h, h2] at h1
  omega
theorem keyB_inj {i j : Nat} (hi : i < 64) (hj : j < 64) (h : keyB i = keyB j) : i = j := by
  unfold keyB at h
  simp at h
  obtain ⟨h1, h2⟩ := h
  have := dg_inj (by omega) (by omega) h1
  have := dg_inj (by omega) (by omega) h2
  omega
theorem keyB_size (i : Nat) : (keyB i).size = 3 := rfl
theorem key_any (i : Nat) (hi : i < 64) (w : World) : Calls Try.prog 28 #[.int .i64 i] w fun e w' => e = .returned (.string (keyB i)) ∧ Below w.heap.size w w' := by
  have B0 := Blk.new w 5 #[.int .u8 (48 + (i : Int) / 8 % 8), .int .u8 (48 + (i : Int) % 8)]
  have hcv : (convert 59 9 (.slice (some ⟨w.heap.size, 0, none⟩) 2 2)).run Try.prog (w.alloc (.cells #[.int .u8 (48 + (i : Int) / 8 % 8), .int .u8 (48 + (i : Int) % 8)] 5)) = .ok (.string ⟨(digL i).toArray⟩) (w.alloc (.cells #[.int .u8 (48 + (i : Int) / 8 % 8), .int .u8 (48 + (i : Int) % 8)] 5)) := by
    have h := run_convert_bytes_back (P := Try.prog) (w.alloc (.cells #[.int .u8 (48 + (i : Int) / 8 % 8), .int .u8 (48 + (i : Int) % 8)] 5)) 59 9 5 ⟨w.heap.size, 0, none⟩ 2 (digL i) Try.underlying59 Try.underlying5 Try.underlying9 (fun j hj => by
      rw [Addr.add_lit, Nat.zero_add]
      refine B0.c j _ ?_
      have d1 := dg_nat (n := i / 8 % 8) (by omega)
      have d2 := dg_nat (n := i % 8) (by omega)
      match j, hj with
      | 0, _ => show some _ = some (Value.int .u8 ((dg (i / 8 % 8)).toNat : Int)); rw [d1]; rfl
      | 1, _ => show some _ = some (Value.int .u8 ((dg (i % 8)).toNat : Int)); rw [d2]; rfl
      | j + 2, h => simp [digL] at h; omega)
    exact h
  clear B0
  go_enter Try.func28, Try.ntmps28
  go_wp2
  go_ret
  exact ⟨rfl, (Below.refl _ _).alloc (Nat.le_refl _) _⟩
end Go.Proofs.Ytgacpkbpbckgiaa
