/-
  Velocity: walks over within, Count and Sum. Condition: the state is one that the calls make.
-/
import Derived.Test.YtieimeahppmefaaWc
namespace Go.Proofs.Ytieimeahppmefaa
open Go.RowKit
set_option linter.unusedVariables false

theorem bytes_inj {a b : ByteArray} (h : a.toList = b.toList) : a = b := by
  rw [ByteArray.toList_eq, ByteArray.toList_eq] at h
  exact ByteArray.ext (Array.toList_inj.1 h)
theorem win_yes {key : ByteArray} {a win : Int} {l : List Us} {k : Nat} (h : k < l.length) (hi : inWin key a win l[k] = true) : winL key a win (l.take (k + 1)) = winL key a win (l.take k) ++ [l[k]] := by
  rw [List.take_succ_eq_append_getElem h]
  unfold winL
  rw [List.filter_append]
  simp [hi]
theorem win_no {key : ByteArray} {a win : Int} {l : List Us} {k : Nat} (h : k < l.length) (hi : inWin key a win l[k] = false) : winL key a win (l.take (k + 1)) = winL key a win (l.take k) := by
  rw [List.take_succ_eq_append_getElem h]
  unfold winL
  rw [List.filter_append]
  simp [hi]
theorem win_len (key : ByteArray) (a win : Int) (l : List Us) : (winL key a win l).length ≤ l.length := List.length_filter_le _ _
theorem win_sum {key : ByteArray} {a win : Int} {s : VS} (o : s.Ok) (k : Nat) : 0 ≤ sumL (winL key a win (s.us.take k)) ∧ sumL (winL key a win (s.us.take k)) ≤ 1000 * 999999999999 := by
  have h := sumL_bd (winL key a win (s.us.take k)) (fun u hu => by
    have := o.each u (List.mem_of_mem_take (List.mem_filter.1 hu).1)
    exact ⟨this.2.2.1, this.2.2.2⟩)
  have h2 := win_len key a win (s.us.take k)
  have h3 : (s.us.take k).length ≤ 1000 := by rw [List.length_take]; have := o.len; omega
  have h4 : ((winL key a win (s.us.take k)).length : Int) * maxAm ≤ 1000 * maxAm := Int.mul_le_mul_of_nonneg_right (by omega) (by decide)
  unfold maxAm at h h4
  omega

set_option maxHeartbeats 800000 in
theorem within_yes (B p : Nat) (s : VS) (o : s.Ok) (key : ByteArray) (a win : Int) (w : World) (r : VRep w B p s) (h : winOk s a win) :
    Calls Try.prog 28 #[.pointer (some ⟨p, 0, none⟩), .string key, .int .i64 a, .int .i64 win] w fun e w' => e = .returned (.tuple #[.int .i64 (winL key a win s.us).length, .int .i64 (sumL (winL key a win s.us))]) ∧ Below w.heap.size w w' := by
  obtain ⟨hBp, A, c, B0, hown⟩ := r
  have HO := Lib.hid hown
  have c0 := fun (n : Up w) => blk3_c0 (B0.call n.2)
  have c2 := blk3_c2 B0
  have c0' := blk3_c0 B0
  obtain ⟨h1, h2, h3⟩ := h
  have o1 := o.h1; have o2 := o.h2; have o3 := o.len
  have h3' := h3
  obtain ⟨h4, h5⟩ := h3'
  unfold maxTime at h5
  have d1 : decide (win < 1) = false := by simp; omega
  have d2 : decide (s.h < win) = false := by simp; omega
  clear hown
  go_enter Try.func28, Try.ntmps28
  go_wp2_with (first | (go_at_call 25; refine (isTime_yes _ _ h3).mono ?_; rintro e w' ⟨rfl, rfl⟩))
  go_loopw [10, 11, 38] (fun n z i wr => ∃ k : Nat, k ≤ s.us.length ∧ i = .int .i64 k ∧ n = .int .i64 ((winL key a win (s.us.take k)).length : Nat) ∧ z = .int .i64 (sumL (winL key a win (s.us.take k))) ∧ Below w.heap.size w wr) (fun _ _ i _ => s.us.length - (intOf i).toNat)
  case atStart => exact ⟨0, by omega, rfl, by simp [winL], by simp [winL, sumL], Below.refl _ _⟩
  case round =>
    obtain ⟨k, hk, rfl, rfl, rfl, hb⟩ := hrel
    have hsum := win_sum (key := key) (a := a) (win := win) o k
    have hlen : (winL key a win (s.us.take k)).length ≤ 1000 := Nat.le_trans (win_len _ _ _ _) (by rw [List.length_take]; omega)
    by_cases hlt : k < s.us.length
    · obtain ⟨g, rfl, hBg, hg, _, hcell, _⟩ := own_cells HO.out (by omega)
      have hu : s.us[k]? = some s.us[k] := List.getElem?_eq_getElem hlt
      have g0 := (hb.cell (p := ⟨g, k * 3, none⟩) hg).trans (hcell (k * 3) (.string s.us[k].key) (by have := at3 usC usC3 s.us k _ 0 hu (by decide); simpa [usC] using this))
      have g1 := (hb.cell (p := ⟨g, k * 3 + 1, none⟩) hg).trans (hcell (k * 3 + 1) (.int .i64 s.us[k].at_) (by rw [at3 usC usC3 s.us k _ 1 hu (by decide)]; rfl))
      have g2 := (hb.cell (p := ⟨g, k * 3 + 2, none⟩) hg).trans (hcell (k * 3 + 2) (.int .i64 s.us[k].am) (by rw [at3 usC usC3 s.us k _ 2 hu (by decide)]; rfl))
      have hex := o.each _ (List.getElem_mem hlt)
      have hmx : s.us[k].am ≤ 999999999999 := hex.2.2.2
      obtain ⟨x1, x2, x3, x4⟩ := hex
      have hz := hb.size
      have hy := win_yes (key := key) (a := a) (win := win) hlt
      have hn := win_no (key := key) (a := a) (win := win) hlt
      generalize s.us[k] = u at g0 g1 g2 hmx x1 x2 x3 x4 hy hn
      obtain ⟨uk, ua, um⟩ := u
      have HY := Lib.hid hy
      have HN := Lib.hid hn
      clear hcell hu c0 c2 c0' B0 x4 hy hn
      simp only at g0 g1 g2 hmx x1 x2 x3
      by_cases hke : uk = key
      · subst hke
        by_cases hw1 : a - win < ua
        · by_cases hw2 : ua ≤ a
          · have HW := Lib.hid (HY.out (by unfold inWin; simp [hw1, hw2]))
            clear HY HN
            go_wp2_with fail
            go_roundw
            case rel => exact ⟨k + 1, by omega, by go_num, by rw [HW.out, List.length_append]; rfl, by rw [HW.out, sumL_snoc], hb.alloc hz _⟩
            case measure => simp [intOf]; omega
          · have HW := Lib.hid (HN.out (by unfold inWin; simp [hw1, hw2]))
            clear HY HN
            go_wp2_with fail
            go_roundw
            case rel => exact ⟨k + 1, by omega, by go_num, by rw [HW.out], by rw [HW.out], hb.alloc hz _⟩
            case measure => simp [intOf]; omega
        · have HW := Lib.hid (HN.out (by unfold inWin; simp [hw1]))
          clear HY HN
          go_wp2_with fail
          go_roundw
          case rel => exact ⟨k + 1, by omega, by go_num, by rw [HW.out], by rw [HW.out], hb.alloc hz _⟩
          case measure => simp [intOf]; omega
      · have hkl : ¬ uk.toList = key.toList := fun h => hke (bytes_inj h)
        have HW := Lib.hid (HN.out (by unfold inWin; simp [hke]))
        clear HY HN
        go_wp2_with fail
        go_roundw
        case rel => exact ⟨k + 1, by omega, by go_num, by rw [HW.out], by rw [HW.out], hb.alloc hz _⟩
        case measure => simp [intOf]; omega
    · have hkn : k = s.us.length := by omega
      have HT : Hid (s.us.take k = s.us) := Lib.hid (by rw [hkn, List.take_length])
      clear hkn
      go_wp2_with fail
      go_ret2
      exact ⟨by rw [HT.out]; rfl, hb⟩
end Go.Proofs.Ytieimeahppmefaa
