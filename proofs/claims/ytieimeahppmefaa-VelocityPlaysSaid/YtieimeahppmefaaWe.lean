/-
  Velocity: walks over Count, Sum, Last, Remove, Forget, Len and New. Condition: the state is one that the calls make.
-/
import Derived.Test.YtieimeahppmefaaWd
namespace Go.Proofs.Ytieimeahppmefaa
open Go.RowKit
set_option linter.unusedVariables false

theorem eq56 (k1 k2 : ByteArray) (a1 a2 m1 m2 : Int) (w : World) : (Op.equalIn 10000 56 (.agg #[.string k1, .int .i64 a1, .int .i64 m1]) (.agg #[.string k2, .int .i64 a2, .int .i64 m2])).run Try.prog w = .ok (decide ((⟨k1, a1, m1⟩ : Us) = ⟨k2, a2, m2⟩)) w := by
  unfold Op.equalIn
  simp [run_underlying Try.underlying56, go_sem]
  by_cases h1 : k1 = k2
  · subst h1
    by_cases h2 : a1 = a2 <;> by_cases h3 : m1 = m2 <;> simp [h2, h3]
  · have h4 : ¬ k1.toList = k2.toList := fun h => h1 (bytes_inj h)
    simp [h1, h4]
theorem new_no (h : Int) (w : World) (hh : h < 1 ∨ 10000000 < h) : Calls Try.prog 7 #[.int .i64 h] w fun e w' => e = .returned (.tuple #[.pointer none, .int .i64 4]) ∧ w = w' := by
  rcases hh with hh | hh
  · go_enter Try.func7, Try.ntmps7
    go_wp2
    go_ret2
    exact ⟨rfl, rfl⟩
  · have h2 : ¬ h < 1 := by omega
    go_enter Try.func7, Try.ntmps7
    go_wp2
    go_ret2
    exact ⟨rfl, rfl⟩
theorem new_yes (h : Int) (w : World) (h1 : 1 ≤ h) (h2 : h ≤ 10000000) : Calls Try.prog 7 #[.int .i64 h] w fun e w' => e = .returned (.tuple #[.pointer (some ⟨w.heap.size, 0, none⟩), .int .i64 0]) ∧ VRep w' w.heap.size w.heap.size ⟨h, 0, []⟩ ∧ Below w.heap.size w w' := by
  go_enter Try.func7, Try.ntmps7
  go_wp2
  go_ret2
  refine ⟨rfl, ⟨Nat.le_refl _, none, 0, Blk.new _ _ _, World.ownsRow_nil _ _ _ _⟩, (Below.refl _ _).alloc (Nat.le_refl _) _⟩

theorem within_no (B p : Nat) (s : VS) (key : ByteArray) (a win : Int) (w : World) (r : VRep w B p s) (h : ¬ winOk s a win) :
    Calls Try.prog 28 #[.pointer (some ⟨p, 0, none⟩), .string key, .int .i64 a, .int .i64 win] w fun e w' => e = .returned (.tuple #[.int .i64 0, .int .i64 0]) ∧ w = w' := by
  obtain ⟨hBp, A, c, B0, hown⟩ := r
  have c0 := blk3_c0 B0
  unfold winOk at h
  by_cases h1 : 1 ≤ win
  · have d1 : decide (win < 1) = false := by simp; omega
    by_cases h2 : win ≤ s.h
    · have d2 : decide (s.h < win) = false := by simp; omega
      have h3 : ¬ isT a := fun g => h ⟨h1, h2, g⟩
      go_enter Try.func28, Try.ntmps28
      go_wp2_with (first | (go_at_call 25; refine (isTime_no _ _ h3).mono ?_; rintro e w' ⟨rfl, rfl⟩))
      go_ret2
      exact ⟨rfl, rfl⟩
    · have d2 : decide (s.h < win) = true := by simp; omega
      clear h
      go_enter Try.func28, Try.ntmps28
      go_wp2_with fail
      go_ret2
      exact ⟨rfl, rfl⟩
  · have d1 : decide (win < 1) = true := by simp; omega
    clear h
    go_enter Try.func28, Try.ntmps28
    go_wp2_with fail
    go_ret2
    exact ⟨rfl, rfl⟩
theorem within_any (B p : Nat) (s : VS) (o : s.Ok) (key : ByteArray) (a win : Int) (w : World) (r : VRep w B p s) :
    Calls Try.prog 28 #[.pointer (some ⟨p, 0, none⟩), .string key, .int .i64 a, .int .i64 win] w fun e w' => e = .returned (.tuple #[.int .i64 (cntN s key a win), .int .i64 (sumN s key a win)]) ∧ Below w.heap.size w w' := by
  unfold cntN sumN
  by_cases h : winOk s a win
  · rw [if_pos h, if_pos h]
    exact within_yes B p s o key a win w r h
  · rw [if_neg h, if_neg h]
    exact (within_no B p s key a win w r h).mono fun e w' ⟨he, hw⟩ => ⟨he, hw ▸ Below.refl _ _⟩
theorem count_any (B p : Nat) (s : VS) (o : s.Ok) (key : ByteArray) (a win : Int) (w : World) (r : VRep w B p s) :
    Calls Try.prog 11 #[.pointer (some ⟨p, 0, none⟩), .string key, .int .i64 a, .int .i64 win] w fun e w' => e = .returned (.int .i64 (cntN s key a win)) ∧ Below w.heap.size w w' := by
  go_enter Try.func11, Try.ntmps11
  go_wp2_with (go_at_call 28; refine (within_any B p s o key a win _ r).mono ?_; rintro e w' ⟨rfl, hb⟩)
  go_ret
  exact ⟨rfl, hb⟩
theorem sum_any (B p : Nat) (s : VS) (o : s.Ok) (key : ByteArray) (a win : Int) (w : World) (r : VRep w B p s) :
    Calls Try.prog 12 #[.pointer (some ⟨p, 0, none⟩), .string key, .int .i64 a, .int .i64 win] w fun e w' => e = .returned (.int .i64 (sumN s key a win)) ∧ Below w.heap.size w w' := by
  go_enter Try.func12, Try.ntmps12
  go_wp2_with (go_at_call 28; refine (within_any B p s o key a win _ r).mono ?_; rintro e w' ⟨rfl, hb⟩)
  go_ret
  exact ⟨rfl, hb⟩
theorem len_any (B p : Nat) (s : VS) (w : World) (r : VRep w B p s) :
    Calls Try.prog 13 #[.pointer (some ⟨p, 0, none⟩)] w fun e w' => e = .returned (.int .i64 (s.us.length : Nat)) ∧ w = w' := by
  obtain ⟨hBp, A, c, B0, hown⟩ := r
  have c2 := blk3_c2 B0
  go_enter Try.func13, Try.ntmps13
  go_wp2
  go_ret
  exact ⟨rfl, rfl⟩

theorem last_eq {key : ByteArray} {l : List Us} {j : Nat} (h : j < l.length) : lastAt key l (j + 1) = if (l[j]).key = key then some (l[j]).at_ else lastAt key l j := by
  rw [lastAt, List.getElem?_eq_getElem h]
set_option maxHeartbeats 400000 in
theorem last_any (B p : Nat) (s : VS) (o : s.Ok) (key : ByteArray) (w : World) (r : VRep w B p s) :
    Calls Try.prog 14 #[.pointer (some ⟨p, 0, none⟩), .string key] w fun e w' => e = .returned (.tuple #[.int .i64 (lasN s key), .bool (lasB s key)]) ∧ w = w' := by
  obtain ⟨hBp, A, c, B0, hown⟩ := r
  have HO := Lib.hid hown
  have c2 := blk3_c2 B0
  have o3 := o.len
  clear hown
  go_enter Try.func14, Try.ntmps14
  go_wp2_with fail
  go_loopw [6] (fun i wr => ∃ k : Nat, k ≤ s.us.length ∧ i = .int .i64 ((k : Int) - 1) ∧ lastAt key s.us s.us.length = lastAt key s.us k ∧ wr = w) (fun i _ => (intOf i + 1).toNat)
  case atStart => exact ⟨s.us.length, Nat.le_refl _, rfl, rfl, rfl⟩
  case round =>
    obtain ⟨k, hk, rfl, hL, rfl⟩ := hrel
    have HL := Lib.hid hL
    clear hL
    cases k with
    | zero =>
      rw [show (((0 : Nat) : Int) - 1) = -1 from rfl]
      go_wp2_with fail
      go_ret2
      exact ⟨by unfold lasN lasB; rw [HL.out]; rfl, rfl⟩
    | succ j =>
      rw [show (((j + 1 : Nat) : Int) - 1) = (j : Int) by omega]
      have hlt : j < s.us.length := by omega
      obtain ⟨g, rfl, hBg, hg, _, hcell, _⟩ := own_cells HO.out (by omega)
      have hu : s.us[j]? = some s.us[j] := List.getElem?_eq_getElem hlt
      have g0 := hcell (j * 3) (.string s.us[j].key) (by have := at3 usC usC3 s.us j _ 0 hu (by decide); simpa [usC] using this)
      have g1 := hcell (j * 3 + 1) (.int .i64 s.us[j].at_) (by rw [at3 usC usC3 s.us j _ 1 hu (by decide)]; rfl)
      have HE := Lib.hid (last_eq (key := key) hlt)
      clear hcell hu
      generalize s.us[j] = u at g0 g1 HE
      obtain ⟨uk, ua, um⟩ := u
      simp only at g0 g1
      by_cases hke : uk = key
      · subst hke
        have HF : Hid (lastAt uk s.us (j + 1) = some ua) := Lib.hid (by rw [HE.out, if_pos rfl])
        go_wp2_with fail
        go_ret2
        exact ⟨by unfold lasN lasB; rw [HL.out, HF.out]; rfl, rfl⟩
      · have hkl : ¬ uk.toList = key.toList := fun h => hke (bytes_inj h)
        have hkb : (uk.toList == key.toList) = false := by simpa using hkl
        have HF : Hid (lastAt key s.us (j + 1) = lastAt key s.us j) := Lib.hid (by rw [HE.out, if_neg hke])
        go_wp2_with fail
        go_roundw
        case rel => exact ⟨j, by omega, rfl, by rw [HL.out, HF.out], trivial⟩
        case measure => simp [intOf]

/-- What a call of Remove leaves. -/
def RemRet (B p : Nat) (s : VS) (u : Us) (w : World) (e : Ending) (w' : World) : Prop :=
  e = .returned (.int .i64 (remE s u)) ∧ VRep w' B p (remS s u) ∧ Turn B [52, 56] false w w'
theorem ix_eq {u : Us} {l : List Us} {j : Nat} (h : j < l.length) : lastIx u l (j + 1) = if l[j] = u then some j else lastIx u l j := by
  rw [lastIx, List.getElem?_eq_getElem h]
  simp
theorem remS_cut {s : VS} {u : Us} {j : Nat} (h : lastIx u s.us s.us.length = some j) : remS s u = Cut s j 1 := by
  unfold remS Cut
  rw [h]
  simp only
  rw [List.eraseIdx_eq_take_drop_succ]
theorem remove_1 (B p : Nat) (s : VS) (hl : s.us.length ≤ 1000) (i : Nat) (hi : i + 1 ≤ s.us.length) (w : World) (hBw : B ≤ w.heap.size) (r : VRep w B p s) :
    Calls Try.prog 27 #[.pointer (some ⟨p, 0, none⟩), .int .i64 i, .int .i64 1] w fun e w' => e = .returned (.tuple #[]) ∧ VRep w' B p (Cut s i 1) ∧ Turn B [52, 56] false w w' :=
  remove_any B p s hl i 1 hi w hBw r
set_option maxHeartbeats 400000 in
theorem rem_any (B p : Nat) (s : VS) (o : s.Ok) (key : ByteArray) (a am : Int) (w : World) (hBw : B ≤ w.heap.size) (r : VRep w B p s) :
    Calls Try.prog 15 #[.pointer (some ⟨p, 0, none⟩), .string key, .int .i64 a, .int .i64 am] w (RemRet B p s ⟨key, a, am⟩ w) := by
  have r' := r
  obtain ⟨hBp, A, c, B0, hown⟩ := r'
  have HO := Lib.hid hown
  have c2 := blk3_c2 B0
  have o3 := o.len
  have heq := eq56
  clear hown
  go_enter Try.func15, Try.ntmps15
  go_wp2_with fail
  go_loopw [9] (fun i wr => ∃ k : Nat, k ≤ s.us.length ∧ i = .int .i64 ((k : Int) - 1) ∧ lastIx ⟨key, a, am⟩ s.us s.us.length = lastIx ⟨key, a, am⟩ s.us k ∧ wr = w) (fun i _ => (intOf i + 1).toNat)
  case atStart => exact ⟨s.us.length, Nat.le_refl _, rfl, rfl, rfl⟩
  case round =>
    obtain ⟨k, hk, rfl, hL, rfl⟩ := hrel
    have HL := Lib.hid hL
    clear hL
    cases k with
    | zero =>
      rw [show (((0 : Nat) : Int) - 1) = -1 from rfl]
      go_wp2_with fail
      go_ret
      refine ⟨by unfold remE; rw [HL.out]; rfl, ?_, Turn.refl _ _ _ _⟩
      unfold remS
      rw [HL.out]
      exact r
    | succ j =>
      rw [show (((j + 1 : Nat) : Int) - 1) = (j : Int) by omega]
      have hlt : j < s.us.length := by omega
      obtain ⟨g, rfl, hBg, hg, _, hcell, _⟩ := own_cells HO.out (by omega)
      have hu : s.us[j]? = some s.us[j] := List.getElem?_eq_getElem hlt
      have g0 := hcell (j * 3) (.string s.us[j].key) (by have := at3 usC usC3 s.us j _ 0 hu (by decide); simpa [usC] using this)
      have g1 := hcell (j * 3 + 1) (.int .i64 s.us[j].at_) (by rw [at3 usC usC3 s.us j _ 1 hu (by decide)]; rfl)
      have g2 := hcell (j * 3 + 2) (.int .i64 s.us[j].am) (by rw [at3 usC usC3 s.us j _ 2 hu (by decide)]; rfl)
      have HE := Lib.hid (ix_eq (u := ⟨key, a, am⟩) hlt)
      clear hcell hu
      generalize s.us[j] = u at g0 g1 g2 HE
      obtain ⟨uk, ua, um⟩ := u
      simp only at g0 g1 g2
      by_cases hke : (⟨uk, ua, um⟩ : Us) = ⟨key, a, am⟩
      · have HF : Hid (lastIx ⟨key, a, am⟩ s.us s.us.length = some j) := Lib.hid (by rw [HL.out, HE.out, if_pos hke])
        injection hke with q1 q2 q3
        subst q1 q2 q3
        go_wp2_with (go_at_call 27; refine (remove_1 B p s o3 j (by omega) wr hBw r).mono ?_; rintro e w2 ⟨rfl, R2, T2⟩)
        go_ret
        refine ⟨by unfold remE; rw [HF.out]; rfl, ?_, T2⟩
        rw [remS_cut HF.out]
        exact R2
      · have hkb : decide ((⟨uk, ua, um⟩ : Us) = ⟨key, a, am⟩) = false := by simpa using hke
        have HF : Hid (lastIx ⟨key, a, am⟩ s.us (j + 1) = lastIx ⟨key, a, am⟩ s.us j) := Lib.hid (by rw [HE.out, if_neg hke])
        go_wp2_with fail
        go_roundw
        case rel => exact ⟨j, by omega, rfl, by rw [HL.out, HF.out], trivial⟩
        case measure => simp [intOf]

/-- What a call of Forget leaves. -/
def ForRet (B p : Nat) (s : VS) (a : Int) (w : World) (e : Ending) (w' : World) : Prop :=
  e = .returned (.int .i64 (forN s a)) ∧ VRep w' B p (forS s a) ∧ Turn B [52, 56] false w w'
theorem for_any (B p : Nat) (s : VS) (o : s.Ok) (a : Int) (w : World) (hBw : B ≤ w.heap.size) (r : VRep w B p s) :
    Calls Try.prog 21 #[.pointer (some ⟨p, 0, none⟩), .int .i64 a] w (ForRet B p s a w) := by
  by_cases ht : isT a
  · have hO := old_any B p s o a ht w r
    have hm := young_len (b := a - s.h) o.asc
    have hdr := drop_old (a - s.h) s.us o.asc
    have hm2 := old_len (a - s.h) s.us
    generalize (oldL (a - s.h) s.us).length = m at hO hm hm2 hdr
    have o3 := o.len
    have HC := Lib.hid hO
    have HD := Lib.hid hdr
    have HM := Lib.hid hm
    clear hO hm hdr
    go_enter Try.func21, Try.ntmps21
    go_wp2_with (first
      | (go_at_call 25; refine (isTime_yes _ _ ht).mono ?_; rintro e w' ⟨rfl, rfl⟩)
      | (go_at_call 26; refine HC.out.mono ?_; rintro e w' ⟨rfl, q, rfl⟩)
      | (go_at_call 27; refine (remove_0 B p s o3 m hm2 (w.drewN q) hBw (r.drewN q)).mono ?_; rintro e w2 ⟨rfl, R2, T2⟩))
    go_ret
    have hS : forS s a = Cut s 0 m := by unfold forS Cut; rw [if_pos ht, ← HD.out]; simp
    refine ⟨?_, by rw [hS]; exact R2, ((Turn.refl _ _ _ w).drewN q).trans T2⟩
    unfold forN
    have e : s.us.length - (s.us.length - m) = m := by omega
    rw [if_pos ht, HM.out, e]
    rfl
  · go_enter Try.func21, Try.ntmps21
    go_wp2_with (go_at_call 25; refine (isTime_no _ _ ht).mono ?_; rintro e w' ⟨rfl, rfl⟩)
    go_ret
    unfold ForRet forN forS
    rw [if_neg ht, if_neg ht]
    exact ⟨rfl, r, Turn.refl _ _ _ _⟩
end Go.Proofs.Ytieimeahppmefaa
