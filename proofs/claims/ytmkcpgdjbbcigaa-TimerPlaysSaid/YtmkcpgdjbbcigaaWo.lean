/-
  Timer: walk over the law TimerFull. Condition: a time from 0 to 255.
-/
import Derived.Test.YtmkcpgdjbbcigaaWn
namespace Go.Proofs.Ytmkcpgdjbbcigaa
open Go.RowKit
set_option linter.unusedVariables false

abbrev km : ByteArray := ⟨#[109, 111, 114, 101]⟩
theorem idm : identOk km = true := by decide +kernel
theorem place_top {a : Int} {l : List Ti} (h : ∀ x ∈ l, ¬ a < x.at_) : place a l l.length = l.length := by
  cases e : l.length with
  | zero => rfl
  | succ k =>
    have hx : l[k]? = some (l[k]'(by omega)) := List.getElem?_eq_getElem _
    rw [place_succ hx, if_neg (h _ (List.getElem_mem _))]
theorem insT_top {x : Ti} {l : List Ti} (h : ∀ y ∈ l, ¬ x.at_ < y.at_) : insT x l = l ++ [x] := by
  unfold insT
  rw [place_top h]
  simp
theorem findK_mem {key : ByteArray} : ∀ {l : List Ti}, (∀ x ∈ l, ¬ x.id.toList = key.toList) → findK key l = none
  | [], _ => rfl
  | x :: l, h => by
    rw [findK_ne (h x (by simp)), findK_mem (l := l) (fun y hy => h y (by simp [hy]))]
    rfl
theorem dueN_all {u : Int} : ∀ {l : List Ti}, (∀ x ∈ l, x.at_ ≤ u) → dueN u l = l.length
  | [], _ => rfl
  | x :: l, h => by
    rw [dueN, if_neg (by have := h x (by simp); omega), dueN_all (l := l) (fun y hy => h y (by simp [hy]))]
    rfl
theorem km_name (i : Nat) : ¬ (nameB i).toList = km.toList := by
  rw [nameB_toList]
  intro h
  have h2 : nameL i = [109, 111, 114, 101] := by rw [h, ByteArray.toList_eq]
  unfold nameL at h2
  injection h2 with h2 _
  exact absurd h2 (by decide)
theorem name_ne {i j : Nat} (hi : i < 1000) (hj : j < 1000) (h : i ≠ j) : ¬ (nameB i).toList = (nameB j).toList := by
  rw [nameB_toList, nameB_toList]
  exact fun e => h (nameL_inj hi hj e)

/-! ### The set with n timers -/
def KF (a : Int) (n : Nat) : TS := ⟨0, (List.range n).map fun i => ⟨nameB i, a⟩⟩
def KD (a : Int) : TS := { KF a 256 with ts := remT 1 1 (KF a 256).ts }
def KE (a : Int) : TS := { KD a with ts := (KD a).ts ++ [⟨km, a⟩] }
theorem KF_mem {a : Int} {n : Nat} {x : Ti} (h : x ∈ (KF a n).ts) : ∃ i, i < n ∧ x = ⟨nameB i, a⟩ := by
  obtain ⟨i, hi, rfl⟩ := List.mem_map.1 h
  exact ⟨i, by simpa using hi, rfl⟩
theorem KF_len (a : Int) (n : Nat) : (KF a n).ts.length = n := by simp [KF]
theorem KF_set {a : Int} (ha : 0 ≤ a ∧ a ≤ 255) {n : Nat} (hn : n < 256) : setE (KF a n) (nameB n) a = 0 ∧ setS (KF a n) (nameB n) a = KF a (n + 1) := by
  obtain ⟨h1, h2⟩ := set_yes (s := KF a n) (key := nameB n) (a := a) (identOk_name (by omega)) ⟨ha.1, by omega⟩ (findK_mem fun x hx => by
    obtain ⟨i, hi, rfl⟩ := KF_mem hx
    exact name_ne (by omega) (by omega) (by omega)) (by rw [KF_len]; exact hn)
  refine ⟨h1, h2.trans (TS.eq_ rfl ?_)⟩
  show insT _ (KF a n).ts = _
  rw [insT_top fun y hy => by obtain ⟨i, hi, rfl⟩ := KF_mem hy; simp]
  simp [KF, List.range_succ]
theorem KF_more {a : Int} (ha : 0 ≤ a ∧ a ≤ 255) : setE (KF a 256) km a = 12 := by
  unfold setE
  have h3 : findK km (KF a 256).ts = none := findK_mem fun x hx => by
    obtain ⟨i, hi, rfl⟩ := KF_mem hx
    exact km_name i
  have hp : posT (KF a 256).now a := ⟨ha.1, by omega⟩
  rw [if_neg (by rw [idm]; decide), if_neg (by simpa using hp), h3, if_neg (by simp), if_pos (by rw [KF_len]; omega)]
theorem KF_cons (a : Int) : (KF a 256).ts = ⟨nameB 0, a⟩ :: ⟨nameB 1, a⟩ :: (List.range 254).map fun i => ⟨nameB (i + 2), a⟩ := by
  unfold KF
  rw [show (256 : Nat) = 254 + 1 + 1 from rfl, List.range_succ_eq_map, List.range_succ_eq_map]
  simp [List.map_map]
theorem KF_again {a : Int} (ha : 0 ≤ a ∧ a ≤ 255) : setE (KF a 256) (nameB 0) a = 7 := by
  unfold setE
  have h3 : findK (nameB 0) (KF a 256).ts = some 0 := by rw [KF_cons, findK_hd]
  have hp : posT (KF a 256).now a := ⟨ha.1, by omega⟩
  rw [if_neg (by rw [identOk_name (by omega)]; decide), if_neg (by simpa using hp), h3, if_pos (by simp)]
theorem KF_one (a : Int) : findK (nameB 1) (KF a 256).ts = some 1 := by
  rw [KF_cons, findK_ne (name_ne (by omega) (by omega) (by omega)), findK_hd]
  rfl
theorem KD_ts (a : Int) : (KD a).ts = ⟨nameB 0, a⟩ :: (List.range 254).map fun i => ⟨nameB (i + 2), a⟩ := by
  show remT 1 1 (KF a 256).ts = _
  rw [KF_cons]
  rfl
theorem KD_len (a : Int) : (KD a).ts.length = 255 := by rw [KD_ts]; simp
theorem KD_mem {a : Int} {x : Ti} (h : x ∈ (KD a).ts) : ∃ i, x = ⟨nameB i, a⟩ := by
  rw [KD_ts] at h
  rcases List.mem_cons.1 h with rfl | h
  · exact ⟨0, rfl⟩
  · obtain ⟨i, _, rfl⟩ := List.mem_map.1 h
    exact ⟨_, rfl⟩
theorem KD_set {a : Int} (ha : 0 ≤ a ∧ a ≤ 255) : setE (KD a) km a = 0 ∧ setS (KD a) km a = KE a := by
  obtain ⟨h1, h2⟩ := set_yes (s := KD a) (key := km) (a := a) idm ⟨ha.1, by omega⟩ (findK_mem fun x hx => by
    obtain ⟨i, rfl⟩ := KD_mem hx
    exact km_name i) (by rw [KD_len]; omega)
  refine ⟨h1, h2.trans (TS.eq_ rfl ?_)⟩
  show insT _ (KD a).ts = _
  rw [insT_top fun y hy => by obtain ⟨i, rfl⟩ := KD_mem hy; simp]
theorem KE_len (a : Int) : (KE a).ts.length = 256 := by
  show ((KD a).ts ++ [_]).length = 256
  rw [List.length_append, KD_len]
  rfl
set_option maxRecDepth 100000 in
theorem KE_due {a : Int} (ha : 0 ≤ a ∧ a ≤ 255) : (dueL (KE a) 255).length = 256 ∧ (dueS (KE a) 255).ts.length = 0 := by
  have h1 : dueN 255 (KE a).ts = 256 := by
    rw [dueN_all, KE_len]
    intro x hx
    rcases List.mem_append.1 hx with hx | hx
    · obtain ⟨i, rfl⟩ := KD_mem hx
      exact ha.2
    · simp at hx
      subst hx
      exact ha.2
  have h2 : ¬ (255 : Int) < (KE a).now := by show ¬ (255 : Int) < 0; omega
  unfold dueL dueS
  rw [if_neg h2, if_neg h2, h1]
  refine ⟨by rw [List.length_map, List.length_take, KE_len]; rfl, ?_⟩
  show ((KE a).ts.drop 256).length = 0
  rw [List.length_drop, KE_len]

set_option maxRecDepth 100000 in
set_option maxHeartbeats 3200000 in
theorem law_full (a : Int) (ha : 0 ≤ a ∧ a ≤ 255) (w : World) : Calls Try.prog 6 #[.int .u8 a] w fun e w' => e = .returned (.bool true) ∧ Below w.heap.size w w' := by
  have HA := Lib.hid ha
  obtain ⟨a1, a2⟩ := ha
  go_enter Try.func6, Try.ntmps6
  go_wp2_with fail
  refine (new_ok w).mono ?_
  rintro e w1 ⟨rfl, R1, b1⟩
  obtain ⟨p, hp⟩ : ∃ p, w.heap.size = p := ⟨_, rfl⟩
  rw [hp] at R1 b1 ⊢
  have z1 : p ≤ w1.heap.size := by have := b1.size; omega
  have HP := Lib.hid hp
  replace R1 : TRep w1 p p (KF a 0) := R1
  have HR1 := Lib.hid R1
  have HB1 := Lib.hid b1
  clear R1 b1 hp
  go_wp2_with fail
  go_loopw [4] (fun i wr => ∃ k : Nat, k ≤ 256 ∧ i = .int .i64 k ∧ TRep wr p p (KF a k) ∧ Below p w wr ∧ p ≤ wr.heap.size) (fun i _ => 256 - (intOf i).toNat)
  case atStart => exact ⟨0, by omega, rfl, HR1.out, HB1.out, z1⟩
  case round =>
    obtain ⟨k, hk, rfl, R2, b2, z2⟩ := hrel
    have HR2 := Lib.hid R2
    have HB2 := Lib.hid b2
    clear R2 b2
    by_cases hlt : k < 256
    · have HN := Lib.hid (KF_set HA.out hlt)
      go_wp2_with (first
        | (go_at_call 29
           refine (name_any k (by omega) _).mono ?_
           rintro e w3 ⟨rfl, b3⟩
           have z3 := Nat.le_trans z2 b3.size
           have HS := Lib.hid (set_any p p (KF a k) (nameB k) a w3 z3 (HR2.out.call b3))
           have B3 := Lib.hid (HB2.out.trans (b3.mono z2))
           clear b3)
        | (go_at_call 12
           refine HS.out.mono ?_
           rintro e w4 ⟨rfl, R4, T4⟩
           rw [HN.out.1]
           rw [HN.out.2] at R4
           have HR4 := Lib.hid R4
           have z4 := Nat.le_trans z3 T4.size
           have HB4 := Lib.hid (B3.out.trans T4.below)
           clear R4 T4))
      go_roundw
      case rel => exact ⟨k + 1, by omega, by go_num, HR4.out, HB4.out, z4⟩
      case measure => simp [intOf]; omega
    · have hk6 : k = 256 := by omega
      subst hk6
      have HM := Lib.hid (set_any p p (KF a 256) km a wr z2 HR2.out)
      go_wp2_with fail
      refine HM.out.mono ?_
      rintro e w3 ⟨rfl, R3, T3⟩
      rw [KF_more HA.out]
      rw [setS_no (KF_more HA.out) (by decide)] at R3
      have HR3 := Lib.hid R3
      have z3 := Nat.le_trans z2 T3.size
      have HB3 := Lib.hid (HB2.out.trans T3.below)
      clear R3 T3 HM
      go_wp2_with fail
      refine (name_any 0 (by omega) _).mono ?_
      rintro e w4 ⟨rfl, b4⟩
      have z4 := Nat.le_trans z3 b4.size
      have HM := Lib.hid (set_any p p (KF a 256) (nameB 0) a w4 z4 (HR3.out.call b4))
      have B4 := Lib.hid (HB3.out.trans (b4.mono z3))
      have HX := Lib.hid (KF_again HA.out)
      clear b4
      generalize nameB 0 = n0 at HM HX ⊢
      go_wp2_with fail
      refine HM.out.mono ?_
      rintro e w5 ⟨rfl, R5, T5⟩
      rw [HX.out]
      rw [setS_no HX.out (by decide)] at R5
      have HR5 := Lib.hid R5
      have z5 := Nat.le_trans z4 T5.size
      have HB5 := Lib.hid (B4.out.trans T5.below)
      clear R5 T5 HM
      go_wp2_with fail
      refine (name_any 1 (by omega) _).mono ?_
      rintro e w6 ⟨rfl, b6⟩
      have z6 := Nat.le_trans z5 b6.size
      have HM := Lib.hid (cancel_ok p p (KF a 256) (nameB 1) 1 (KF_one a) w6 z6 (HR5.out.call b6))
      have B6 := Lib.hid (HB5.out.trans (b6.mono z5))
      clear b6
      generalize nameB 1 = n1 at HM ⊢
      go_wp2_with fail
      refine HM.out.mono ?_
      rintro e w7 ⟨rfl, R7, T7⟩
      replace R7 : TRep w7 p p (KD a) := R7
      have z7 := Nat.le_trans z6 T7.size
      have HB7 := Lib.hid (B6.out.trans T7.below)
      have HS7 := Lib.hid (set_any p p (KD a) km a w7 z7 R7)
      clear R7 T7 HM
      go_wp2_with fail
      refine HS7.out.mono ?_
      rintro e w8 ⟨rfl, R8, T8⟩
      rw [(KD_set HA.out).1]
      rw [(KD_set HA.out).2] at R8
      have z8 := Nat.le_trans z7 T8.size
      have HB8 := Lib.hid (HB7.out.trans T8.below)
      have HL8 := Lib.hid (len_any p p (KE a) w8 R8)
      have HD8 := Lib.hid (due_any p p (KE a) 255 (by rw [KE_len]; omega) w8 z8 R8)
      clear R8 T8
      go_wp2_with (go_at_call 27; refine HL8.out.mono ?_; rintro e w' ⟨rfl, rfl⟩; rw [KE_len])
      refine HD8.out.mono ?_
      rintro e w9 ⟨A9, c9, rfl, _, R9, T9⟩
      rw [(KE_due HA.out).1]
      have z9 := Nat.le_trans z8 T9.size
      have HB9 := Lib.hid (HB8.out.trans T9.below)
      have HL9 := Lib.hid (len_any p p _ w9 R9)
      clear R9 T9
      go_wp2_with (first
        | (go_at_call 27; refine HL9.out.mono ?_; rintro e w' ⟨rfl, rfl⟩; rw [(KE_due HA.out).2])
        | (go_at_call 9; refine (awake_any _).mono ?_; rintro e w10 ⟨rfl, b10⟩))
      go_ret
      exact ⟨rfl, by rw [HP.out]; exact HB9.out.trans (b10.mono z9)⟩
end Go.Proofs.Ytmkcpgdjbbcigaa
