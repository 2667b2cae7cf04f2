/-
  Walks over both Decodes. Condition: at most 300 bytes.
-/
import Derived.Test.YtfolabkgeeeobaaWp
namespace Go.Proofs.Ytfolabkgeeeobaa
open Go.RowKit

def v1 (s : ByteArray) : Option Nat := vN (s.data.toList.take 16) 0
def v2 (s : ByteArray) : Option Nat := vN ((s.data.toList.drop 16).take 16) 0
/-- What a string decodes to: the words, the bytes, the error. -/
def Dec (s : ByteArray) (x y n e : Int) : Prop :=
  (s.size < 16 ∧ x = 0 ∧ y = 0 ∧ n = 0 ∧ e = 1) ∨
  (16 ≤ s.size ∧ v1 s = none ∧ x = 0 ∧ y = 0 ∧ n = 0 ∧ e = 2) ∨
  (∃ a : Nat, 16 ≤ s.size ∧ v1 s = some a ∧ a < 9223372036854775808 ∧ x = a ∧ y = 0 ∧ n = 16 ∧ e = 0) ∨
  (∃ a : Nat, 16 ≤ s.size ∧ s.size < 32 ∧ v1 s = some a ∧ 9223372036854775808 ≤ a ∧ a < 18446744073709551616 ∧ x = 0 ∧ y = 0 ∧ n = 0 ∧ e = 1) ∨
  (∃ a : Nat, 32 ≤ s.size ∧ v1 s = some a ∧ 9223372036854775808 ≤ a ∧ a < 18446744073709551616 ∧ v2 s = none ∧ x = 0 ∧ y = 0 ∧ n = 0 ∧ e = 2) ∨
  (∃ a : Nat, 32 ≤ s.size ∧ v1 s = some a ∧ 9223372036854775808 ≤ a ∧ a < 18446744073709551616 ∧ v2 s = some 0 ∧ x = 0 ∧ y = 0 ∧ n = 0 ∧ e = 2) ∨
  (∃ a b : Nat, 32 ≤ s.size ∧ v1 s = some a ∧ 9223372036854775808 ≤ a ∧ a < 18446744073709551616 ∧ v2 s = some b ∧ 0 < b ∧ b < 18446744073709551616 ∧ x = ((a - 9223372036854775808 : Nat) : Int) ∧ y = b ∧ n = 32 ∧ e = 0)

theorem digN_lt {c : UInt8} {d : Nat} (h : digN c = some d) : d < 16 := by
  unfold digN at h
  split at h
  · simp at h; omega
  · split at h
    · simp at h; omega
    · simp at h
theorem vN_lt : ∀ (L : List UInt8) (X a : Nat), vN L X = some a → a < (X + 1) * 16 ^ L.length
  | [], X, a, h => by simp [vN] at h; subst h; simp
  | c :: L, X, a, h => by
    unfold vN at h
    cases hd : digN c with
    | none => rw [hd] at h; simp at h
    | some d =>
      rw [hd] at h
      have h1 := vN_lt L _ a h
      have h2 := digN_lt hd
      rw [List.length_cons, Nat.pow_succ, Nat.mul_comm (16 ^ L.length) 16, ← Nat.mul_assoc]
      exact Nat.lt_of_lt_of_le h1 (Nat.mul_le_mul_right _ (by omega))
theorem p16 : (0 + 1) * 16 ^ 16 = 18446744073709551616 := by decide +kernel
theorem v1_lt {s : ByteArray} {a : Nat} (h : v1 s = some a) : a < 18446744073709551616 := by
  have h1 := vN_lt _ _ _ h
  have : (0 + 1) * 16 ^ (s.data.toList.take 16).length ≤ (0 + 1) * 16 ^ 16 := Nat.mul_le_mul_left _ (Nat.pow_le_pow_right (by decide) (by simp; omega))
  rw [p16] at this
  omega
theorem v2_lt {s : ByteArray} {a : Nat} (h : v2 s = some a) : a < 18446744073709551616 := by
  have h1 := vN_lt _ _ _ h
  have : (0 + 1) * 16 ^ ((s.data.toList.drop 16).take 16).length ≤ (0 + 1) * 16 ^ 16 := Nat.mul_le_mul_left _ (Nat.pow_le_pow_right (by decide) (by simp; omega))
  rw [p16] at this
  omega
theorem dec_is (s : ByteArray) : ∃ x y n e, Dec s x y n e := by
  unfold Dec
  by_cases h16 : s.size < 16
  · exact ⟨_, _, _, _, .inl ⟨h16, rfl, rfl, rfl, rfl⟩⟩
  · cases h1 : v1 s with
    | none => exact ⟨_, _, _, _, .inr (.inl ⟨by omega, rfl, rfl, rfl, rfl, rfl⟩)⟩
    | some a =>
      have hl := v1_lt h1
      by_cases ha : a < 9223372036854775808
      · exact ⟨_, _, _, _, .inr (.inr (.inl ⟨a, by omega, rfl, ha, rfl, rfl, rfl, rfl⟩))⟩
      · by_cases h32 : s.size < 32
        · exact ⟨_, _, _, _, .inr (.inr (.inr (.inl ⟨a, by omega, h32, rfl, by omega, hl, rfl, rfl, rfl, rfl⟩)))⟩
        · cases h2 : v2 s with
          | none => exact ⟨_, _, _, _, .inr (.inr (.inr (.inr (.inl ⟨a, by omega, rfl, by omega, hl, rfl, rfl, rfl, rfl, rfl⟩))))⟩
          | some b =>
            have hb := v2_lt h2
            by_cases h0 : b = 0
            · subst h0
              exact ⟨_, _, _, _, .inr (.inr (.inr (.inr (.inr (.inl ⟨a, by omega, rfl, by omega, hl, rfl, rfl, rfl, rfl, rfl⟩)))))⟩
            · exact ⟨_, _, _, _, .inr (.inr (.inr (.inr (.inr (.inr ⟨a, b, by omega, rfl, by omega, hl, rfl, by omega, hb, rfl, rfl, rfl, rfl⟩)))))⟩

theorem val_short {s : ByteArray} (h : s.size < 16) : val16 s = (0, 1) := by unfold val16; rw [if_pos h]
theorem val_long {s : ByteArray} (h : 16 ≤ s.size) : val16 s = match v1 s with | some x => ((x : Int), 0) | none => (0, 2) := by unfold val16 v1; rw [if_neg (by omega)]; cases vN (s.data.toList.take 16) 0 <;> rfl
theorem toList_extract (s : ByteArray) (i j : Nat) : (s.extract i j).data.toList = (s.data.toList.drop i).take (j - i) := by
  rw [ByteArray.data_extract]
  simp
theorem v1_tail {s : ByteArray} : v1 (s.extract 16 s.size) = v2 s := by
  unfold v1 v2
  have e : (s.data.toList.drop 16).take (s.size - 16) = s.data.toList.drop 16 := List.take_of_length_le (by simp)
  rw [toList_extract, e]
theorem and_top (a : Nat) (h : a < 18446744073709551616) : bits .and .u64 (a : Int) 9223372036854775808 = if a < 9223372036854775808 then 0 else 9223372036854775808 := by
  rw [u64_and _ _ (by omega) (by omega) (by decide) (by decide), Int.toNat_natCast, show (9223372036854775808 : Int).toNat = 2 ^ 63 from rfl]
  have e : a &&& 2 ^ 63 = if a < 9223372036854775808 then 0 else 2 ^ 63 := by
    refine Nat.eq_of_testBit_eq fun i => ?_
    rw [Nat.testBit_and, Nat.testBit_two_pow]
    by_cases hi : 63 = i
    · subst hi
      have ht : a.testBit 63 = decide (9223372036854775808 ≤ a) := by
        rw [Nat.testBit_eq_decide_div_mod_eq]
        have : (2 : Nat) ^ 63 = 9223372036854775808 := by decide
        rw [this]
        by_cases h9 : 9223372036854775808 ≤ a
        · have : a / 9223372036854775808 = 1 := by omega
          simp [this, h9]
        · have : a / 9223372036854775808 = 0 := by omega
          simp [this, h9]
      rw [ht]
      split
      · rename_i h9; simp; omega
      · rename_i h9; rw [Nat.testBit_two_pow]; simp; omega
    · simp [hi]
      split
      · simp
      · show (2 ^ 63 : Nat).testBit i = false
        rw [Nat.testBit_two_pow]; simp [hi]
  rw [e]
  split <;> rfl

def DecRet (x y n e : Int) (w : World) (en : Ending) (w' : World) : Prop := en = .returned (.tuple #[.agg #[.int .u64 x, .int .u64 y], .int .i64 n, .int .i64 e]) ∧ Below w.heap.size w w'

set_option maxRecDepth 100000 in
set_option maxHeartbeats 800000 in
theorem dec_any (s : ByteArray) (w : World) (hm : s.size ≤ 1000) (x y n e : Int) (h : Dec s x y n e) :
    Calls Try.prog 16 #[.string s] w (DecRet x y n e w) := by
  have hb0 : Below w.heap.size w (w.alloc (.cells #[.int .u64 0, .int .u64 0] 26)) := (Below.refl _ _).alloc (Nat.le_refl _) _
  rcases h with ⟨h1, rfl, rfl, rfl, rfl⟩ | ⟨h1, h2, rfl, rfl, rfl, rfl⟩ | ⟨a, h1, h2, h3, rfl, rfl, rfl, rfl⟩ | ⟨a, h1, h4, h2, h3, h5, rfl, rfl, rfl, rfl⟩ | ⟨a, h1, h2, h3, h5, h4, rfl, rfl, rfl, rfl⟩ | ⟨a, h1, h2, h3, h5, h4, rfl, rfl, rfl, rfl⟩ | ⟨a, b, h1, h2, h3, h5, h4, h6, h7, rfl, rfl, rfl, rfl⟩
  · have HV := Lib.hid (val_short h1)
    go_enter Try.func16, Try.ntmps16
    go_wp2_with (go_at_call 33; refine (value_any s _ (by omega)).mono ?_; rintro en w1 ⟨rfl, rfl⟩; rw [HV.out])
    simp [bodyPost, results, Try.results16, go_sem, DecRet]
    exact hb0
  · have HV := Lib.hid (show val16 s = (0, 2) by rw [val_long h1, h2])
    go_enter Try.func16, Try.ntmps16
    go_wp2_with (go_at_call 33; refine (value_any s _ (by omega)).mono ?_; rintro en w1 ⟨rfl, rfl⟩; rw [HV.out])
    simp [bodyPost, results, Try.results16, go_sem, DecRet]
    exact hb0
  · have HV := Lib.hid (show val16 s = ((a : Int), 0) by rw [val_long h1, h2])
    have ht := and_top a (by omega)
    rw [if_pos h3] at ht
    go_enter Try.func16, Try.ntmps16
    go_wp2_with (go_at_call 33; refine (value_any s _ (by omega)).mono ?_; rintro en w1 ⟨rfl, rfl⟩; rw [HV.out])
    simp [bodyPost, results, Try.results16, go_sem, DecRet]
    exact (Below.refl _ _).alloc (Nat.le_refl _) _
  · have HV := Lib.hid (show val16 s = ((a : Int), 0) by rw [val_long h1, h2])
    have HV2 := Lib.hid (val_short (s := s.extract 16 s.size) (by simp; omega))
    have ht := and_top a (by omega)
    rw [if_neg (by omega)] at ht
    go_enter Try.func16, Try.ntmps16
    go_wp2_with (go_at_call 33; first | (have K := HV; clear HV; refine (value_any s _ (by omega)).mono ?_; rintro en w1 ⟨rfl, rfl⟩; rw [K.out]) | (refine (value_any (s.extract 16 s.size) _ (by simp; omega)).mono ?_; rintro en w1 ⟨rfl, rfl⟩; rw [HV2.out]))
    simp [bodyPost, results, Try.results16, go_sem, DecRet]
    exact hb0
  · have HV := Lib.hid (show val16 s = ((a : Int), 0) by rw [val_long (by omega), h2])
    have HV2 := Lib.hid (show val16 (s.extract 16 s.size) = (0, 2) by rw [val_long (by simp; omega), v1_tail, h4])
    have ht := and_top a (by omega)
    rw [if_neg (by omega)] at ht
    go_enter Try.func16, Try.ntmps16
    go_wp2_with (go_at_call 33; first | (have K := HV; clear HV; refine (value_any s _ (by omega)).mono ?_; rintro en w1 ⟨rfl, rfl⟩; rw [K.out]) | (refine (value_any (s.extract 16 s.size) _ (by simp; omega)).mono ?_; rintro en w1 ⟨rfl, rfl⟩; rw [HV2.out]))
    simp [bodyPost, results, Try.results16, go_sem, DecRet]
    exact hb0
  · have HV := Lib.hid (show val16 s = ((a : Int), 0) by rw [val_long (by omega), h2])
    have HV2 := Lib.hid (show val16 (s.extract 16 s.size) = (0, 0) by rw [val_long (by simp; omega), v1_tail, h4]; rfl)
    have ht := and_top a (by omega)
    rw [if_neg (by omega)] at ht
    go_enter Try.func16, Try.ntmps16
    go_wp2_with (go_at_call 33; first | (have K := HV; clear HV; refine (value_any s _ (by omega)).mono ?_; rintro en w1 ⟨rfl, rfl⟩; rw [K.out]) | (refine (value_any (s.extract 16 s.size) _ (by simp; omega)).mono ?_; rintro en w1 ⟨rfl, rfl⟩; rw [HV2.out]))
    simp [bodyPost, results, Try.results16, go_sem, DecRet]
    exact hb0
  · have HV := Lib.hid (show val16 s = ((a : Int), 0) by rw [val_long (by omega), h2])
    have HV2 := Lib.hid (show val16 (s.extract 16 s.size) = ((b : Int), 0) by rw [val_long (by simp; omega), v1_tail, h4])
    have ht := and_top a (by omega)
    rw [if_neg (by omega)] at ht
    have hbz : ((b : Int) == 0) = false := by simp; omega
    have hcl : clr (a : Int) = ((a - 9223372036854775808 : Nat) : Int) := by rw [clr_eq ⟨by omega, by omega⟩]; omega
    rw [← hcl]
    clear h6 hcl
    go_enter Try.func16, Try.ntmps16
    go_wp2_with (first | (go_at_call 33; first | (have K := HV; clear HV; refine (value_any s _ (by omega)).mono ?_; rintro en w1 ⟨rfl, rfl⟩; rw [K.out]) | (refine (value_any (s.extract 16 s.size) _ (by simp; omega)).mono ?_; rintro en w1 ⟨rfl, rfl⟩; rw [HV2.out])) | (go_at_call 32; refine (clean_any _ _ _).mono ?_; rintro en w3 ⟨rfl, hb⟩; have B0 := (Blk.new w 26 #[.int .u64 0, .int .u64 0]).call hb; have c0 := B0.c0; have c1 := B0.c1; have f0 := B0.frozen; have l0 := B0.lt))
    simp [bodyPost, results, Try.results16, go_sem, DecRet, c0, c1]
    exact ((hb0.trans (hb.mono (by simp))).setCell (by simp) _).setCell (by simp) _
end Go.Proofs.Ytfolabkgeeeobaa
