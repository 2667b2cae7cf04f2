/-
  Plain arithmetic of the 64-bit words: the two folds of Of agree. No program in sight.
-/
import Derived.Test.YtfolabkgeeeobaaWb
namespace Go.Proofs.Ytfolabkgeeeobaa
open Go.RowKit

def Wd (x : Int) : Prop := 0 ≤ x ∧ x < 18446744073709551616

theorem bitI_eq (n : Int) (_h1 : 1 ≤ n) (_h2 : n ≤ 128) : bitI n = ((2 ^ (63 - (n - 1) % 64).toNat : Nat) : Int) := by
  unfold bitI
  rw [IntKind.wrap_u64]
  have h : (63 - (n - 1) % 64).toNat ≤ 63 := by omega
  have h3 : (2 : Nat) ^ (63 - (n - 1) % 64).toNat ≤ 2 ^ 63 := Nat.pow_le_pow_right (by decide) h
  have h4 : ((2 : Int) ^ (63 - (n - 1) % 64).toNat) = ((2 ^ (63 - (n - 1) % 64).toNat : Nat) : Int) := by simp
  rw [h4]
  have h5 : (2 : Nat) ^ 63 = 9223372036854775808 := by decide
  clear h4
  generalize (2 : Nat) ^ (63 - (n - 1) % 64).toNat = p at *
  omega
theorem bitI_wd (n : Int) (h1 : 1 ≤ n) (h2 : n ≤ 128) : Wd (bitI n) := by
  rw [bitI_eq n h1 h2]
  have h3 : (2 : Nat) ^ (63 - (n - 1) % 64).toNat ≤ 2 ^ 63 := Nat.pow_le_pow_right (by decide) (by omega)
  have h5 : (2 : Nat) ^ 63 = 9223372036854775808 := by decide
  unfold Wd
  generalize (2 : Nat) ^ (63 - (n - 1) % 64).toNat = p at *
  omega
theorem bitI_lo (n : Int) (h1 : 2 ≤ n) (h2 : n ≤ 64) : bitI n < 9223372036854775808 := by
  rw [bitI_eq n (by omega) (by omega)]
  have h3 : (2 : Nat) ^ (63 - (n - 1) % 64).toNat ≤ 2 ^ 62 := Nat.pow_le_pow_right (by decide) (by omega)
  have h5 : (2 : Nat) ^ 62 = 4611686018427387904 := by decide
  generalize (2 : Nat) ^ (63 - (n - 1) % 64).toNat = p at *
  omega
theorem orI_eq {x y : Int} (hx : Wd x) (hy : Wd y) : orI x y = ((x.toNat ||| y.toNat : Nat) : Int) := u64_or x y hx.1 hx.2 hy.1 hy.2
theorem orI_wd {x y : Int} (hx : Wd x) (hy : Wd y) : Wd (orI x y) := by
  rw [orI_eq hx hy]
  have : x.toNat ||| y.toNat < 2 ^ 64 := Nat.or_lt_two_pow (by have := hx.2; omega) (by have := hy.2; omega)
  unfold Wd
  omega
theorem orI_lo {x y : Int} (hx : 0 ≤ x) (hx' : x < 9223372036854775808) (hy : 0 ≤ y) (hy' : y < 9223372036854775808) : orI x y < 9223372036854775808 := by
  rw [orI_eq ⟨hx, by omega⟩ ⟨hy, by omega⟩]
  have : x.toNat ||| y.toNat < 2 ^ 63 := Nat.or_lt_two_pow (by omega) (by omega)
  omega
theorem clr_eq {x : Int} (hx : Wd x) : clr x = ((x.toNat % 9223372036854775808 : Nat) : Int) := by
  unfold clr
  rw [u64_andNot x 9223372036854775808 hx.1 hx.2 (by decide) (by decide)]
  have h : (18446744073709551615 - (9223372036854775808 : Int).toNat) = 2 ^ 63 - 1 := by decide
  rw [h, Nat.and_two_pow_sub_one_eq_mod]
theorem clr_lo {x : Int} (hx : 0 ≤ x) (hx' : x < 9223372036854775808) : clr x = x := by
  rw [clr_eq ⟨hx, by omega⟩, Nat.mod_eq_of_lt (by omega)]
  omega

theorem of_same : ∀ (l : List Int) (x y : Int), 0 ≤ x → x < 9223372036854775808 → ofL l x y = ofR l x y
  | [], _, _, _, _ => rfl
  | n :: l, x, y, h1, h2 => by
    unfold ofL ofR
    by_cases h : 2 ≤ n ∧ n ≤ 128
    · rw [if_pos h, if_pos h]
      have e1 : setX n x = sorX n x := by unfold setX sorX; rw [clr_lo h1 h2]
      have e2 : setY n y = sorY n y := rfl
      rw [e1, e2]
      by_cases h64 : n ≤ 64
      · have e3 : sorX n x = orI x (bitI n) := by unfold sorX; rw [if_pos h64]
        rw [e3]
        exact of_same l _ _ (orI_wd ⟨h1, by omega⟩ (bitI_wd n (by omega) h.2)).1 (orI_lo h1 h2 (bitI_wd n (by omega) h.2).1 (bitI_lo n h.1 h64))
      · have e3 : sorX n x = x := by unfold sorX; rw [if_neg h64]
        rw [e3]
        exact of_same l _ _ h1 h2
    · rw [if_neg h, if_neg h]
end Go.Proofs.Ytfolabkgeeeobaa
