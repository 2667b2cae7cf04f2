/-
  Plain arithmetic: the words that Of folds from a list of numbers, bit by bit. No program in sight.
-/
import Derived.Test.YtfolabkgeeeobaaPa
import Derived.Test.YtfolabkgeeeobaaWg
namespace Go.Proofs.Ytfolabkgeeeobaa
open Go.RowKit

/-- Some number of the list marks bit i of the low word, of the high word. -/
def loA (L : List Int) (i : Nat) : Bool := L.any fun n => decide (n ≤ 64) && decide ((63 - (n - 1) % 64).toNat = i)
def hiA (L : List Int) (i : Nat) : Bool := L.any fun n => decide (64 < n) && decide ((63 - (n - 1) % 64).toNat = i)

theorem orI_bit {x : Int} (hx : Wd x) {n : Int} (h2 : 1 ≤ n) (h3 : n ≤ 128) (i : Nat) : (orI x (bitI n)).toNat.testBit i = (x.toNat.testBit i || decide ((63 - (n - 1) % 64).toNat = i)) := by
  rw [orI_eq hx (bitI_wd n h2 h3), bitI_eq n h2 h3, Int.toNat_natCast, Int.toNat_natCast, Nat.testBit_or, Nat.testBit_two_pow]

theorem ofR_bits : ∀ (L : List Int) (x y : Int), (∀ n ∈ L, 2 ≤ n ∧ n ≤ 128) → Wd x → Wd y →
    ∃ x' y', ofR L x y = some (x', y') ∧ Wd x' ∧ Wd y' ∧ (∀ i, x'.toNat.testBit i = (x.toNat.testBit i || loA L i)) ∧ ∀ i, y'.toNat.testBit i = (y.toNat.testBit i || hiA L i)
  | [], x, y, _, hx, hy => ⟨x, y, rfl, hx, hy, by simp [loA], by simp [hiA]⟩
  | n :: L, x, y, h, hx, hy => by
    have h1 := h n (by simp)
    have h' : ∀ m ∈ L, 2 ≤ m ∧ m ≤ 128 := fun m hm => h m (by simp [hm])
    unfold ofR
    rw [if_pos h1]
    by_cases h64 : n ≤ 64
    · have e1 : sorX n x = orI x (bitI n) := by unfold sorX; rw [if_pos h64]
      have e2 : sorY n y = y := by unfold sorY; rw [if_pos h64]
      rw [e1, e2]
      obtain ⟨x', y', e, w1, w2, b1, b2⟩ := ofR_bits L _ y h' (orI_wd hx (bitI_wd n (by omega) h1.2)) hy
      refine ⟨x', y', e, w1, w2, fun i => ?_, fun i => ?_⟩
      · rw [b1 i, orI_bit hx (by omega) h1.2]
        simp [loA, h64, Bool.or_assoc]
      · rw [b2 i]
        simp [hiA, show ¬ 64 < n by omega]
    · have e1 : sorX n x = x := by unfold sorX; rw [if_neg h64]
      have e2 : sorY n y = orI y (bitI n) := by unfold sorY; rw [if_neg h64]
      rw [e1, e2]
      obtain ⟨x', y', e, w1, w2, b1, b2⟩ := ofR_bits L x _ h' hx (orI_wd hy (bitI_wd n (by omega) h1.2))
      refine ⟨x', y', e, w1, w2, fun i => ?_, fun i => ?_⟩
      · rw [b1 i]
        simp [loA, h64]
      · rw [b2 i, orI_bit hy (by omega) h1.2]
        simp [hiA, show 64 < n by omega, Bool.or_assoc]

theorem mem_lst {p : Int → Bool} {k : Nat} {n : Int} : n ∈ lst p k ↔ 2 ≤ n ∧ n < k + 2 ∧ p n = true := by
  unfold lst
  simp only [List.mem_filter, List.mem_map, List.mem_range]
  constructor
  · rintro ⟨⟨i, hi, rfl⟩, hp⟩
    exact ⟨by omega, by omega, hp⟩
  · rintro ⟨h1, h2, hp⟩
    exact ⟨⟨(n - 2).toNat, by omega, by omega⟩, hp⟩
theorem lo_lst (p : Int → Bool) (i : Nat) : loA (lst p 127) i = (decide (i < 63) && p (64 - i)) := by
  rw [Bool.eq_iff_iff]
  simp only [loA, List.any_eq_true, Bool.and_eq_true, decide_eq_true_eq, mem_lst]
  constructor
  · rintro ⟨n, ⟨h1, h2, hp⟩, h3, h4⟩
    have e : n = 64 - (i : Int) := by omega
    exact ⟨by omega, by rw [← e]; exact hp⟩
  · rintro ⟨h1, hp⟩
    exact ⟨64 - i, ⟨by omega, by omega, hp⟩, by omega, by omega⟩
theorem hi_lst (p : Int → Bool) (i : Nat) : hiA (lst p 127) i = (decide (i < 64) && p (128 - i)) := by
  rw [Bool.eq_iff_iff]
  simp only [hiA, List.any_eq_true, Bool.and_eq_true, decide_eq_true_eq, mem_lst]
  constructor
  · rintro ⟨n, ⟨h1, h2, hp⟩, h3, h4⟩
    have e : n = 128 - (i : Int) := by omega
    exact ⟨by omega, by rw [← e]; exact hp⟩
  · rintro ⟨h1, hp⟩
    exact ⟨128 - i, ⟨by omega, by omega, hp⟩, by omega, by omega⟩

theorem ndI_bit {x n : Int} (hx : Wd x) (h1 : 1 ≤ n) (h2 : n ≤ 128) : (ndI x (bitI n) != 0) = x.toNat.testBit (63 - (n - 1) % 64).toNat := by
  have hb := bitI_wd n h1 h2
  have e : ndI x (bitI n) = ((x.toNat &&& (bitI n).toNat : Nat) : Int) := u64_and x (bitI n) hx.1 hx.2 hb.1 hb.2
  rw [e, bitI_eq n h1 h2]
  generalize (63 - (n - 1) % 64).toNat = i
  rw [Int.toNat_natCast]
  cases h : x.toNat.testBit i with
  | false =>
    have : x.toNat &&& 2 ^ i = 0 := by
      refine Nat.eq_of_testBit_eq fun j => ?_
      rw [Nat.testBit_and, Nat.testBit_two_pow, Nat.zero_testBit]
      by_cases e : i = j
      · subst e; rw [h]; rfl
      · simp [e]
    rw [this]
    rfl
  | true =>
    have : x.toNat &&& 2 ^ i ≠ 0 := by
      intro e
      have h2 : (x.toNat &&& 2 ^ i).testBit i = true := by rw [Nat.testBit_and, Nat.testBit_two_pow, h]; simp
      rw [e, Nat.zero_testBit] at h2
      cases h2
    simp only [bne_iff_ne, ne_eq]
    omega
theorem hasR_lo {x y : Int} (hx : Wd x) (i : Nat) (h : i < 63) : hasR x y (64 - i) = x.toNat.testBit i := by
  unfold hasR
  rw [if_pos (by omega), ndI_bit hx (by omega) (by omega)]
  congr 1
  omega
theorem hasR_hi {x y : Int} (hy : Wd y) (i : Nat) (h : i < 64) : hasR x y (128 - i) = y.toNat.testBit i := by
  unfold hasR
  rw [if_neg (by omega), ndI_bit hy (by omega) (by omega)]
  congr 1
  omega
theorem bit_out {x : Int} (hx : Wd x) {i : Nat} (h : 64 ≤ i) : x.toNat.testBit i = false := by
  refine Nat.testBit_lt_two_pow ?_
  have : x.toNat < 2 ^ 64 := by have := hx.2; omega
  exact Nat.lt_of_lt_of_le this (Nat.pow_le_pow_right (by decide) h)
theorem clr_bit {x : Int} (hx : Wd x) (i : Nat) : (clr x).toNat.testBit i = (decide (i < 63) && x.toNat.testBit i) := by
  rw [clr_eq hx]
  have : x.toNat % 9223372036854775808 = x.toNat % 2 ^ 63 := rfl
  rw [Int.toNat_natCast, this, Nat.testBit_mod_two_pow]
theorem anI_eq {x y : Int} (hx : Wd x) (hy : Wd y) : anI x y = ((x.toNat &&& (18446744073709551615 - y.toNat) : Nat) : Int) := u64_andNot x y hx.1 hx.2 hy.1 hy.2
theorem anI_wd {x y : Int} (hx : Wd x) (hy : Wd y) : Wd (anI x y) := by
  rw [anI_eq hx hy]
  have : x.toNat &&& (18446744073709551615 - y.toNat) ≤ x.toNat := Nat.and_le_left
  have := hx.2
  have := hx.1
  unfold Wd
  omega
theorem anI_bit {x y : Int} (hx : Wd x) (hy : Wd y) (i : Nat) : (anI x y).toNat.testBit i = (x.toNat.testBit i && !y.toNat.testBit i) := by
  rw [anI_eq hx hy, Int.toNat_natCast, Nat.testBit_and]
  by_cases h : i < 64
  · have e : 18446744073709551615 - y.toNat = 2 ^ 64 - (y.toNat + 1) := by omega
    rw [e, Nat.testBit_two_pow_sub_succ (by have := hy.2; omega)]
    simp [h]
  · rw [bit_out hx (by omega)]
    rfl
theorem orI_bits {x y : Int} (hx : Wd x) (hy : Wd y) (i : Nat) : (orI x y).toNat.testBit i = (x.toNat.testBit i || y.toNat.testBit i) := by
  rw [orI_eq hx hy, Int.toNat_natCast, Nat.testBit_or]
theorem wd_ext {x y : Int} (hx : Wd x) (hy : Wd y) (h : ∀ i, x.toNat.testBit i = y.toNat.testBit i) : x = y := by
  have := Nat.eq_of_testBit_eq h
  have := hx.1
  have := hy.1
  omega

theorem of_lists (L : List Int) (hL : ∀ n ∈ L, 2 ≤ n ∧ n ≤ 128) {x y : Int} (hx : Wd x) (hy : Wd y) (h1 : ∀ i, x.toNat.testBit i = loA L i) (h2 : ∀ i, y.toNat.testBit i = hiA L i) : ofR L 0 0 = some (x, y) := by
  have w0 : Wd 0 := ⟨by decide, by decide⟩
  obtain ⟨x', y', e, w1, w2, b1, b2⟩ := ofR_bits L 0 0 hL w0 w0
  rw [e, wd_ext w1 hx (fun i => by rw [b1, h1]; simp), wd_ext w2 hy (fun i => by rw [b2, h2]; simp)]

theorem union_eq {a b c d : Int} (ha : Wd a) (hb : Wd b) (hc : Wd c) (hd : Wd d) : ofR (lst (hasR a b) 127 ++ lst (hasR c d) 127) 0 0 = some (clr (orI a c), orI b d) := by
  refine of_lists _ (fun n hn => ?_) (clr_wd (orI_wd ha hc)) (orI_wd hb hd) (fun i => ?_) (fun i => ?_)
  · rcases List.mem_append.1 hn with h | h
    · have := mem_lst.1 h; omega
    · have := mem_lst.1 h; omega
  · have e : loA (lst (hasR a b) 127 ++ lst (hasR c d) 127) i = (loA (lst (hasR a b) 127) i || loA (lst (hasR c d) 127) i) := by simp [loA]
    rw [e, lo_lst, lo_lst, clr_bit (orI_wd ha hc), orI_bits ha hc]
    by_cases h : i < 63
    · rw [hasR_lo ha i h, hasR_lo hc i h]; simp [h]
    · simp [h]
  · have e : hiA (lst (hasR a b) 127 ++ lst (hasR c d) 127) i = (hiA (lst (hasR a b) 127) i || hiA (lst (hasR c d) 127) i) := by simp [hiA]
    rw [e, hi_lst, hi_lst, orI_bits hb hd]
    by_cases h : i < 64
    · rw [hasR_hi hb i h, hasR_hi hd i h]; simp [h]
    · rw [bit_out hb (by omega), bit_out hd (by omega)]; simp [h]
theorem minus_eq {a b c d : Int} (ha : Wd a) (hb : Wd b) (hc : Wd c) (hd : Wd d) : ofR (lst (exR a b c d) 127) 0 0 = some (clr (anI a c), anI b d) := by
  refine of_lists _ (fun n hn => ?_) (clr_wd (anI_wd ha hc)) (anI_wd hb hd) (fun i => ?_) (fun i => ?_)
  · have := mem_lst.1 hn; omega
  · rw [lo_lst, clr_bit (anI_wd ha hc), anI_bit ha hc]
    by_cases h : i < 63
    · unfold exR; rw [hasR_lo ha i h, hasR_lo hc i h]
    · simp [h]
  · rw [hi_lst, anI_bit hb hd]
    by_cases h : i < 64
    · unfold exR; rw [hasR_hi hb i h, hasR_hi hd i h]; simp [h]
    · rw [bit_out hb (by omega)]; simp [h]
end Go.Proofs.Ytfolabkgeeeobaa
