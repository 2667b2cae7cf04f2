/-
  Plain arithmetic: Set, Clear, Has and Count of both sides agree. No program in sight.
-/
import Derived.Test.YtfolabkgeeeobaaWi
import Derived.Test.YtfolabkgeeeobaaWj
namespace Go.Proofs.Ytfolabkgeeeobaa
open Go.RowKit

theorem wd0 : Wd 0 := ⟨by decide, by decide⟩
theorem bitI_bit {n : Int} (h2 : 1 ≤ n) (h3 : n ≤ 128) (i : Nat) : (bitI n).toNat.testBit i = decide ((63 - (n - 1) % 64).toNat = i) := by
  rw [bitI_eq n h2 h3, Int.toNat_natCast, Nat.testBit_two_pow]
theorem zero_bit (i : Nat) : (0 : Int).toNat.testBit i = false := by simp
theorem clr0 : clr 0 = 0 := clr_lo (by decide) (by decide)
theorem orI_zero {x : Int} (hx : Wd x) : orI 0 x = x := wd_ext (orI_wd wd0 hx) hx fun i => by rw [orI_bits wd0 hx, zero_bit, Bool.false_or]

theorem ofR_append : ∀ (L : List Int) (n x y : Int), (∀ m ∈ L, 2 ≤ m ∧ m ≤ 128) → ¬ (2 ≤ n ∧ n ≤ 128) → ofR (L ++ [n]) x y = none
  | [], n, x, y, _, h => by simp only [List.nil_append, ofR]; rw [if_neg h]
  | m :: L, n, x, y, h, hn => by
    simp only [List.cons_append, ofR]
    rw [if_pos (h m (by simp))]
    exact ofR_append L n _ _ (fun k hk => h k (by simp [hk])) hn
theorem lst_in {p : Int → Bool} {n : Int} (h : n ∈ lst p 127) : 2 ≤ n ∧ n ≤ 128 := by
  have := mem_lst.1 h
  omega

theorem rset_no (x y : Int) {n : Int} (h : n < 2 ∨ 128 < n) : ofR (lst (hasR x y) 127 ++ [n]) 0 0 = none := ofR_append _ n 0 0 (fun _ hm => lst_in hm) (by omega)
theorem rset_yes {x y n : Int} (hx : Wd x) (hy : Wd y) (h2 : 2 ≤ n) (h3 : n ≤ 128) : ofR (lst (hasR x y) 127 ++ [n]) 0 0 = some (setX n x, setY n y) := by
  have hb := bitI_wd n (by omega) h3
  have wx : Wd (setX n x) := by unfold setX; split; exact orI_wd (clr_wd hx) hb; exact clr_wd hx
  have wy : Wd (setY n y) := by unfold setY; split; exact hy; exact orI_wd hy hb
  refine of_lists _ (fun m hm => ?_) wx wy (fun i => ?_) (fun i => ?_)
  · rcases List.mem_append.1 hm with h | h
    · exact lst_in h
    · have := List.mem_singleton.1 h; omega
  · have e : loA (lst (hasR x y) 127 ++ [n]) i = (loA (lst (hasR x y) 127) i || (decide (n ≤ 64) && decide ((63 - (n - 1) % 64).toNat = i))) := by simp [loA]
    rw [e, lo_lst]
    have e2 : (decide (i < 63) && hasR x y (64 - i)) = (decide (i < 63) && x.toNat.testBit i) := by
      by_cases h : i < 63
      · rw [hasR_lo hx i h]
      · simp [h]
    rw [e2]
    unfold setX
    by_cases h : n ≤ 64
    · rw [if_pos h, orI_bit (clr_wd hx) (by omega) h3, clr_bit hx]
      simp [h]
    · rw [if_neg h, clr_bit hx]
      simp [h]
  · have e : hiA (lst (hasR x y) 127 ++ [n]) i = (hiA (lst (hasR x y) 127) i || (decide (64 < n) && decide ((63 - (n - 1) % 64).toNat = i))) := by simp [hiA]
    rw [e, hi_lst]
    have e2 : (decide (i < 64) && hasR x y (128 - i)) = y.toNat.testBit i := by
      by_cases h : i < 64
      · rw [hasR_hi hy i h]; simp [h]
      · rw [bit_out hy (by omega)]; simp [h]
    rw [e2]
    unfold setY
    by_cases h : n ≤ 64
    · rw [if_pos h]
      simp [show ¬ 64 < n by omega]
    · rw [if_neg h, orI_bit hy (by omega) h3]
      simp [show 64 < n by omega]
theorem rone_no {n : Int} (h : n < 2 ∨ 128 < n) : ofR [n] 0 0 = none := ofR_append [] n 0 0 (by simp) (by omega)
theorem rone_yes {n : Int} (h2 : 2 ≤ n) (h3 : n ≤ 128) : ofR [n] 0 0 = some (sorX n 0, sorY n 0) := by
  simp only [ofR]
  rw [if_pos ⟨h2, h3⟩]
theorem sorX_wd {n : Int} (h2 : 2 ≤ n) (h3 : n ≤ 128) : Wd (sorX n 0) := by
  unfold sorX; split; exact orI_wd wd0 (bitI_wd n (by omega) h3); exact wd0
theorem sorY_wd {n : Int} (h2 : 2 ≤ n) (h3 : n ≤ 128) : Wd (sorY n 0) := by
  unfold sorY; split; exact wd0; exact orI_wd wd0 (bitI_wd n (by omega) h3)
theorem cut_eq {x y n : Int} (hx : Wd x) (hy : Wd y) (h2 : 2 ≤ n) (h3 : n ≤ 128) : clr (anI x (sorX n 0)) = cutX n x ∧ anI y (sorY n 0) = cutY n y := by
  have hb := bitI_wd n (by omega) h3
  unfold sorX sorY cutX cutY
  by_cases h : n ≤ 64
  · rw [if_pos h, if_pos h, if_pos h, if_pos h, orI_zero hb]
    refine ⟨wd_ext (clr_wd (anI_wd hx hb)) (anI_wd (clr_wd hx) hb) fun i => ?_, wd_ext (anI_wd hy wd0) hy fun i => ?_⟩
    · rw [clr_bit (anI_wd hx hb), anI_bit hx hb, anI_bit (clr_wd hx) hb, clr_bit hx, Bool.and_assoc]
    · rw [anI_bit hy wd0, zero_bit]; simp
  · rw [if_neg h, if_neg h, if_neg h, if_neg h, orI_zero hb]
    refine ⟨congrArg clr (wd_ext (anI_wd hx wd0) hx fun i => ?_), rfl⟩
    rw [anI_bit hx wd0, zero_bit]; simp

theorem ne_zero_of_bit {x : Int} {i : Nat} (h : x.toNat.testBit i = true) : (x == 0) = false := by
  rw [beq_eq_false_iff_ne]
  rintro rfl
  simp at h
theorem eq_zero_of_bits {x : Int} (hx : Wd x) (h : ∀ i, x.toNat.testBit i = false) : (x == 0) = true := by
  rw [beq_iff_eq]
  exact wd_ext hx wd0 fun i => by rw [h, zero_bit]
theorem has_eq {x y n : Int} (hx : Wd x) (hy : Wd y) (h2 : 2 ≤ n) (h3 : n ≤ 128) : hasB x y n = hasR x y n := by
  have hb := bitI_wd n (by omega) h3
  unfold hasB hasR
  rw [ndI_bit (by split; exact hx; exact hy) (by omega) h3]
  unfold setX setY
  by_cases h : n ≤ 64
  · rw [if_pos h, if_pos h, if_pos h, clr0, orI_zero hb, eq_zero_of_bits (anI_wd wd0 hy) (fun i => by rw [anI_bit wd0 hy, zero_bit]; rfl), Bool.and_true]
    cases hv : x.toNat.testBit (63 - (n - 1) % 64).toNat with
    | true =>
      refine eq_zero_of_bits (clr_wd (anI_wd hb hx)) fun i => ?_
      rw [clr_bit (anI_wd hb hx), anI_bit hb hx, bitI_bit (by omega) h3]
      by_cases e : (63 - (n - 1) % 64).toNat = i
      · rw [← e, hv]; simp
      · simp [e]
    | false =>
      refine ne_zero_of_bit (i := (63 - (n - 1) % 64).toNat) ?_
      rw [clr_bit (anI_wd hb hx), anI_bit hb hx, bitI_bit (by omega) h3, hv]
      simp
      omega
  · rw [if_neg h, if_neg h, if_neg h, clr0, orI_zero hb, clr_lo (anI_wd wd0 hx).1, eq_zero_of_bits (anI_wd wd0 hx) (fun i => by rw [anI_bit wd0 hx, zero_bit]; rfl), Bool.true_and]
    · cases hv : y.toNat.testBit (63 - (n - 1) % 64).toNat with
      | true =>
        refine eq_zero_of_bits (anI_wd hb hy) fun i => ?_
        rw [anI_bit hb hy, bitI_bit (by omega) h3]
        by_cases e : (63 - (n - 1) % 64).toNat = i
        · rw [← e, hv]; simp
        · simp [e]
      | false =>
        refine ne_zero_of_bit (i := (63 - (n - 1) % 64).toNat) ?_
        rw [anI_bit hb hy, bitI_bit (by omega) h3, hv]
        simp
    · have : anI 0 x = 0 := by have := eq_zero_of_bits (anI_wd wd0 hx) (fun i => by rw [anI_bit wd0 hx, zero_bit]; rfl); simpa using this
      rw [this]; decide

/-! ### Count -/
theorem cnt_first (f : Nat → Bool) (n : Nat) : cnt f (n + 1) = (f 0).toNat + cnt (fun i => f (i + 1)) n := by
  induction n with
  | zero => simp [cnt]
  | succ n ih => rw [cnt, ih, cnt]; omega
theorem cnt_rev (f : Nat → Bool) (n : Nat) : cnt (fun i => f (n - 1 - i)) n = cnt f n := by
  induction n with
  | zero => rfl
  | succ n ih =>
    rw [cnt_first, cnt, ← ih]
    have e : cnt (fun i => f (n + 1 - 1 - (i + 1))) n = cnt (fun i => f (n - 1 - i)) n := cnt_congr fun i hi => by congr 1; omega
    rw [e]
    simp
    omega
theorem lst_cnt (p : Int → Bool) (k : Nat) : (lst p k).length = cnt (fun i => p ((i : Int) + 2)) k := by
  induction k with
  | zero => rfl
  | succ k ih =>
    cases h : p ((k : Int) + 2) with
    | true => rw [lst_yes h, List.length_append, ih, cnt, h]; rfl
    | false => rw [lst_no h, ih, cnt, h]; rfl
theorem count_eq {x y : Int} (hx : Wd x) (hy : Wd y) : (lst (hasR x y) 127).length = cntB x y := by
  rw [lst_cnt]
  have e1 := cnt_add (fun i => hasR x y ((i : Int) + 2)) 63 64
  have e2 : cnt (fun i => hasR x y ((i : Int) + 2)) 63 = cnt (fun i => x.toNat.testBit (63 - 1 - i)) 63 := cnt_congr fun i hi => by
    have := hasR_lo (y := y) hx (63 - 1 - i) (by omega)
    rw [← this]
    congr 1
    omega
  have e3 : cnt (fun i => hasR x y (((63 + i : Nat) : Int) + 2)) 64 = cnt (fun i => y.toNat.testBit (64 - 1 - i)) 64 := cnt_congr fun i hi => by
    have := hasR_hi (x := x) hy (64 - 1 - i) (by omega)
    rw [← this]
    congr 1
    omega
  have e4 : pop (clr x) = cnt (fun i => x.toNat.testBit i) 63 := by
    unfold pop
    have : cnt (fun i => (clr x).toNat.testBit i) 64 = cnt (fun i => (clr x).toNat.testBit i) 63 + ((clr x).toNat.testBit 63).toNat := rfl
    rw [this, clr_bit hx]
    simp
    refine cnt_congr fun i hi => ?_
    rw [clr_bit hx]
    simp [hi]
  rw [show 127 = 63 + 64 from rfl, e1, e2, e3, cnt_rev (fun i => x.toNat.testBit i) 63, cnt_rev (fun i => y.toNat.testBit i) 64, ← e4]
  rfl
end Go.Proofs.Ytfolabkgeeeobaa
