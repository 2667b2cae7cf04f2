/-
  Plain arithmetic of the counts: a union, a difference. No program in sight.
-/
import Derived.Test.YtfolabkgeeeobaaPd
namespace Go.Proofs.Ytfolabkgeeeobaa
open Go.RowKit

theorem of_list {x y : Int} (hx : Wd x) (hy : Wd y) : ofL (lst (hasR x y) 127) 0 0 = some (clr x, y) := by
  rw [of_same _ _ _ (by decide) (by decide)]
  refine of_lists _ (fun n hn => lst_in hn) (clr_wd hx) hy (fun i => ?_) (fun i => ?_)
  · rw [lo_lst, clr_bit hx]
    by_cases h : i < 63
    · rw [hasR_lo hx i h]
    · simp [h]
  · rw [hi_lst]
    by_cases h : i < 64
    · rw [hasR_hi hy i h]; simp [h]
    · rw [bit_out hy (by omega)]; simp [h]
theorem has_clr {x y n : Int} (hx : Wd x) (h2 : 2 ≤ n) (h3 : n ≤ 128) : hasR (clr x) y n = hasR x y n := by
  unfold hasR
  by_cases h : n ≤ 64
  · rw [if_pos h, if_pos h, ndI_bit (clr_wd hx) (by omega) h3, ndI_bit hx (by omega) h3, clr_bit hx]
    have : (63 - (n - 1) % 64).toNat < 63 := by omega
    simp [this]
  · rw [if_neg h, if_neg h]
theorem list_clr {x y : Int} (hx : Wd x) : lst (hasR (clr x) y) 127 = lst (hasR x y) 127 := by
  unfold lst
  refine List.filter_congr fun n hn => ?_
  obtain ⟨i, hi, rfl⟩ := List.mem_map.1 hn
  have := List.mem_range.1 hi
  exact has_clr hx (by omega) (by omega)
theorem cnt_join (f g h : Nat → Bool) (n : Nat) (e : ∀ i, i < n → h i = (f i || g i)) : cnt h n = cnt f n + cnt (fun i => g i && !f i) n := by
  induction n with
  | zero => rfl
  | succ n ih =>
    rw [cnt, cnt, cnt, ih (fun i hi => e i (by omega)), e n (by omega)]
    cases f n <;> cases g n <;> simp <;> omega
theorem pop_join {x y : Int} (hx : Wd x) (hy : Wd y) : pop (orI x y) = pop x + pop (anI y x) := by
  unfold pop
  rw [cnt_join (fun i => x.toNat.testBit i) (fun i => y.toNat.testBit i) _ 64 (fun i _ => orI_bits hx hy i)]
  congr 1
  exact cnt_congr fun i _ => (anI_bit hy hx i).symm
theorem pop_clr_join {x y : Int} (hx : Wd x) (hy : Wd y) : pop (clr (clr (orI x y))) = pop (clr x) + pop (clr (clr (anI y x))) := by
  have wo := orI_wd hx hy
  have wa := anI_wd hy hx
  unfold pop
  rw [cnt_join (fun i => (clr x).toNat.testBit i) (fun i => (clr y).toNat.testBit i) _ 64 (fun i _ => by rw [clr_bit (clr_wd wo), clr_bit wo, orI_bits hx hy, clr_bit hx, clr_bit hy]; by_cases h : i < 63 <;> simp [h])]
  congr 1
  refine cnt_congr fun i _ => ?_
  rw [clr_bit (clr_wd wa), clr_bit wa, anI_bit hy hx, clr_bit hx, clr_bit hy]
  by_cases h : i < 63 <;> simp [h]
theorem count_join {a b c d : Int} (ha : Wd a) (hb : Wd b) (hc : Wd c) (hd : Wd d) : cntB (clr (orI a c)) (orI b d) = cntB a b + cntB (clr (anI c a)) (anI d b) := by
  unfold cntB
  rw [pop_clr_join ha hc, pop_join hb hd]
  omega
theorem cnt_none {f : Nat → Bool} {n : Nat} (h : ∀ i, f i = false) : cnt f n = 0 := by
  induction n with
  | zero => rfl
  | succ n ih => rw [cnt, ih, h]; rfl
theorem count_self {a b : Int} (ha : Wd a) (hb : Wd b) : cntB (clr (anI a a)) (anI b b) = 0 := by
  have h1 : pop (clr (clr (anI a a))) = 0 := cnt_none fun i => by rw [clr_bit (clr_wd (anI_wd ha ha)), clr_bit (anI_wd ha ha), anI_bit ha ha]; simp
  have h2 : pop (anI b b) = 0 := cnt_none fun i => by rw [anI_bit hb hb]; simp
  unfold cntB
  rw [h1, h2]
theorem orI_comm {x y : Int} (hx : Wd x) (hy : Wd y) : orI x y = orI y x := wd_ext (orI_wd hx hy) (orI_wd hy hx) fun i => by rw [orI_bits hx hy, orI_bits hy hx, Bool.or_comm]
end Go.Proofs.Ytfolabkgeeeobaa
