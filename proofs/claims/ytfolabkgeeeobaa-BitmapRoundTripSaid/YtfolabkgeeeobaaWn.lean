/-
  Walks over the chapter's hex and Encode. Condition: the words are below 2^64.
-/
import Derived.Test.YtfolabkgeeeobaaPe
namespace Go.Proofs.Ytfolabkgeeeobaa
open Go.RowKit
def hs (x : Nat) : Nat → List UInt8
  | 0 => []
  | k + 1 => hexd (x / 16 ^ k % 16) :: hs x k
theorem hs16 (x : Nat) : hs x 16 = hx x := by
  simp [hs, hx, nib, List.range, List.range.loop]
theorem hs_len (x k : Nat) : (hs x k).length = k := by
  induction k with
  | zero => rfl
  | succ k ih => simp [hs, ih]
theorem dgt_cut : ∀ j : Fin 16, dgt.extract j.val (j.val + 1) = ⟨#[hexd j.val]⟩ := by decide +kernel
theorem dgt_add {j : Nat} (h : j < 16) (L : List UInt8) : dgt.extract j (j + 1) ++ ⟨L.toArray⟩ = ⟨(hexd j :: L).toArray⟩ := by
  rw [dgt_cut ⟨j, h⟩]
  refine ByteArray.ext ?_
  simp
set_option maxRecDepth 100000 in
theorem hex_any (x : Nat) (w : World) (h1 : x < 18446744073709551616) :
    Calls Try.prog 36 #[.int .u64 x] w fun e w' => e = .returned (.string ⟨(hx x).toArray⟩) ∧ w = w' := by
  go_enter Try.func36, Try.ntmps36
  go_wp2_with fail
  go_loopw [0, 3, 4] (fun u s i wr => ∃ (k : Nat), k ≤ 16 ∧ i = .int .i64 k ∧ u = .int .u64 ((x / 16 ^ k : Nat) : Int) ∧ s = .string ⟨(hs x k).toArray⟩ ∧ wr = w) (fun _ _ i _ => 16 - (intOf i).toNat)
  case atStart => exact ⟨0, by omega, rfl, by simp, rfl, rfl⟩
  case round =>
    obtain ⟨k, hk, rfl, rfl, rfl, rfl⟩ := hrel
    by_cases hlt : k < 16
    · obtain ⟨m, hnm⟩ : ∃ m : Nat, x / 16 ^ k = m := ⟨_, rfl⟩
      have hm : m < 18446744073709551616 := by rw [← hnm]; exact Nat.lt_of_le_of_lt (Nat.div_le_self _ _) h1
      rw [hnm]
      have hlen : ¬ 9223372036854775807 < min (m % 16 + 1) 16 - m % 16 + (hs x k).length := by rw [hs_len]; omega
      go_wp2_with fail
      go_roundw
      case rel =>
        refine ⟨k + 1, by omega, by go_num, ?_, ?_, trivial⟩
        · rw [Nat.pow_succ, ← Nat.div_div_eq_div_mul, hnm]; simp
        · have := dgt_add (j := m % 16) (by omega) (hs x k)
          rw [hs, hnm, ← this]
          rfl
      case measure => simp [intOf]; omega
    · have hk16 : k = 16 := by omega
      subst hk16
      go_wp2
      go_ret
      exact ⟨by rw [hs16]; rfl, rfl⟩

theorem hex_int (x : Int) (w : World) (h : Wd x) :
    Calls Try.prog 36 #[.int .u64 x] w fun e w' => e = .returned (.string ⟨(hx x.toNat).toArray⟩) ∧ w = w' := by
  have h0 := h.1
  have h1 := h.2
  obtain ⟨n, rfl⟩ := Int.eq_ofNat_of_zero_le h0
  have := hex_any n w (by omega)
  simpa using this
theorem bit1_any (w : World) : Calls Try.prog 31 #[.int .i64 1] w fun e w' => e = .returned (.int .u64 9223372036854775808) ∧ w = w' := by
  go_enter Try.func31, Try.ntmps31
  go_wp2
  go_ret
  exact ⟨rfl, rfl⟩
/-- A bitmap joined with the empty one. -/
theorem join_zero {x y : Int} (hx : Wd x) (hy : Wd y) : ofR (lst (hasR x y) 127 ++ lst (hasR 0 0) 127) 0 0 = some (clr x, y) := by
  rw [union_eq hx hy wd0 wd0, orI_comm hx wd0, orI_comm hy wd0, orI_zero hx, orI_zero hy]

set_option maxRecDepth 100000 in
theorem rencode_any (x y : Int) (w : World) (hx0 : Wd x) (hy0 : Wd y) :
    Calls Try.prog 19 #[.agg #[.int .u64 x, .int .u64 y]] w fun e w' => e = .returned (.string ⟨(encL x y).toArray⟩) ∧ Below w.heap.size w w' := by
  have iss := isSome_setCell
  have hA : Wd (clr x) := clr_wd hx0
  by_cases hy : y = 0
  · subst hy
    go_enter Try.func19, Try.ntmps19
    go_wp2_with (first | (go_at_call 13; refine (runion_any x 0 0 0 _ _ _ (join_zero hx0 wd0)).mono ?_; rintro e w1 ⟨rfl, hb⟩; have B0 := (Blk.new w 26 #[.int .u64 x, .int .u64 0]).call hb; have c0 := B0.c0; have c1 := B0.c1; have f0 := B0.frozen; have l0 := B0.lt) | (go_at_call 36; refine (hex_int _ _ hA).mono ?_; rintro e w2 ⟨rfl, rfl⟩))
    go_ret
    refine ⟨by unfold encL; rw [if_pos rfl]; rfl, ?_⟩
    exact ((((Below.refl _ _).alloc (Nat.le_refl _) _).trans (hb.mono (by simp))).setCell (by simp) _).setCell (by simp) _
  · have hyf : (y == 0) = false := by simpa using hy
    go_enter Try.func19, Try.ntmps19
    go_wp2_with (go_at_call 13; refine (runion_any x y 0 0 _ _ _ (join_zero hx0 hy0)).mono ?_; rintro e w1 ⟨rfl, hb⟩; have B0 := (Blk.new w 26 #[.int .u64 x, .int .u64 y]).call hb; have c0 := B0.c0; have c1 := B0.c1; have f0 := B0.frozen; have l0 := B0.lt)
    have B1 := (B0.s0 (.int .u64 (clr x))).s1 (.int .u64 y)
    have C0 := fun n : Up _ => (B1.call n.2).c0
    have C1 := fun n : Up _ => (B1.call n.2).c1
    have hO : Wd (bits .or .u64 (clr x) 9223372036854775808) := orI_wd (clr_wd hx0) ⟨by decide, by decide⟩
    have hadd := fun W : World => run_string_add_lists (P := Try.prog) W (hx (bits .or .u64 (clr x) 9223372036854775808).toNat) (hx y.toNat) (by rw [hx_len]; decide) (by rw [hx_len]; decide)
    refine wp_region_up (by kernel_rfl) (by kernel_rfl) ?_
    repeat (go_big_quiet_step (first | (go_at_call 31; exact Calls.up_same _ (bit1_any _)) | (go_at_call 36; exact Calls.up_same _ (hex_int _ _ (by assumption)))))
    refine wpQuiet_nil ?_
    intro n
    go_wp2
    go_ret
    have hn := n.2
    refine ⟨by unfold encL; rw [if_neg hy]; rfl, ?_⟩
    refine Below.trans (Below.setCell (Below.setCell (((Below.refl _ _).alloc (Nat.le_refl _) _).trans (hb.mono (by simp))) (by simp) _) (by simp) _) (hn.mono ?_)
    have := hb.size
    simp at this ⊢
    omega
end Go.Proofs.Ytfolabkgeeeobaa
