/-
  Walks over bitmap.text, Encode and Has. Condition: the words are below 2^64.
-/
import Derived.Test.YtfolabkgeeeobaaPa
namespace Go.Proofs.Ytfolabkgeeeobaa
open Go.RowKit

def dgt : ByteArray := ⟨#[48, 49, 50, 51, 52, 53, 54, 55, 56, 57, 97, 98, 99, 100, 101, 102]⟩
def hexd (m : Nat) : UInt8 := dgt.data.toList.getD m 0
def nib (x k : Nat) : Nat := x / 2 ^ (60 - 4 * k) % 16
def hx (x : Nat) : List UInt8 := (List.range 16).map fun i => hexd (nib x i)
def txt (x : Nat) (k : Nat) : List UInt8 := (List.range 16).map fun i => if i < k then hexd (nib x i) else 0
def txtC (x : Nat) (k : Nat) : Array Value := ((txt x k).map fun b => Value.int .u8 (b.toNat : Int)).toArray
theorem hmk16 : ∀ w, (Instr.makeSlice 54 (.int .i64 16) (.int .i64 16)).run Try.prog w = .ok (.slice (some ⟨w.heap.size, 0, none⟩) 16 16) (w.alloc (.cells (txtC 0 0) 5)) := fun _ => by kernel_rfl
theorem txt0 (x y : Nat) : txtC x 0 = txtC y 0 := by simp [txtC, txt]
theorem txt16 (x : Nat) : txt x 16 = hx x := by
  unfold txt hx
  refine List.map_congr_left fun i hi => ?_
  rw [if_pos (by simpa using hi)]
theorem txt_set (x k : Nat) (_h : k < 16) : (txtC x k).setIfInBounds k (.int .u8 ((hexd (nib x k)).toNat : Int)) = txtC x (k + 1) := by
  refine Array.ext (by simp [txtC, txt]) fun i h1 h2 => ?_
  rw [Array.getElem_setIfInBounds (by simpa using h1)]
  simp only [txtC, txt, List.getElem_toArray, List.getElem_map, List.getElem_range]
  by_cases e : k = i
  · subst e; simp
  · rw [if_neg e]
    by_cases h3 : i < k
    · rw [if_pos h3, if_pos (by omega)]
    · rw [if_neg h3, if_neg (by omega)]
theorem dgt_at (m : Nat) (h : m < dgt.size) : dgt[m]'h = hexd m := by
  show dgt.data[m] = _
  unfold hexd
  have h' : m < dgt.data.size := h
  simp [List.getD, Array.getElem?_eq_getElem h']
theorem nib_eq (x k : Nat) (h1 : x < 18446744073709551616) : bits .and .u64 ((x : Int) / 2 ^ (60 - 4 * k)) 15 = ((nib x k : Nat) : Int) := by
  have e : ((x : Int) / 2 ^ (60 - 4 * k)) = ((x / 2 ^ (60 - 4 * k) : Nat) : Int) := by simp
  have hlt : x / 2 ^ (60 - 4 * k) < 18446744073709551616 := Nat.lt_of_le_of_lt (Nat.div_le_self _ _) h1
  rw [e]
  have := u64_and_nat (x / 2 ^ (60 - 4 * k)) 15 hlt (by decide)
  rw [show ((15 : Nat) : Int) = 15 from rfl] at this
  rw [this, nat_mask4]
  rfl

theorem text_any (x : Nat) (w : World) (h1 : x < 18446744073709551616) :
    Calls Try.prog 35 #[.int .u64 x] w fun e w' => e = .returned (.string ⟨(hx x).toArray⟩) ∧ Below w.heap.size w w' := by
  have hm := hmk16
  go_enter Try.func35, Try.ntmps35
  go_wp2_with fail
  go_loopw [8] (fun i wr => ∃ (k : Nat), k ≤ 16 ∧ i = .int .i64 k ∧ Blk wr w.heap.size 5 (txtC x k) ∧ Below w.heap.size w wr ) (fun i _ => 16 - (intOf i).toNat)
  case atStart => exact ⟨0, by omega, rfl, by rw [txt0 x 0]; exact Blk.new w 5 _, (Below.refl _ _).alloc (Nat.le_refl _) _⟩
  case round =>
    clear hm
    obtain ⟨k, hk, rfl, B0, hb⟩ := hrel
    by_cases hlt : k < 16
    · obtain ⟨m, hnm, hm16⟩ : ∃ m : Nat, nib x k = m ∧ m < 16 := ⟨_, rfl, Nat.mod_lt _ (by decide)⟩
      have hn := nib_eq x k h1
      rw [hnm] at hn
      have HM := Lib.hid hnm
      clear hnm
      have c0 := B0.c k (.int .u8 0) (by simp [txtC, txt, hlt])
      have f0 := B0.frozen k
      go_wp2_with fail
      go_roundw
      case rel =>
        refine ⟨k + 1, by omega, by go_num, ?_, hb.setCell (by simp) _⟩
        rw [← txt_set x k hlt, HM.out, ← dgt_at m hm16]
        exact B0.set_ k _
      case measure => simp [intOf]; omega
    · have hk16 : k = 16 := by omega
      subst hk16
      have hcv : (convert 54 9 (.slice (some ⟨w.heap.size, 0, none⟩) 16 16)).run Try.prog wr = .ok (.string ⟨(hx x).toArray⟩) wr := by
        have h := run_convert_bytes_back (P := Try.prog) wr 54 9 5 ⟨w.heap.size, 0, none⟩ 16 (hx x) Try.underlying54 Try.underlying5 Try.underlying9 (fun j hj => by
          rw [Addr.add_lit]
          have h16 : j < 16 := by simpa [hx] using hj
          refine B0.c (0 + j) _ ?_
          simp [txtC, txt16, hj])
        have hl : (hx x).length = 16 := by simp [hx]
        rwa [hl] at h
      go_wp2
      go_ret
      exact ⟨rfl, hb⟩

theorem text_int (x : Int) (w : World) (h : Wd x) :
    Calls Try.prog 35 #[.int .u64 x] w fun e w' => e = .returned (.string ⟨(hx x.toNat).toArray⟩) ∧ Below w.heap.size w w' := by
  have h0 := h.1
  have h1 := h.2
  obtain ⟨n, rfl⟩ := Int.eq_ofNat_of_zero_le h0
  have := text_any n w (by omega)
  simpa using this
theorem hx_len (x : Nat) : (hx x).length = 16 := by simp [hx]
theorem clr_wd {x : Int} (hx : Wd x) : Wd (clr x) := by
  rw [clr_eq hx]
  unfold Wd
  omega

def encL (x y : Int) : List UInt8 := if y = 0 then hx (clr x).toNat else hx (orI (clr x) 9223372036854775808).toNat ++ hx y.toNat

theorem encode_any (x y : Int) (w : World) (hx0 : Wd x) (hy0 : Wd y) :
    Calls Try.prog 18 #[.agg #[.int .u64 x, .int .u64 y]] w fun e w' => e = .returned (.string ⟨(encL x y).toArray⟩) ∧ Below w.heap.size w w' := by
  have iss := isSome_setCell
  by_cases hy : y = 0
  · subst hy
    go_enter Try.func18, Try.ntmps18
    have hA : Wd (clr x) := clr_wd hx0
    go_wp2_with (first | (go_at_call 32; refine (clean_any _ _ _).mono ?_; rintro e w1 ⟨rfl, hb⟩; have B0 := (Blk.new w 26 #[.int .u64 x, .int .u64 0]).call hb; have c0 := B0.c0; have c1 := B0.c1; have f0 := B0.frozen) | (go_at_call 35; refine (text_int _ _ (by assumption)).mono ?_; rintro e w2 ⟨rfl, hb2⟩))
    go_ret
    refine ⟨by unfold encL; rw [if_pos rfl]; rfl, ?_⟩
    refine Below.trans (Below.setCell (Below.setCell (((Below.refl _ _).alloc (Nat.le_refl _) _).trans (hb.mono (by simp))) (by simp) _) (by simp) _) (hb2.mono ?_)
    have := hb.size
    simp at this ⊢
    omega
  · have hyf : (y == 0) = false := by simpa using hy
    go_enter Try.func18, Try.ntmps18
    go_wp2_with (go_at_call 32; refine (clean_any _ _ _).mono ?_; rintro e w1 ⟨rfl, hb⟩; have B0 := (Blk.new w 26 #[.int .u64 x, .int .u64 y]).call hb; have c0 := B0.c0; have c1 := B0.c1; have f0 := B0.frozen)
    have C0 := fun n : Up _ => (((B0.s0 (.int .u64 (clr x))).s1 (.int .u64 y)).below n.2 (Blk.lt ((B0.s0 (.int .u64 (clr x))).s1 (.int .u64 y)))).c0
    have C1 := fun n : Up _ => (((B0.s0 (.int .u64 (clr x))).s1 (.int .u64 y)).below n.2 (Blk.lt ((B0.s0 (.int .u64 (clr x))).s1 (.int .u64 y)))).c1
    have hA : Wd (bits .or .u64 (clr x) 9223372036854775808) := orI_wd (clr_wd hx0) ⟨by decide, by decide⟩
    have hadd := fun W : World => run_string_add_lists (P := Try.prog) W (hx (bits .or .u64 (clr x) 9223372036854775808).toNat) (hx y.toNat) (by rw [hx_len]; decide) (by rw [hx_len]; decide)
    refine wp_region_up (by kernel_rfl) (by kernel_rfl) ?_
    repeat (go_big_quiet_step ((go_at_call 35; exact Calls.up _ (text_int _ _ (by assumption)))))
    refine wpQuiet_nil ?_
    intro n
    go_wp2
    go_ret
    have hn := n.2
    refine ⟨by unfold encL; rw [if_neg hy]; rfl, ?_⟩
    refine Below.trans (Below.setCell (Below.setCell (((Below.refl _ _).alloc (Nat.le_refl _) _).trans (hb.mono (by simp))) (by simp) _) (by simp) _) (hn.mono ?_)
    have := hb.size
    simp at this ⊢
    omega

theorem eq26 (a b c d : Int) (w : World) : (Op.equalIn 10000 26 (.agg #[.int .u64 a, .int .u64 b]) (.agg #[.int .u64 c, .int .u64 d])).run Try.prog w = .ok (a == c && b == d) w := by
  unfold Op.equalIn
  simp [run_underlying Try.underlying26, go_sem, Try.sizeOf24, List.range', Try.underlying24]
  by_cases h1 : a = c <;> by_cases h2 : b = d <;> simp [h1, h2]

def hasB (x y n : Int) : Bool := clr (anI (setX n 0) x) == 0 && anI (setY n 0) y == 0

theorem has_in (x y n : Int) (w : World) (h2 : 2 ≤ n) (h3 : n ≤ 128) :
    Calls Try.prog 27 #[.agg #[.int .u64 x, .int .u64 y], .int .i64 n] w fun e w' => e = .returned (.bool (hasB x y n)) ∧ Below w.heap.size w w' := by
  have iss := isSome_setCell
  have heq := eq26
  go_enter Try.func27, Try.ntmps27
  go_wp2_with (first | (go_at_call 23; refine (set_yes _ _ _ _ h2 h3).mono ?_; rintro e w1 ⟨rfl, hb1⟩; have B0 := (Blk.new w 26 #[.int .u64 x, .int .u64 y]).call hb1; have c0 := B0.c0; have c1 := B0.c1; have hz := B0.lt) | (go_at_call 14; refine (minus_any _ _ _ _ _).mono ?_; rintro e w2 ⟨rfl, hb2⟩))
  go_ret
  refine ⟨rfl, ?_⟩
  have := hb1.size
  exact ((((Below.refl _ _).alloc (Nat.le_refl _) _).trans (hb1.mono (by simp))).alloc (by simp at this ⊢; omega) _).trans (hb2.mono (by simp at this ⊢; omega))
theorem has_out (x y n : Int) (w : World) (h : n < 2 ∨ 128 < n) :
    Calls Try.prog 27 #[.agg #[.int .u64 x, .int .u64 y], .int .i64 n] w fun e w' => e = .returned (.bool false) ∧ Below w.heap.size w w' := by
  have iss := isSome_setCell
  have heq := eq26
  go_enter Try.func27, Try.ntmps27
  go_wp2_with (first | (go_at_call 23; refine (set_no _ _ _ _ h).mono ?_; rintro e w1 ⟨rfl, hb1⟩; have B0 := (Blk.new w 26 #[.int .u64 x, .int .u64 y]).call hb1; have c0 := B0.c0; have c1 := B0.c1; have hz := B0.lt) | (go_at_call 14; refine (minus_any _ _ _ _ _).mono ?_; rintro e w2 ⟨rfl, hb2⟩))
  go_ret
  refine ⟨rfl, ?_⟩
  have := hb1.size
  exact (((Below.refl _ _).alloc (Nat.le_refl _) _).trans (hb1.mono (by simp))).alloc (by simp at this ⊢; omega) _
end Go.Proofs.Ytfolabkgeeeobaa
