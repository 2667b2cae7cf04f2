/-
  math/bits.OnesCount64 counts the bits that are set: the walk and the plain law, byte by byte. No condition.
-/
import Derived.Test.YtfolabkgeeeobaaPb
namespace Go.Proofs.Ytfolabkgeeeobaa
open Go.RowKit
def sw1 (x : Int) : Int := IntKind.u64.wrap (bits .and .u64 (x / 2) 6148914691236517205 + bits .and .u64 x 6148914691236517205)
def sw2 (x : Int) : Int := IntKind.u64.wrap (bits .and .u64 (x / 4) 3689348814741910323 + bits .and .u64 x 3689348814741910323)
def sw3 (x : Int) : Int := bits .and .u64 (IntKind.u64.wrap (x / 16 + x)) 1085102592571150095
def sw4 (x : Int) : Int := IntKind.u64.wrap (x + x / 256)
def sw5 (x : Int) : Int := IntKind.u64.wrap (x + x / 65536)
def sw6 (x : Int) : Int := IntKind.u64.wrap (x + x / 4294967296)
def onesE (x : Int) : Int := bits .and .i64 (wrap64 (sw6 (sw5 (sw4 (sw3 (sw2 (sw1 x))))))) 127
set_option maxRecDepth 100000 in
theorem ones_any (x : Int) (w : World) : Calls Try.prog 38 #[.int .u64 x] w fun e w' => e = .returned (.int .i64 (onesE x)) ∧ w' = w := by
  go_enter Try.func38, Try.ntmps38
  go_wp2
  go_ret
  refine ⟨?_, rfl⟩
  simp
  rfl

/-- How many i below n f holds of. -/
def cnt (f : Nat → Bool) : Nat → Nat
  | 0 => 0
  | n + 1 => cnt f n + (f n).toNat
theorem cnt_add (f : Nat → Bool) (m n : Nat) : cnt f (m + n) = cnt f m + cnt (fun i => f (m + i)) n := by
  induction n with
  | zero => rfl
  | succ n ih => rw [← Nat.add_assoc, cnt, cnt, ih]; omega
theorem cnt_congr {f g : Nat → Bool} {n : Nat} (h : ∀ i, i < n → f i = g i) : cnt f n = cnt g n := by
  induction n with
  | zero => rfl
  | succ n ih => rw [cnt, cnt, ih (fun i hi => h i (by omega)), h n (by omega)]
theorem cnt_le (f : Nat → Bool) (n : Nat) : cnt f n ≤ n := by
  induction n with
  | zero => exact Nat.le_refl _
  | succ n ih => rw [cnt]; have : (f n).toNat ≤ 1 := Bool.toNat_le _; omega

/-! ### numbers as rows of bytes, the least first -/
def num : List Nat → Nat
  | [] => 0
  | b :: L => b + 256 * num L
def mask (m : Nat) (n : Nat) : Nat := num (List.replicate n m)
theorem num_lt : ∀ (L : List Nat), (∀ b ∈ L, b < 256) → num L < 256 ^ L.length
  | [], _ => by decide
  | b :: L, h => by
    have h1 := h b (by simp)
    have h2 := num_lt L fun c hc => h c (by simp [hc])
    rw [num, List.length_cons, Nat.pow_succ]
    omega
theorem and_step {b m : Nat} (y k : Nat) (hb : b < 256) (hm : m < 256) : (b + 256 * y) &&& (m + 256 * k) = (b &&& m) + 256 * (y &&& k) := by
  have hbm : b &&& m < 2 ^ 8 := Nat.and_lt_two_pow _ hm
  refine Nat.eq_of_testBit_eq fun j => ?_
  rw [Nat.testBit_and, Nat.add_comm b, Nat.add_comm m, Nat.add_comm (b &&& m), show (256 : Nat) = 2 ^ 8 from rfl, Nat.testBit_two_pow_mul_add y hb, Nat.testBit_two_pow_mul_add k hm, Nat.testBit_two_pow_mul_add _ hbm]
  split
  · rw [Nat.testBit_and]
  · rw [Nat.testBit_and]
def st1 (n x : Nat) : Nat := (x / 2 &&& mask 85 n) + (x &&& mask 85 n)
def st2 (n x : Nat) : Nat := (x / 4 &&& mask 51 n) + (x &&& mask 51 n)
def st3 (n x : Nat) : Nat := (x / 16 + x) &&& mask 15 n
def f1 (b : Nat) : Nat := (b / 2 &&& 85) + (b &&& 85)
def f2 (b : Nat) : Nat := (b / 4 &&& 51) + (b &&& 51)
def f3 (b : Nat) : Nat := b / 16 + b % 16
theorem low1 : ∀ b : Fin 256, ∀ r : Fin 2, (b.val / 2 + 128 * r.val) &&& 85 = b.val / 2 &&& 85 := by decide +kernel
theorem low2 : ∀ b : Fin 256, ∀ r : Fin 4, (b.val / 4 + 64 * r.val) &&& 51 = b.val / 4 &&& 51 := by decide +kernel
theorem f1_lt : ∀ b : Fin 256, f1 b.val < 256 := by decide +kernel
theorem f2_lt : ∀ b : Fin 256, f2 (f1 b.val) < 256 ∧ f2 (f1 b.val) % 16 ≤ 4 ∧ f2 (f1 b.val) / 16 ≤ 4 := by decide +kernel
theorem f3_pop : ∀ b : Fin 256, f3 (f2 (f1 b.val)) = cnt (fun i => b.val.testBit i) 8 := by decide +kernel
theorem mask_succ (m n : Nat) : mask m (n + 1) = m + 256 * mask m n := by
  simp [mask, List.replicate_succ, num]
theorem st1_num : ∀ (L : List Nat), (∀ b ∈ L, b < 256) → st1 L.length (num L) = num (L.map f1)
  | [], _ => rfl
  | b :: L, h => by
    have h1 := h b (by simp)
    have ih := st1_num L fun c hc => h c (by simp [hc])
    rw [List.length_cons, num, List.map_cons, num, ← ih]
    unfold st1
    generalize num L = y
    rw [mask_succ, show (b + 256 * y) / 2 = (b / 2 + 128 * (y % 2)) + 256 * (y / 2) by omega, and_step _ _ (by omega) (by decide), and_step _ _ h1 (by decide), low1 ⟨b, h1⟩ ⟨y % 2, by omega⟩]
    unfold f1
    simp only
    omega
theorem st2_num : ∀ (L : List Nat), (∀ b ∈ L, b < 256) → st2 L.length (num L) = num (L.map f2)
  | [], _ => rfl
  | b :: L, h => by
    have h1 := h b (by simp)
    have ih := st2_num L fun c hc => h c (by simp [hc])
    rw [List.length_cons, num, List.map_cons, num, ← ih]
    unfold st2
    generalize num L = y
    rw [mask_succ, show (b + 256 * y) / 4 = (b / 4 + 64 * (y % 4)) + 256 * (y / 4) by omega, and_step _ _ (by omega) (by decide), and_step _ _ h1 (by decide), low2 ⟨b, h1⟩ ⟨y % 4, by omega⟩]
    unfold f2
    simp only
    omega
theorem num_head : ∀ (L : List Nat), (∀ b ∈ L, b < 256 ∧ b % 16 ≤ 4 ∧ b / 16 ≤ 4) → num L % 16 ≤ 4
  | [], _ => by decide
  | b :: L, h => by
    have h1 := h b (by simp)
    rw [num]
    omega
theorem st3_num : ∀ (L : List Nat), (∀ b ∈ L, b < 256 ∧ b % 16 ≤ 4 ∧ b / 16 ≤ 4) → st3 L.length (num L) = num (L.map f3)
  | [], _ => rfl
  | b :: L, h => by
    have h1 := h b (by simp)
    have h2 := num_head L fun c hc => h c (by simp [hc])
    have ih := st3_num L fun c hc => h c (by simp [hc])
    rw [List.length_cons, num, List.map_cons, num, ← ih]
    unfold st3
    generalize num L = y at *
    rw [mask_succ, show (b + 256 * y) / 16 + (b + 256 * y) = (b / 16 + 16 * (y % 16) + b) + 256 * (y / 16 + y) by omega, and_step _ _ (by omega) (by decide)]
    have e : (b / 16 + 16 * (y % 16) + b) &&& 15 = (b / 16 + 16 * (y % 16) + b) % 2 ^ 4 := Nat.and_two_pow_sub_one_eq_mod _ 4
    rw [e]
    unfold f3
    omega

theorem m85 : mask 85 8 = 6148914691236517205 := by decide +kernel
theorem m51 : mask 51 8 = 3689348814741910323 := by decide +kernel
theorem m15 : mask 15 8 = 1085102592571150095 := by decide +kernel
theorem sw1_eq {X : Nat} (h : X < 18446744073709551616) (h2 : st1 8 X < 18446744073709551616) : sw1 X = ((st1 8 X : Nat) : Int) := by
  unfold sw1
  rw [u64_and _ _ (by omega) (by omega) (by decide) (by decide), u64_and _ _ (by omega) (by omega) (by decide) (by decide), IntKind.wrap_u64]
  unfold st1 at *
  rw [m85] at *
  have e : ((X : Int) / 2).toNat = X / 2 := by omega
  rw [e, Int.toNat_natCast, show (6148914691236517205 : Int).toNat = 6148914691236517205 from rfl]
  omega
theorem sw2_eq {X : Nat} (h : X < 18446744073709551616) (h2 : st2 8 X < 18446744073709551616) : sw2 X = ((st2 8 X : Nat) : Int) := by
  unfold sw2
  rw [u64_and _ _ (by omega) (by omega) (by decide) (by decide), u64_and _ _ (by omega) (by omega) (by decide) (by decide), IntKind.wrap_u64]
  unfold st2 at *
  rw [m51] at *
  have e : ((X : Int) / 4).toNat = X / 4 := by omega
  rw [e, Int.toNat_natCast, show (3689348814741910323 : Int).toNat = 3689348814741910323 from rfl]
  omega
theorem sw3_eq {X : Nat} (h : X / 16 + X < 18446744073709551616) : sw3 X = ((st3 8 X : Nat) : Int) := by
  unfold sw3
  rw [IntKind.wrap_u64, u64_and _ _ (by omega) (by omega) (by decide) (by decide)]
  unfold st3
  rw [m15]
  have e : (((X : Int) / 16 + X) % 18446744073709551616).toNat = X / 16 + X := by omega
  rw [e, show (1085102592571150095 : Int).toNat = 1085102592571150095 from rfl]

def bytesOf (X : Nat) : List Nat := [X % 256, X / 256 % 256, X / 65536 % 256, X / 16777216 % 256, X / 4294967296 % 256, X / 1099511627776 % 256, X / 281474976710656 % 256, X / 72057594037927936 % 256]
theorem num_bytes {X : Nat} (h : X < 18446744073709551616) : num (bytesOf X) = X := by
  simp only [bytesOf, num]
  omega
theorem bytes_lt (X : Nat) : ∀ b ∈ bytesOf X, b < 256 := by
  intro b hb
  simp only [bytesOf, List.mem_cons, List.not_mem_nil, or_false] at hb
  omega
theorem sw5_eq {lo hi : Nat} (h : lo < 65536) (h2 : lo + 65536 * hi + hi < 18446744073709551616) : sw5 ((lo + 65536 * hi : Nat) : Int) = ((lo + 65536 * hi + hi : Nat) : Int) := by
  unfold sw5
  rw [IntKind.wrap_u64]
  have e : ((lo + 65536 * hi : Nat) : Int) / 65536 = (hi : Int) := by omega
  rw [e]
  omega
theorem sw6_eq {lo hi : Nat} (h : lo < 4294967296) (h2 : lo + 4294967296 * hi + hi < 18446744073709551616) : sw6 ((lo + 4294967296 * hi : Nat) : Int) = ((lo + 4294967296 * hi + hi : Nat) : Int) := by
  unfold sw6
  rw [IntKind.wrap_u64]
  have e : ((lo + 4294967296 * hi : Nat) : Int) / 4294967296 = (hi : Int) := by omega
  rw [e]
  omega
theorem sw4_eq {lo hi : Nat} (h : lo < 256) (h2 : lo + 256 * hi + hi < 18446744073709551616) : sw4 ((lo + 256 * hi : Nat) : Int) = ((lo + 256 * hi + hi : Nat) : Int) := by
  unfold sw4
  rw [IntKind.wrap_u64]
  have e : ((lo + 256 * hi : Nat) : Int) / 256 = (hi : Int) := by omega
  rw [e]
  omega
theorem last_eq {S Q : Nat} (h : S < 128) : bits .and .i64 (wrap64 ((S + 256 * Q : Nat) : Int)) 127 = (S : Int) := by
  rw [i64_and127]
  unfold wrap64
  omega
theorem tail_sum (c0 c1 c2 c3 c4 c5 c6 c7 : Nat) (h0 : c0 ≤ 8) (h1 : c1 ≤ 8) (h2 : c2 ≤ 8) (h3 : c3 ≤ 8) (h4 : c4 ≤ 8) (h5 : c5 ≤ 8) (h6 : c6 ≤ 8) (h7 : c7 ≤ 8) :
    bits .and .i64 (wrap64 (sw6 (sw5 (sw4 ((num [c0, c1, c2, c3, c4, c5, c6, c7] : Nat) : Int))))) 127 = ((c0 + c1 + c2 + c3 + c4 + c5 + c6 + c7 : Nat) : Int) := by
  simp only [num]
  rw [sw4_eq (by omega) (by omega)]
  have e5 : c0 + 256 * (c1 + 256 * (c2 + 256 * (c3 + 256 * (c4 + 256 * (c5 + 256 * (c6 + 256 * (c7 + 256 * 0))))))) + (c1 + 256 * (c2 + 256 * (c3 + 256 * (c4 + 256 * (c5 + 256 * (c6 + 256 * (c7 + 256 * 0))))))) =
      ((c0 + c1) + 256 * (c1 + c2)) + 65536 * ((c2 + c3) + 256 * ((c3 + c4) + 256 * ((c4 + c5) + 256 * ((c5 + c6) + 256 * ((c6 + c7) + 256 * c7))))) := by omega
  rw [e5, sw5_eq (by omega) (by omega)]
  have e6 : (c0 + c1) + 256 * (c1 + c2) + 65536 * ((c2 + c3) + 256 * ((c3 + c4) + 256 * ((c4 + c5) + 256 * ((c5 + c6) + 256 * ((c6 + c7) + 256 * c7))))) + ((c2 + c3) + 256 * ((c3 + c4) + 256 * ((c4 + c5) + 256 * ((c5 + c6) + 256 * ((c6 + c7) + 256 * c7))))) =
      ((c0 + c1 + c2 + c3) + 256 * ((c1 + c2 + c3 + c4) + 256 * ((c2 + c3 + c4 + c5) + 256 * (c3 + c4 + c5 + c6)))) + 4294967296 * ((c4 + c5 + c6 + c7) + 256 * ((c5 + c6 + c7) + 256 * ((c6 + c7) + 256 * c7))) := by omega
  rw [e6, sw6_eq (by omega) (by omega)]
  have e7 : (c0 + c1 + c2 + c3) + 256 * ((c1 + c2 + c3 + c4) + 256 * ((c2 + c3 + c4 + c5) + 256 * (c3 + c4 + c5 + c6))) + 4294967296 * ((c4 + c5 + c6 + c7) + 256 * ((c5 + c6 + c7) + 256 * ((c6 + c7) + 256 * c7))) + ((c4 + c5 + c6 + c7) + 256 * ((c5 + c6 + c7) + 256 * ((c6 + c7) + 256 * c7))) =
      (c0 + c1 + c2 + c3 + c4 + c5 + c6 + c7) + 256 * (((c1 + c2 + c3 + c4) + 256 * ((c2 + c3 + c4 + c5) + 256 * (c3 + c4 + c5 + c6))) + 16777216 * ((c4 + c5 + c6 + c7) + 256 * ((c5 + c6 + c7) + 256 * ((c6 + c7) + 256 * c7))) + ((c5 + c6 + c7) + 256 * ((c6 + c7) + 256 * c7))) := by omega
  rw [e7, last_eq (by omega)]
theorem cnt_byte {X d : Nat} (k : Nat) (hd : d = 2 ^ k) : cnt (fun i => X.testBit (k + i)) 8 = cnt (fun i => (X / d % 256).testBit i) 8 := by
  subst hd
  refine cnt_congr fun i hi => ?_
  rw [show (256 : Nat) = 2 ^ 8 from rfl, Nat.testBit_mod_two_pow, Nat.testBit_div_two_pow]
  simp [hi, Nat.add_comm]
theorem p256 : 256 ^ 8 = 18446744073709551616 := by decide +kernel
theorem ones_cnt {x : Int} (hx : Wd x) : onesE x = (cnt (fun i => x.toNat.testBit i) 64 : Nat) := by
  obtain ⟨X, rfl⟩ := Int.eq_ofNat_of_zero_le hx.1
  have hX : X < 18446744073709551616 := by have := hx.2; omega
  rw [Int.toNat_natCast]
  have l0 := bytes_lt X
  have l1 : ∀ b ∈ (bytesOf X).map f1, b < 256 := by
    intro b hb
    obtain ⟨c, hc, rfl⟩ := List.mem_map.1 hb
    exact f1_lt ⟨c, l0 c hc⟩
  have l2 : ∀ b ∈ ((bytesOf X).map f1).map f2, b < 256 ∧ b % 16 ≤ 4 ∧ b / 16 ≤ 4 := by
    intro b hb
    obtain ⟨c, hc, rfl⟩ := List.mem_map.1 hb
    obtain ⟨d, hd, rfl⟩ := List.mem_map.1 hc
    exact f2_lt ⟨d, l0 d hd⟩
  have e1 : st1 8 X = num ((bytesOf X).map f1) := by have := st1_num _ l0; rwa [num_bytes hX] at this
  have e2 : st2 8 (num ((bytesOf X).map f1)) = num (((bytesOf X).map f1).map f2) := st2_num _ l1
  have e3 : st3 8 (num (((bytesOf X).map f1).map f2)) = num ((((bytesOf X).map f1).map f2).map f3) := st3_num _ l2
  have b1 : num ((bytesOf X).map f1) < 18446744073709551616 := Nat.lt_of_lt_of_eq (num_lt _ l1) p256
  have b2 : num (((bytesOf X).map f1).map f2) < 18446744073709551616 := Nat.lt_of_lt_of_eq (num_lt _ fun b hb => (l2 b hb).1) p256
  have b3 : num (((bytesOf X).map f1).map f2) / 16 + num (((bytesOf X).map f1).map f2) < 18446744073709551616 := by
    have a := l2 (f2 (f1 (X / 72057594037927936 % 256))) (by simp [bytesOf])
    have q : num (((bytesOf X).map f1).map f2) < 16494023168728760320 := by
      have l2' : ∀ b ∈ bytesOf X, f2 (f1 b) ≤ 68 := fun b hb => by
        have := l2 (f2 (f1 b)) (by simp only [List.mem_map]; exact ⟨f1 b, ⟨b, hb, rfl⟩, rfl⟩)
        omega
      simp only [bytesOf, List.mem_cons, List.not_mem_nil, or_false, forall_eq_or_imp, forall_eq] at l2'
      simp only [bytesOf, List.map_cons, List.map_nil, num]
      omega
    omega
  unfold onesE
  rw [sw1_eq hX (by rw [e1]; exact b1), e1, sw2_eq b1 (by rw [e2]; exact b2), e2, sw3_eq b3, e3]
  have p : ∀ b, b < 256 → f3 (f2 (f1 b)) = cnt (fun i => b.testBit i) 8 := fun b hb => f3_pop ⟨b, hb⟩
  have q : ∀ b, b < 256 → f3 (f2 (f1 b)) ≤ 8 := fun b hb => by rw [p b hb]; exact cnt_le _ _
  simp only [bytesOf, List.map_cons, List.map_nil]
  rw [tail_sum _ _ _ _ _ _ _ _ (q _ (by omega)) (q _ (by omega)) (q _ (by omega)) (q _ (by omega)) (q _ (by omega)) (q _ (by omega)) (q _ (by omega)) (q _ (by omega))]
  rw [p _ (by omega), p _ (by omega), p _ (by omega), p _ (by omega), p _ (by omega), p _ (by omega), p _ (by omega), p _ (by omega)]
  have s : cnt (fun i => X.testBit i) 64 = cnt (fun i => X.testBit (0 + i)) 8 + cnt (fun i => X.testBit (8 + i)) 8 + cnt (fun i => X.testBit (16 + i)) 8 + cnt (fun i => X.testBit (24 + i)) 8 + cnt (fun i => X.testBit (32 + i)) 8 + cnt (fun i => X.testBit (40 + i)) 8 + cnt (fun i => X.testBit (48 + i)) 8 + cnt (fun i => X.testBit (56 + i)) 8 := by
    have h56 : cnt (fun i => X.testBit i) 64 = cnt (fun i => X.testBit i) 56 + cnt (fun i => X.testBit (56 + i)) 8 := cnt_add _ 56 8
    have h48 : cnt (fun i => X.testBit i) 56 = cnt (fun i => X.testBit i) 48 + cnt (fun i => X.testBit (48 + i)) 8 := cnt_add _ 48 8
    have h40 : cnt (fun i => X.testBit i) 48 = cnt (fun i => X.testBit i) 40 + cnt (fun i => X.testBit (40 + i)) 8 := cnt_add _ 40 8
    have h32 : cnt (fun i => X.testBit i) 40 = cnt (fun i => X.testBit i) 32 + cnt (fun i => X.testBit (32 + i)) 8 := cnt_add _ 32 8
    have h24 : cnt (fun i => X.testBit i) 32 = cnt (fun i => X.testBit i) 24 + cnt (fun i => X.testBit (24 + i)) 8 := cnt_add _ 24 8
    have h16 : cnt (fun i => X.testBit i) 24 = cnt (fun i => X.testBit i) 16 + cnt (fun i => X.testBit (16 + i)) 8 := cnt_add _ 16 8
    have h8 : cnt (fun i => X.testBit i) 16 = cnt (fun i => X.testBit i) 8 + cnt (fun i => X.testBit (8 + i)) 8 := cnt_add _ 8 8
    have h0 : cnt (fun i => X.testBit i) 8 = cnt (fun i => X.testBit i) 0 + cnt (fun i => X.testBit (0 + i)) 8 := cnt_add _ 0 8
    rw [h56, h48, h40, h32, h24, h16, h8, h0, show cnt (fun i => X.testBit i) 0 = 0 from rfl, Nat.zero_add]
  rw [s, cnt_byte (d := 1) 0 rfl, cnt_byte (d := 256) 8 rfl, cnt_byte (d := 65536) 16 rfl, cnt_byte (d := 16777216) 24 rfl, cnt_byte (d := 4294967296) 32 rfl, cnt_byte (d := 1099511627776) 40 rfl, cnt_byte (d := 281474976710656) 48 rfl, cnt_byte (d := 72057594037927936) 56 rfl, Nat.div_one]
end Go.Proofs.Ytfolabkgeeeobaa
