/-
  Plain lemmas on the hexadecimal digits: what is decoded is the encoding, and back. No program in sight.
-/
import Derived.Test.YtfolabkgeeeobaaWr
namespace Go.Proofs.Ytfolabkgeeeobaa
open Go.RowKit

theorem digN_hexd : ∀ m : Fin 16, digN (hexd m.val) = some m.val := by decide +kernel
theorem hexd_digN : ∀ m : Fin 256, ∀ d : Fin 16, digN (UInt8.ofNat m.val) = some d.val → hexd d.val = UInt8.ofNat m.val := by decide +kernel
theorem hexd_of {c : UInt8} {d : Nat} (h : digN c = some d) : hexd d = c := by
  have hd := digN_lt h
  have := hexd_digN ⟨c.toNat, c.toNat_lt⟩ ⟨d, hd⟩
  simp only [UInt8.ofNat_toNat] at this
  exact this h

theorem vN_hs (x : Nat) : ∀ (k X : Nat), vN (hs x k) X = some (X * 16 ^ k + x % 16 ^ k)
  | 0, X => by simp [hs, vN, Nat.mod_one]
  | k + 1, X => by
    have hm : x / 16 ^ k % 16 < 16 := Nat.mod_lt _ (by decide)
    rw [hs, vN, digN_hexd ⟨x / 16 ^ k % 16, hm⟩]
    simp only
    rw [vN_hs x k, Nat.mod_pow_succ]
    congr 1
    rw [Nat.add_mul, Nat.pow_succ, Nat.mul_comm (16 ^ k) 16, ← Nat.mul_assoc X 16, Nat.mul_comm (16 ^ k) (x / 16 ^ k % 16)]
    omega
theorem vN_hx {x : Nat} (h : x < 18446744073709551616) : vN (hx x) 0 = some x := by
  rw [← hs16, vN_hs]
  have : x % 16 ^ 16 = x := Nat.mod_eq_of_lt (by have : (16 : Nat) ^ 16 = 18446744073709551616 := by decide +kernel
                                                 omega)
  rw [this]
  simp
theorem hs_vN : ∀ (L : List UInt8) (X a : Nat), vN L X = some a → hs a L.length = L ∧ a / 16 ^ L.length = X
  | [], X, a, h => by simp [vN] at h; subst h; simp [hs]
  | c :: L, X, a, h => by
    unfold vN at h
    cases hd : digN c with
    | none => rw [hd] at h; simp at h
    | some d =>
      rw [hd] at h
      obtain ⟨h1, h2⟩ := hs_vN L _ a h
      have h3 := digN_lt hd
      have h4 : (X * 16 + d) % 16 = d := by omega
      refine ⟨?_, ?_⟩
      · rw [List.length_cons, hs, h1, h2, h4, hexd_of hd]
      · rw [List.length_cons, Nat.pow_succ, ← Nat.div_div_eq_div_mul, h2]
        omega
theorem hx_vN {L : List UInt8} {a : Nat} (h : vN L 0 = some a) (hl : L.length = 16) : hx a = L := by
  have := (hs_vN L 0 a h).1
  rw [hl, hs16] at this
  exact this

theorem or_top {x : Int} (h0 : 0 ≤ x) (h1 : x < 9223372036854775808) : orI x 9223372036854775808 = x + 9223372036854775808 := by
  rw [orI_eq ⟨h0, by omega⟩ ⟨by decide, by decide⟩]
  have h := Nat.two_pow_add_eq_or_of_lt (i := 63) (b := x.toNat) (by omega) 1
  rw [Nat.or_comm, show (9223372036854775808 : Int).toNat = 2 ^ 63 * 1 from rfl, ← h]
  omega
theorem clr_lt {x : Int} (hx : Wd x) : 0 ≤ clr x ∧ clr x < 9223372036854775808 := by
  rw [clr_eq hx]
  omega

theorem encL_len (x y : Int) : (encL x y).length = if y = 0 then 16 else 32 := by
  unfold encL
  split <;> simp [hx_len]
theorem bytes_append_toList (l : List UInt8) (s : ByteArray) : ((⟨l.toArray⟩ : ByteArray) ++ s).data.toList = l ++ s.data.toList := by
  simp

/-- What is encoded is decoded, whatever follows. -/
theorem dec_enc {x y : Int} (hx0 : Wd x) (hy : Wd y) (s : ByteArray) : Dec ((⟨(encL x y).toArray⟩ : ByteArray) ++ s) (clr x) y ((encL x y).length : Nat) 0 := by
  obtain ⟨c0, c1⟩ := clr_lt hx0
  have hs : ((⟨(encL x y).toArray⟩ : ByteArray) ++ s).size = (encL x y).length + s.size := by
    rw [ByteArray.size_append]
    rfl
  by_cases h : y = 0
  · refine .inr (.inr (.inl ⟨(clr x).toNat, ?_, ?_, by omega, by omega, h, ?_, rfl⟩))
    · rw [hs, encL_len, if_pos h]; omega
    · unfold v1
      rw [bytes_append_toList]
      unfold encL
      rw [if_pos h, List.take_append_of_le_length (by simp [hx_len]), List.take_of_length_le (by simp [hx_len]), vN_hx (by omega)]
    · rw [encL_len, if_pos h]; rfl
  · have ht := or_top c0 c1
    refine .inr (.inr (.inr (.inr (.inr (.inr ⟨(orI (clr x) 9223372036854775808).toNat, y.toNat, ?_, ?_, by omega, by omega, ?_, by have := hy.1; omega, by have := hy.2; omega, by omega, by have := hy.1; omega, ?_, rfl⟩)))))
    · rw [hs, encL_len, if_neg h]; omega
    · unfold v1
      rw [bytes_append_toList]
      unfold encL
      rw [if_neg h, List.append_assoc, List.take_append_of_le_length (by simp [hx_len]), List.take_of_length_le (by simp [hx_len]), vN_hx (by omega)]
    · unfold v2
      rw [bytes_append_toList]
      unfold encL
      rw [if_neg h, List.append_assoc, List.drop_append_of_le_length (by simp [hx_len]), List.drop_of_length_le (by simp [hx_len]), List.nil_append, List.take_append_of_le_length (by simp [hx_len]), List.take_of_length_le (by simp [hx_len]), vN_hx (by have := hy.2; omega)]
    · rw [encL_len, if_neg h]; rfl

/-- What is accepted is the encoding of the result. -/
theorem enc_dec {s : ByteArray} {x y n : Int} (h : Dec s x y n 0) : Wd x ∧ Wd y ∧ 16 ≤ n ∧ n ≤ s.size ∧ (⟨(encL x y).toArray⟩ : ByteArray) = s.extract 0 n.toNat := by
  have key : ∀ (L : List UInt8) (k : Nat), L = s.data.toList.take k → (⟨L.toArray⟩ : ByteArray) = s.extract 0 k := by
    intro L k e
    refine ByteArray.ext (Array.toList_inj.1 ?_)
    rw [toList_extract]
    simpa using e
  rcases h with ⟨_, _, _, _, h⟩ | ⟨_, _, _, _, _, h⟩ | ⟨a, h1, h2, h3, rfl, rfl, rfl, _⟩ | ⟨a, _, _, _, _, _, _, _, _, h⟩ | ⟨a, _, _, _, _, _, _, _, _, h⟩ | ⟨a, _, _, _, _, _, _, _, _, h⟩ | ⟨a, b, h1, h2, h3, h4, h5, h6, h7, rfl, rfl, rfl, _⟩
  · omega
  · omega
  · refine ⟨⟨by omega, by omega⟩, wd0, by omega, by omega, key _ 16 ?_⟩
    unfold encL
    rw [if_pos rfl, clr_lo (by omega) (by omega), Int.toNat_natCast]
    unfold v1 at h2
    exact hx_vN h2 (by simp; omega)
  · omega
  · omega
  · omega
  · refine ⟨⟨by omega, by omega⟩, ⟨by omega, by omega⟩, by omega, by omega, key _ 32 ?_⟩
    unfold encL
    rw [if_neg (by omega), clr_lo (by omega) (by omega), or_top (by omega) (by omega), Int.toNat_natCast]
    have e1 : (((a - 9223372036854775808 : Nat) : Int) + 9223372036854775808).toNat = a := by omega
    unfold v1 at h2
    unfold v2 at h5
    rw [e1, hx_vN h2 (by simp; omega), hx_vN h5 (by simp; omega)]
    rw [← List.take_add]
/-- What is not accepted has the zero result. -/
theorem dec_not {s : ByteArray} {x y n e : Int} (h : Dec s x y n e) (he : e ≠ 0) : x = 0 ∧ y = 0 ∧ n = 0 := by
  rcases h with ⟨_, h1, h2, h3, _⟩ | ⟨_, _, h1, h2, h3, _⟩ | ⟨a, _, _, _, _, _, _, h⟩ | ⟨a, _, _, _, _, _, h1, h2, h3, _⟩ | ⟨a, _, _, _, _, _, h1, h2, h3, _⟩ | ⟨a, _, _, _, _, _, h1, h2, h3, _⟩ | ⟨a, b, _, _, _, _, _, _, _, _, _, _, h⟩
  · exact ⟨h1, h2, h3⟩
  · exact ⟨h1, h2, h3⟩
  · exact absurd h he
  · exact ⟨h1, h2, h3⟩
  · exact ⟨h1, h2, h3⟩
  · exact ⟨h1, h2, h3⟩
  · exact absurd h he
end Go.Proofs.Ytfolabkgeeeobaa
