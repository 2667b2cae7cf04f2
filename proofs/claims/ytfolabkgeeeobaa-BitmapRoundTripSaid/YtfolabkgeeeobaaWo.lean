/-
  Walk over bitmap.value. No condition but that the length is a Go int.
-/
import Derived.Test.YtfolabkgeeeobaaWn
namespace Go.Proofs.Ytfolabkgeeeobaa
open Go.RowKit
def digN (c : UInt8) : Option Nat := if 48 ≤ c.toNat ∧ c.toNat ≤ 57 then some (c.toNat - 48) else if 97 ≤ c.toNat ∧ c.toNat ≤ 102 then some (c.toNat - 87) else none
def vN : List UInt8 → Nat → Option Nat
  | [], x => some x
  | c :: L, x => match digN c with
    | some d => vN L (x * 16 + d)
    | none => none
def val16 (s : ByteArray) : Int × Int := if s.size < 16 then (0, 1) else match vN (s.data.toList.take 16) 0 with
  | some x => (x, 0)
  | none => (0, 2)
theorem vN_yes {L : List UInt8} {k X d : Nat} (h : k < L.length) (hd : digN L[k] = some d) : vN (L.drop k) X = vN (L.drop (k + 1)) (X * 16 + d) := by
  rw [List.drop_eq_getElem_cons h, vN, hd]
theorem vN_no {L : List UInt8} {k X : Nat} (h : k < L.length) (hd : digN L[k] = none) : vN (L.drop k) X = none := by
  rw [List.drop_eq_getElem_cons h, vN, hd]
theorem take_at {s : ByteArray} {k m : Nat} (h : k < s.size) (_hk : k < m) {h' : k < (s.data.toList.take m).length} : (s.data.toList.take m)[k] = s[k] := by
  rw [List.getElem_take]
  rfl
theorem pow16 (k : Nat) (h : k ≤ 15) : 16 ^ k ≤ 1152921504606846976 := Nat.pow_le_pow_right (n := 16) (by decide) h
theorem or_dig {X d : Nat} (hX : X * 16 + 15 < 18446744073709551616) (hd : d < 16) : bits .or .u64 (IntKind.u64.wrap ((X : Int) * 16)) (d : Int) = ((X * 16 + d : Nat) : Int) := by
  have e : IntKind.u64.wrap ((X : Int) * 16) = ((X * 16 : Nat) : Int) := by rw [IntKind.wrap_u64]; omega
  rw [e, u64_or _ _ (by omega) (by omega) (by omega) (by omega), Int.toNat_natCast, Int.toNat_natCast]
  have := Nat.two_pow_add_eq_or_of_lt (i := 4) (b := d) hd X
  rw [Nat.mul_comm, show (16 : Nat) = 2 ^ 4 from rfl, ← this]
set_option maxRecDepth 100000 in
set_option maxHeartbeats 1600000 in
theorem value_any (s : ByteArray) (w : World) (hm : s.size ≤ 9223372036854775807) :
    Calls Try.prog 33 #[.string s] w fun e w' => e = .returned (.tuple #[.int .u64 (val16 s).1, .int .i64 (val16 s).2]) ∧ w = w' := by
  by_cases h16 : s.size < 16
  · go_enter Try.func33, Try.ntmps33
    go_wp2
    go_ret2
    exact ⟨by unfold val16; rw [if_pos h16]; rfl, rfl⟩
  · have h17 : 16 ≤ s.size := by omega
    have e17 : decide ((s.size : Int) < 16) = false := by simp; omega
    have HS : Hid (val16 s = match vN (s.data.toList.take 16) 0 with | some x => ((x : Int), 0) | none => (0, 2)) := Lib.hid (by unfold val16; rw [if_neg h16])
    go_enter Try.func33, Try.ntmps33
    clear h16
    go_wp2_with fail
    go_loopw [4, 10] (fun x i wr => ∃ (k X : Nat), k ≤ 16 ∧ i = .int .i64 k ∧ x = .int .u64 (X : Int) ∧ X < 16 ^ k ∧ vN (s.data.toList.take 16) 0 = vN ((s.data.toList.take 16).drop k) X ∧ wr = w) (fun _ i _ => 16 - (intOf i).toNat)
    case atStart => exact ⟨0, 0, by omega, rfl, rfl, by decide, rfl, rfl⟩
    case round =>
      obtain ⟨k, X, hk, rfl, rfl, hX, hL, rfl⟩ := hrel
      by_cases hlt : k < 16
      · have hks : k < s.size := by omega
        have hsz : (s.data.toList.take 16).length = 16 := by simp; omega
        rcases (by omega : (48 ≤ ((s[k]).toNat : Int) ∧ ((s[k]).toNat : Int) ≤ 57) ∨ (97 ≤ ((s[k]).toNat : Int) ∧ ((s[k]).toNat : Int) ≤ 102) ∨ ((s[k]).toNat : Int) < 48 ∨ (57 < ((s[k]).toNat : Int) ∧ ((s[k]).toNat : Int) < 97) ∨ 102 < ((s[k]).toNat : Int)) with ⟨c1, c2⟩ | ⟨c1, c2⟩ | c1 | ⟨c1, c2⟩ | c1
        · skip
          have HV := Lib.hid (vN_yes (L := s.data.toList.take 16) (k := k) (X := X) (d := (s[k]).toNat - 48) (by simp; omega) (by rw [take_at hks hlt]; unfold digN; first | rw [if_pos (by omega)] | rw [if_neg (by omega), if_pos (by omega)]))
          have hor := or_dig (X := X) (d := (s[k]).toNat - 48) (by have := pow16 k (by omega); omega) (by omega)
          go_wp2_with fail
          go_roundw
          case rel =>
            refine ⟨k + 1, X * 16 + ((s[k]).toNat - 48), by omega, by go_num, ?_, by rw [Nat.pow_succ]; omega, by rw [hL, HV.out], trivial⟩
            rw [← hor]
            congr 2
            omega
          case measure => simp [intOf]; omega
        · skip
          have c3 : 57 < ((s[k]).toNat : Int) := by omega
          have HV := Lib.hid (vN_yes (L := s.data.toList.take 16) (k := k) (X := X) (d := (s[k]).toNat - 87) (by simp; omega) (by rw [take_at hks hlt]; unfold digN; first | rw [if_pos (by omega)] | rw [if_neg (by omega), if_pos (by omega)]))
          have hor := or_dig (X := X) (d := (s[k]).toNat - 87) (by have := pow16 k (by omega); omega) (by omega)
          go_wp2_with fail
          go_roundw
          case rel =>
            refine ⟨k + 1, X * 16 + ((s[k]).toNat - 87), by omega, by go_num, ?_, by rw [Nat.pow_succ]; omega, by rw [hL, HV.out], trivial⟩
            rw [← hor]
            congr 2
            omega
          case measure => simp [intOf]; omega
        · skip
          have c3 : ((s[k]).toNat : Int) < 97 := by omega
          have HV := Lib.hid (vN_no (L := s.data.toList.take 16) (k := k) (X := X) (by simp; omega) (by rw [take_at hks hlt]; unfold digN; rw [if_neg (by omega), if_neg (by omega)]))
          go_wp2_with fail
          go_ret2
          exact ⟨by rw [HS.out, hL, HV.out]; rfl, rfl⟩
        · skip
          have HV := Lib.hid (vN_no (L := s.data.toList.take 16) (k := k) (X := X) (by simp; omega) (by rw [take_at hks hlt]; unfold digN; rw [if_neg (by omega), if_neg (by omega)]))
          go_wp2_with fail
          go_ret2
          exact ⟨by rw [HS.out, hL, HV.out]; rfl, rfl⟩
        · skip
          have c3 : 97 ≤ ((s[k]).toNat : Int) := by omega
          have c4 : 57 < ((s[k]).toNat : Int) := by omega
          have HV := Lib.hid (vN_no (L := s.data.toList.take 16) (k := k) (X := X) (by simp; omega) (by rw [take_at hks hlt]; unfold digN; rw [if_neg (by omega), if_neg (by omega)]))
          go_wp2_with fail
          go_ret2
          exact ⟨by rw [HS.out, hL, HV.out]; rfl, rfl⟩
      · have hk16 : k = 16 := by omega
        subst hk16
        go_wp2
        go_ret2
        have e : vN ((s.data.toList.take 16).drop 16) X = some X := by rw [List.drop_eq_nil_of_le (by simp; omega)]; rfl
        exact ⟨by rw [HS.out, hL, e]; rfl, rfl⟩
end Go.Proofs.Ytfolabkgeeeobaa
