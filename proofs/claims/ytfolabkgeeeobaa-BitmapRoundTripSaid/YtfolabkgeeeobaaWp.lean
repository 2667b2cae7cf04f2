/-
  Walk over cardnetref05.read. Condition: at most 16 bytes.
-/
import Derived.Test.YtfolabkgeeeobaaWo
namespace Go.Proofs.Ytfolabkgeeeobaa
open Go.RowKit
def lookI (c : UInt8) : Nat → Int
  | 0 => -1
  | m + 1 => if (c.toNat : Int) = ((hexd m).toNat : Int) then (m : Int) else lookI c m
def rdRes : Option Nat → Int × Bool
  | some x => ((x : Int), true)
  | none => (0, false)
theorem look16 (c : UInt8) : lookI c 16 = match digN c with | some d => (d : Int) | none => -1 := by
  have h : ∀ m : Fin 256, lookI (UInt8.ofNat m.val) 16 = match digN (UInt8.ofNat m.val) with | some d => (d : Int) | none => -1 := by decide +kernel
  have := h ⟨c.toNat, c.toNat_lt⟩
  simpa using this
set_option maxRecDepth 100000 in
set_option maxHeartbeats 800000 in
theorem read_any (s : ByteArray) (w : World) (hm : s.size ≤ 16) :
    Calls Try.prog 34 #[.string s] w fun e w' => e = .returned (.tuple #[.int .u64 (rdRes (vN s.data.toList 0)).1, .bool (rdRes (vN s.data.toList 0)).2]) ∧ ∃ q, w' = w.drewN q := by
  have hsz : s.data.toList.length = s.size := by simp
  go_enter Try.func34, Try.ntmps34
  go_wp2_with fail
  go_loopw [4, 5] (fun x i wr => ∃ (k X q : Nat), k ≤ s.size ∧ i = .int .i64 k ∧ x = .int .u64 (X : Int) ∧ X < 16 ^ k ∧ vN s.data.toList 0 = vN (s.data.toList.drop k) X ∧ wr = w.drewN q) (fun _ i _ => s.size - (intOf i).toNat)
  case atStart => exact ⟨0, 0, 0, by omega, rfl, rfl, by decide, rfl, rfl⟩
  case round =>
    obtain ⟨k, X, q, hk, rfl, rfl, hX, hL, rfl⟩ := hrel
    by_cases hlt : k < s.size
    · go_wp2_with fail
      go_loopw [6, 7] (fun z j wr => ∃ (m q : Nat), m ≤ 16 ∧ j = .int .i64 m ∧ z = .int .i64 (lookI s[k] m) ∧ wr = w.drewN q) (fun _ j _ => 16 - (intOf j).toNat)
      case atStart => exact ⟨0, q, by omega, rfl, rfl, rfl⟩
      case round =>
        obtain ⟨m, q2, hm2, rfl, rfl, rfl⟩ := hrel
        by_cases hlt2 : m < 16
        · have hd := dgt_at m hlt2
          by_cases hc : ((s[k]).toNat : Int) = ((hexd m).toNat : Int)
          · have hcb : (((s[k]).toNat : Int) == ((dgt[m]).toNat : Int)) = true := by rw [hd]; simpa using hc
            have HC : Hid (lookI s[k] (m + 1) = m) := Lib.hid (by rw [lookI, if_pos hc])
            clear hc hd
            unfold dgt at hcb
            go_wp2_with fail
            go_quiet (fail)
            go_wp2_with fail
            go_roundw
            case rel => exact ⟨m + 1, _, by omega, by go_num, by rw [HC.out], rfl⟩
            case measure => simp [intOf]; omega
          · have hcb : (((s[k]).toNat : Int) == ((dgt[m]).toNat : Int)) = false := by rw [hd]; simpa using hc
            have HC : Hid (lookI s[k] (m + 1) = lookI s[k] m) := Lib.hid (by rw [lookI, if_neg hc])
            clear hc hd
            unfold dgt at hcb
            go_wp2_with fail
            go_quiet (fail)
            go_wp2_with fail
            go_roundw
            case rel => exact ⟨m + 1, _, by omega, by go_num, by rw [HC.out], rfl⟩
            case measure => simp [intOf]; omega
        · have hm16 : m = 16 := by omega
          subst hm16
          have hks : k < s.data.toList.length := by omega
          have hat : s.data.toList[k] = s[k] := rfl
          cases hd : digN s[k] with
          | some d =>
            have hl : lookI s[k] 16 = d := by rw [look16, hd]
            have hd16 : d < 16 := by unfold digN at hd; split at hd <;> (try split at hd) <;> simp at hd <;> omega
            have HV := Lib.hid (vN_yes (L := s.data.toList) (k := k) (X := X) hks (by rw [hat]; exact hd))
            have hp := pow16 k (by omega)
            have e1 : IntKind.u64.wrap ((X : Int) * 16) = ((X * 16 : Nat) : Int) := by rw [IntKind.wrap_u64]; omega
            have e2 : IntKind.u64.wrap (((X * 16 : Nat) : Int) + (d : Int)) = ((X * 16 + d : Nat) : Int) := by rw [IntKind.wrap_u64]; omega
            rw [hl]
            clear hl
            go_wp2_with fail
            go_roundw
            case rel =>
              refine ⟨k + 1, X * 16 + d, _, by omega, by go_num, ?_, by rw [Nat.pow_succ]; omega, by rw [hL, HV.out], rfl⟩
              simp
            case measure => simp [intOf]; omega
          | none =>
            have hl : lookI s[k] 16 = -1 := by rw [look16, hd]
            have HV := Lib.hid (vN_no (L := s.data.toList) (k := k) (X := X) hks (by rw [hat]; exact hd))
            rw [hl]
            clear hl
            go_wp2_with fail
            go_ret2
            exact ⟨by rw [hL, HV.out]; rfl, _, rfl⟩
    · have hks : k = s.size := by omega
      subst hks
      go_wp2
      go_ret2
      have e : vN (s.data.toList.drop s.size) X = some X := by rw [← hsz, List.drop_length]; rfl
      exact ⟨by rw [hL, e]; rfl, _, rfl⟩
end Go.Proofs.Ytfolabkgeeeobaa
