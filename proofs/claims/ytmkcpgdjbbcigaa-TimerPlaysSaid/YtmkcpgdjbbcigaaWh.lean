/-
  Timer: walk over isIdentification. No condition.
-/
import Derived.Test.YtmkcpgdjbbcigaaWg
namespace Go.Proofs.Ytmkcpgdjbbcigaa
open Go.RowKit
set_option linter.unusedVariables false

set_option maxRecDepth 100000 in
set_option maxHeartbeats 1600000 in
theorem ident_len (k : ByteArray) (h : 16 < k.size) (w : World) : Calls Try.prog 30 #[.string k] w fun e w' => e = .returned (.bool false) ∧ w = w' := by
  have h2 : (16 : Int) < (k.size : Int) := by omega
  have h3 : ¬ (k.size : Int) < 1 := by omega
  go_enter Try.func30, Try.ntmps30
  go_wp2
  go_ret
  exact ⟨rfl, rfl⟩

theorem okc_iff (b : UInt8) : okc b = true ↔ ((97 ≤ (b.toNat : Int) ∧ (b.toNat : Int) ≤ 122) ∨ (65 ≤ (b.toNat : Int) ∧ (b.toNat : Int) ≤ 90) ∨ (48 ≤ (b.toNat : Int) ∧ (b.toNat : Int) ≤ 57) ∨ (b.toNat : Int) = 95 ∨ (b.toNat : Int) = 45) := by
  unfold okc
  simp only [Bool.or_eq_true, Bool.and_eq_true, decide_eq_true_eq, UInt8.le_iff_toNat_le, beq_iff_eq, ← UInt8.toNat_inj]
  simp
  omega
theorem ident_any (k : ByteArray) (h1 : 1 ≤ k.size) (h2 : k.size ≤ 16) (w : World) : Calls Try.prog 30 #[.string k] w fun e w' => e = .returned (.bool (k.data.toList.all okc)) ∧ w = w' := by
  have h3 : ¬ (16 : Int) < (k.size : Int) := by omega
  have h4 : ¬ (k.size : Int) < 1 := by omega
  have hkb : ¬ k.toList = [] := by
    intro e
    have h5 : k.toList.length = k.size := by rw [ByteArray.toList_eq]; simp
    rw [e] at h5
    simp at h5
    omega
  have hkc : k.toList.isEmpty = false := by cases h : k.toList with
    | nil => exact absurd h hkb
    | cons x l => rfl
  obtain ⟨t, ht⟩ : ∃ t, k.data.toList.all okc = t := ⟨_, rfl⟩
  rw [ht]
  have HT := Lib.hid ht
  clear ht
  go_enter Try.func30, Try.ntmps30
  go_wp2_with fail
  go_loopw [17] (fun i wr => ∃ j : Nat, j ≤ k.size ∧ i = .int .i64 j ∧ (∀ m x, m < j → k.data.toList[m]? = some x → okc x = true) ∧ wr = w) (fun i _ => k.size - (intOf i).toNat)
  case atStart => exact ⟨0, by omega, rfl, fun m x h => by omega, rfl⟩
  case round =>
    obtain ⟨j, hj, rfl, hok, rfl⟩ := hrel
    have HO := Lib.hid hok
    clear hok
    by_cases hlt : j < k.size
    · have hx : k.data.toList[j]? = some k[j] := by
        have hs : k.data.toList.length = k.size := by simp
        rw [List.getElem?_eq_getElem (by omega)]
        simp
        rfl
      have HX := Lib.hid hx
      clear hx
      go_wp2_with fail
      all_goals first
        | (refine ⟨⟨j + 1, by omega, by push_cast; rfl, ?_, trivial⟩, by simp [intOf]; omega⟩
           intro m x hm hxm
           by_cases e : m = j
           · subst e
             rw [HX.out] at hxm
             injection hxm with hxm
             subst hxm
             rw [okc_iff]
             clear HO HX HT
             first
               | omega
               | (simp only [Bool.not_eq_false', decide_eq_true_eq, bne_eq_false_iff_eq] at *
                  omega)
           · exact HO.out m x (by omega) hxm)
        | (have htf : t = false := by
             rw [← HT.out, List.all_eq_false]
             refine ⟨_, List.mem_of_getElem? HX.out, ?_⟩
             rw [okc_iff]
             clear HO HT
             first
               | omega
               | (simp only [bne_iff_ne, ne_eq] at *
                  omega)
           subst htf
           go_ret
           exact ⟨rfl, rfl⟩)
        | skip
    · have hall : k.data.toList.all okc = true := by
        rw [List.all_eq_true]
        intro x hx
        obtain ⟨m, hm, rfl⟩ := List.mem_iff_getElem.1 hx
        have hs : k.data.toList.length = k.size := by simp
        exact HO.out m _ (by omega) (List.getElem?_eq_getElem hm)
      go_wp2_with fail
      go_ret
      exact ⟨by rw [← HT.out, hall]; rfl, rfl⟩
end Go.Proofs.Ytmkcpgdjbbcigaa
