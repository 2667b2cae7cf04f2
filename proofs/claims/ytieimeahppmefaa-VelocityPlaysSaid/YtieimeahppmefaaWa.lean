/-
  Velocity: walks over isTime, time and old. Condition: the state is one that the calls make.
-/
import Derived.Test.YtieimeahppmefaaPa
import Derived.Test.YtieimeahppmefaaObj
namespace Go.Proofs.Ytieimeahppmefaa
open Go.RowKit

def usC (u : Us) : List Value := [.string u.key, .int .i64 u.at_, .int .i64 u.am]
theorem usC3 (u : Us) : (usC u).length = 3 := rfl
/-- The program's windows at block p. -/
def VRep (w : World) (B p : Nat) (s : VS) : Prop :=
  B ≤ p ∧ ∃ A c, Blk w p 52 #[.int .i64 s.h, .int .i64 s.last, .slice A s.us.length c] ∧ w.ownsRow B 56 3 (.slice A s.us.length c) s.us.length (s.us.flatMap usC)
/-- The chapter's windows at block p. -/
def RRep (w : World) (B p : Nat) (s : VS) : Prop :=
  B ≤ p ∧ ∃ A c, Blk w p 61 #[.int .i64 s.h, .slice A s.us.length c, .int .i64 s.last] ∧ w.ownsRow B 64 3 (.slice A s.us.length c) s.us.length (s.us.flatMap usC)

theorem isTime_yes (n : Int) (w : World) (h : isT n) : Calls Try.prog 25 #[.int .i64 n] w fun e w' => e = .returned (.bool true) ∧ w = w' := by
  obtain ⟨h1, h2⟩ := h
  unfold maxTime at h2
  go_enter Try.func25, Try.ntmps25
  go_wp2
  go_ret
  exact ⟨rfl, rfl⟩
theorem isTime_no (n : Int) (w : World) (h : ¬ isT n) : Calls Try.prog 25 #[.int .i64 n] w fun e w' => e = .returned (.bool false) ∧ w = w' := by
  unfold isT maxTime at h
  by_cases h1 : 0 ≤ n
  · have h2 : ¬ n ≤ 1099511627776 := by omega
    clear h
    go_enter Try.func25, Try.ntmps25
    go_wp2
    go_ret
    exact ⟨rfl, rfl⟩
  · clear h
    go_enter Try.func25, Try.ntmps25
    go_wp2
    go_ret
    exact ⟨rfl, rfl⟩
theorem isTime_any (n : Int) (w : World) : Calls Try.prog 25 #[.int .i64 n] w fun e w' => e = .returned (.bool (decide (isT n))) ∧ w = w' := by
  by_cases h : isT n
  · rw [decide_eq_true h]; exact isTime_yes n w h
  · rw [decide_eq_false h]; exact isTime_no n w h
theorem time_any (n : Int) (w : World) : Calls Try.prog 29 #[.int .i64 n] w fun e w' => e = .returned (.bool (decide (isT n))) ∧ w = w' := by
  by_cases h : isT n
  · rw [decide_eq_true h]
    obtain ⟨h1, h2⟩ := h
    unfold maxTime at h2
    go_enter Try.func29, Try.ntmps29
    go_wp2
    go_ret
    exact ⟨rfl, rfl⟩
  · rw [decide_eq_false h]
    unfold isT maxTime at h
    by_cases h1 : 0 ≤ n
    · have h2 : ¬ n ≤ 1099511627776 := by omega
      clear h
      go_enter Try.func29, Try.ntmps29
      go_wp2
      go_ret
      exact ⟨rfl, rfl⟩
    · clear h
      go_enter Try.func29, Try.ntmps29
      go_wp2
      go_ret
      exact ⟨rfl, rfl⟩

theorem old_more {b : Int} {l : List Us} {k : Nat} (h : k < l.length) (ho : isOld b l[k] = true) : (oldL b (l.drop k)).length = (oldL b (l.drop (k + 1))).length + 1 := by
  rw [List.drop_eq_getElem_cons h]
  unfold oldL
  rw [List.takeWhile_cons_of_pos ho]
  rfl
theorem old_stop {b : Int} {l : List Us} {k : Nat} (h : k < l.length) (ho : isOld b l[k] = false) : (oldL b (l.drop k)).length = 0 := by
  rw [List.drop_eq_getElem_cons h]
  unfold oldL
  rw [List.takeWhile_cons_of_neg (by simp [ho])]
  rfl

set_option maxHeartbeats 400000 in
theorem old_any (B p : Nat) (s : VS) (o : s.Ok) (a : Int) (ha : isT a) (w : World) (r : VRep w B p s) :
    Calls Try.prog 26 #[.pointer (some ⟨p, 0, none⟩), .int .i64 a] w fun e w' => e = .returned (.int .i64 ((oldL (a - s.h) s.us).length : Nat)) ∧ ∃ q, w' = w.drewN q := by
  obtain ⟨hBp, A, c, B0, hown⟩ := r
  have c0 := fun n => (B0.drewN n).c 0 _ rfl
  have c2 := fun n => (B0.drewN n).c 2 _ rfl
  obtain ⟨h1, h2⟩ := ha
  unfold maxTime at h2
  have o1 := o.h1; have o2 := o.h2; have o3 := o.len
  have HO := Lib.hid hown
  clear hown
  go_enter Try.func26, Try.ntmps26
  go_wp2_with fail
  go_loopw [5] (fun i wr => ∃ (k q : Nat), k ≤ s.us.length ∧ i = .int .i64 k ∧ (oldL (a - s.h) s.us).length = k + (oldL (a - s.h) (s.us.drop k)).length ∧ wr = w.drewN q) (fun i _ => s.us.length - (intOf i).toNat)
  case atStart => exact ⟨0, 0, by omega, rfl, by simp, rfl⟩
  case round =>
    obtain ⟨k, q, hk, rfl, hL, rfl⟩ := hrel
    have HL := Lib.hid hL
    clear hL
    by_cases hlt : k < s.us.length
    · obtain ⟨g, rfl, hBg, hg, _, hcell, _⟩ := own_cells HO.out (by omega)
      have hc1 : ∀ n, (w.drewN n).cell? ⟨g, k * 3 + 1, none⟩ = some (.int .i64 (s.us[k]).at_) := fun n => hcell _ _ (by rw [at3 usC usC3 s.us k s.us[k] 1 (List.getElem?_eq_getElem hlt) (by decide)]; rfl)
      clear hcell
      cases ho : isOld (a - s.h) s.us[k] with
      | true =>
        have H := Lib.hid (old_more hlt ho)
        have hle : (s.us[k]).at_ ≤ a - s.h := by simpa [isOld] using ho
        clear ho
        go_wp2_with fail
        go_quiet (fail)
        go_wp2_with fail
        go_roundw
        case rel => exact ⟨k + 1, _, by omega, by go_num, by rw [HL.out, H.out]; omega, rfl⟩
        case measure => simp [intOf]; omega
      | false =>
        have H := Lib.hid (old_stop hlt ho)
        have hle : ¬ (s.us[k]).at_ ≤ a - s.h := by simpa [isOld] using ho
        clear ho
        go_wp2_with fail
        go_quiet (fail)
        go_wp2_with fail
        go_ret
        exact ⟨by rw [HL.out, H.out]; rfl, _, World.drewN_drewN _ _ _⟩
    · have hd : decide ((k : Int) < s.us.length) = false := by simp; omega
      have hk2 : k = s.us.length := by omega
      have H : Hid ((oldL (a - s.h) s.us).length = s.us.length) := Lib.hid (by rw [HL.out, hk2, List.drop_length]; rfl)
      go_wp2_with fail
      go_quiet (fail)
      go_wp2_with fail
      go_ret
      exact ⟨by rw [H.out]; simp; omega, _, World.drewN_drewN _ _ _⟩
end Go.Proofs.Ytieimeahppmefaa
