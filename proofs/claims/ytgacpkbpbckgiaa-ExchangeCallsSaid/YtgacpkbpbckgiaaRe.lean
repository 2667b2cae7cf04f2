/-
  Exchange: walks over the law's short and time. Condition: the calls are a slice that lies as the language lays it.
-/
import Derived.Test.YtgacpkbpbckgiaaRd
namespace Go.Proofs.Ytgacpkbpbckgiaa
open Go.RowKit
set_option linter.unusedVariables false

/-- A call of the law. -/
structure Opn where
  kd : Int
  at_ : Int
  lt : Bool
  key : ByteArray
  txt : ByteArray
def opC (x : Opn) : List Value := [.int .i64 x.kd, .int .i64 x.at_, .bool x.lt, .string x.key, .string x.txt]
theorem opC5 (x : Opn) : (opC x).length = 5 := rfl
def ShortRet (n : Nat) (w : World) (e : Ending) (w' : World) : Prop := (∃ b, e = .returned (.bool b) ∧ (b = true → n ≤ 60)) ∧ w = w'
theorem short_any (A : Option Addr) (n c : Nat) (l : List Opn) (w : World) (hz : l.length = n) (hm : n ≤ 9223372036854775807) (hr : RD w A (n * 5) (l.flatMap opC)) :
    Calls Try.prog 10 #[.slice A n c, .int .i64 60] w (ShortRet n w) := by
  have HR := Lib.hid hr
  have HZ := Lib.hid hz
  clear hr hz
  go_enter Try.func10, Try.ntmps10
  go_wp2_with fail
  go_loopw [5] (fun i wr => ∃ k : Nat, k ≤ n ∧ i = .int .i64 k ∧ wr = w) (fun i _ => n - (intOf i).toNat)
  case atStart => exact ⟨0, by omega, rfl, rfl⟩
  case round =>
    obtain ⟨k, hk, rfl, rfl⟩ := hrel
    by_cases hlt : k < n
    · by_cases h80 : (k : Int) ≤ 60
      · obtain ⟨bb, off, rfl, hbl, hcell⟩ := HR.out.2 (by omega)
        have hx : l[k]? = some (l[k]'(by rw [HZ.out]; exact hlt)) := List.getElem?_eq_getElem _
        have g3 := hcell (k * 5 + 3) (.string (l[k]'(by rw [HZ.out]; exact hlt)).key) (by rw [atM opC 5 opC5 l k _ 3 hx (by decide)]; rfl)
        have g4 := hcell (k * 5 + 4) (.string (l[k]'(by rw [HZ.out]; exact hlt)).txt) (by rw [atM opC 5 opC5 l k _ 4 hx (by decide)]; rfl)
        rw [← Nat.add_assoc] at g3 g4
        clear hcell hx
        generalize (l[k]'(by rw [HZ.out]; exact hlt)).key = key at g3
        generalize (l[k]'(by rw [HZ.out]; exact hlt)).txt = txt at g4
        by_cases h100 : 100 < (key.size : Int)
        · go_wp2_with fail
          go_ret
          exact ⟨⟨false, rfl, fun h => by cases h⟩, rfl⟩
        · by_cases h4 : 4001 < (txt.size : Int)
          · go_wp2_with fail
            go_ret
            exact ⟨⟨false, rfl, fun h => by cases h⟩, rfl⟩
          · go_wp2_with fail
            go_roundw
            case rel => exact ⟨k + 1, by omega, by go_num, trivial⟩
            case measure => simp [intOf]; omega
      · have h6 : ¬ (n : Int) ≤ 60 := by omega
        go_wp2_with fail
        go_ret
        exact ⟨⟨_, rfl, fun h => by simp at h <;> omega⟩, rfl⟩
    · by_cases h6 : (n : Int) ≤ 60
      · go_wp2_with fail
        go_ret
        exact ⟨⟨_, rfl, fun h => by omega⟩, rfl⟩
      · go_wp2_with fail
        go_ret
        exact ⟨⟨_, rfl, fun h => by simp at h <;> omega⟩, rfl⟩
theorem time_any (x : Opn) (now : Int) (w : World) : Calls Try.prog 12 #[.agg #[.int .i64 x.kd, .int .i64 x.at_, .bool x.lt, .string x.key, .string x.txt], .int .i64 now] w fun e w' => (∃ v, e = .returned (.int .i64 v)) ∧ Below w.heap.size w w' := by
  obtain ⟨kd, a, lt, key, txt⟩ := x
  have BX := Blk.new w 33 #[.int .i64 kd, .int .i64 a, .bool lt, .string key, .string txt]
  have g1 := BX.c 1 _ rfl
  have g2 := BX.c 2 _ rfl
  clear BX
  have hb := Lib.hid ((Below.refl w.heap.size w).alloc (Nat.le_refl _) (.cells #[.int .i64 kd, .int .i64 a, .bool lt, .string key, .string txt] 33))
  cases lt with
  | false =>
    go_enter Try.func12, Try.ntmps12
    go_wp2_with fail
    go_ret
    exact ⟨⟨_, rfl⟩, hb.out⟩
  | true =>
    by_cases h1 : 0 ≤ a
    · by_cases h2 : a ≤ 200000
      · go_enter Try.func12, Try.ntmps12
        go_wp2_with fail
        go_ret
        exact ⟨⟨_, rfl⟩, hb.out⟩
      · go_enter Try.func12, Try.ntmps12
        go_wp2_with fail
        go_ret
        exact ⟨⟨_, rfl⟩, hb.out⟩
    · go_enter Try.func12, Try.ntmps12
      go_wp2_with fail
      go_ret
      exact ⟨⟨_, rfl⟩, hb.out⟩
end Go.Proofs.Ytgacpkbpbckgiaa
