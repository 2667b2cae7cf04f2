/-
  Timer: Due in one form, walk over the law's few, the worlds that both sets of timers lead to. Condition: the state is one that the calls make.
-/
import Derived.Test.YtmkcpgdjbbcigaaWv
namespace Go.Proofs.Ytmkcpgdjbbcigaa
open Go.RowKit
set_option linter.unusedVariables false

theorem rdue_any (B p : Nat) (s : TS) (u : Int) (hl : s.ts.length < 1000) (w : World) (hBw : B ≤ w.heap.size) (r : RRep w B p s) :
    Calls Try.prog 20 #[.pointer (some ⟨p, 0, none⟩), .int .i64 u] w (RDueRet B p s u w) := by
  by_cases h : u < s.now
  · exact rdue_past B p s u h w r
  · exact rdue_now B p s u h hl w hBw r
theorem RRep.mono {w : World} {B B' p : Nat} {s : TS} (h : RRep w B p s) (hB : B' ≤ B) : RRep w B' p s := by
  obtain ⟨h1, A, c, h2, h3⟩ := h
  exact ⟨Nat.le_trans hB h1, A, c, h2, h3.mono hB⟩
/-- A step of the law. -/
structure St where
  call : Int
  id : ByteArray
  at_ : Int
def stC (x : St) : List Value := [.int .u8 x.call, .string x.id, .int .i64 x.at_]
theorem stC3 (x : St) : (stC x).length = 3 := rfl
def FewRet (w : World) (e : Ending) (w' : World) : Prop := (∃ b, e = .returned (.bool b)) ∧ w = w'
theorem few_any (A : Option Addr) (n c : Nat) (l : List St) (w : World) (hz : l.length = n) (hm : n ≤ 9223372036854775807) (hr : RD w A (n * 3) (l.flatMap stC)) :
    Calls Try.prog 8 #[.slice A n c, .int .i64 80] w (FewRet w) := by
  have HR := Lib.hid hr
  have HZ := Lib.hid hz
  clear hr hz
  go_enter Try.func8, Try.ntmps8
  go_wp2_with fail
  go_loopw [5] (fun i wr => ∃ k : Nat, k ≤ n ∧ i = .int .i64 k ∧ wr = w) (fun i _ => n - (intOf i).toNat)
  case atStart => exact ⟨0, by omega, rfl, rfl⟩
  case round =>
    obtain ⟨k, hk, rfl, rfl⟩ := hrel
    by_cases hlt : k < n
    · by_cases h80 : 80 ≤ (k : Int)
      · go_wp2_with fail
        go_ret
        exact ⟨⟨false, rfl⟩, rfl⟩
      · obtain ⟨bb, off, rfl, hbl, hcell⟩ := HR.out.2 (by omega)
        have hx : l[k]? = some (l[k]'(by rw [HZ.out]; exact hlt)) := List.getElem?_eq_getElem _
        have g1 := hcell (k * 3 + 1) (.string (l[k]'(by rw [HZ.out]; exact hlt)).id) (by rw [atM stC 3 stC3 l k _ 1 hx (by decide)]; rfl)
        rw [← Nat.add_assoc] at g1
        clear hcell hx
        generalize (l[k]'(by rw [HZ.out]; exact hlt)).id = key at g1
        by_cases h100 : 100 < (key.size : Int)
        · go_wp2_with fail
          go_ret
          exact ⟨⟨false, rfl⟩, rfl⟩
        · go_wp2_with fail
          go_roundw
          case rel => exact ⟨k + 1, by omega, by go_num, trivial⟩
          case measure => simp [intOf]; omega
    · go_wp2_with fail
      go_ret
      exact ⟨⟨true, rfl⟩, rfl⟩
/-- The worlds that the calls of both sets lead to. -/
def TC (B : Nat) (w x : World) : Prop := Turn B [52, 61, 55] false w x
theorem TC.v {B : Nat} {w x y : World} (h : TC B w x) (k : Turn B [52, 61] false x y) : TC B w y := Turn.trans h (k.mono (Nat.le_refl _) (fun t ht => by simp at ht ⊢; rcases ht with rfl | rfl <;> simp) id)
theorem TC.r {B : Nat} {w x y : World} (h : TC B w x) (k : Turn B [55] false x y) : TC B w y := Turn.trans h (k.mono (Nat.le_refl _) (fun t ht => by simp at ht ⊢; subst ht; simp) id)
theorem TC.b {B : Nat} {w x y : World} (h : TC B w x) (k : Below x.heap.size x y) (hB : B ≤ w.heap.size) : TC B w y := Turn.call h k hB
end Go.Proofs.Ytmkcpgdjbbcigaa
