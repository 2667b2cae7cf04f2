/-
  Forward: walks over New, isTime, find and what find calls. Condition: the state is one that the calls make.
-/
import Derived.Test.YthjgfheogbchkaaPa
namespace Go.Proofs.Ythjgfheogbchkaa
open Go.RowKit
set_option linter.unusedVariables false

/-- The program's queue at block p. -/
def FRep (w : World) (B p : Nat) (q : FQ) : Prop :=
  B ≤ p ∧ ∃ mb A c, Blk w p 43 #[.int .i64 q.retry, .map (some mb), .slice A q.ws.length c] ∧ B ≤ mb ∧ HM Try.prog 9 w mb q.kn.length (fun s => if s ∈ q.kn then some (.bool true) else none) ∧ rowL w B 46 4 A q.ws.length c (q.ws.flatMap enC)
theorem FRep.drewN {w : World} {B p : Nat} {q : FQ} (h : FRep w B p q) (i : Nat) : FRep (w.drewN i) B p q := h
theorem FRep.call {w w' : World} {B p : Nat} {q : FQ} (h : FRep w B p q) (hb : Below w.heap.size w w') : FRep w' B p q := by
  obtain ⟨h1, mb, A, c, h2, h3, h4, h5⟩ := h
  exact ⟨h1, mb, A, c, h2.call hb, h3, h4.call hb, h5.call hb⟩
theorem blk3_c0 {w : World} {g : Nat} {t : TypeId} {a b c : Value} (h : Blk w g t #[a, b, c]) : w.cell? ⟨g, 0, none⟩ = some a := h.c 0 a rfl
theorem blk3_c1 {w : World} {g : Nat} {t : TypeId} {a b c : Value} (h : Blk w g t #[a, b, c]) : w.cell? ⟨g, 1, none⟩ = some b := h.c 1 b rfl
theorem blk3_c2 {w : World} {g : Nat} {t : TypeId} {a b c : Value} (h : Blk w g t #[a, b, c]) : w.cell? ⟨g, 2, none⟩ = some c := h.c 2 c rfl
theorem blk3_set2 {w : World} {g : Nat} {t : TypeId} {a b c : Value} (h : Blk w g t #[a, b, c]) (u : Value) : Blk (w.setCell ⟨g, 2, none⟩ u) g t #[a, b, u] := by simpa using h.set_ 2 u

theorem isTime_any (n : Int) (w : World) : Calls Try.prog 14 #[.int .i64 n] w fun e w' => e = .returned (.bool (decide (isT n))) ∧ w = w' := by
  by_cases h : isT n
  · rw [decide_eq_true h]
    obtain ⟨h1, h2⟩ := h
    go_enter Try.func14, Try.ntmps14
    go_wp2
    go_ret
    exact ⟨rfl, rfl⟩
  · rw [decide_eq_false h]
    unfold isT at h
    by_cases h1 : 0 ≤ n
    · have h2 : ¬ n ≤ 1099511627776 := by omega
      clear h
      go_enter Try.func14, Try.ntmps14
      go_wp2
      go_ret
      exact ⟨rfl, rfl⟩
    · clear h
      go_enter Try.func14, Try.ntmps14
      go_wp2
      go_ret
      exact ⟨rfl, rfl⟩

theorem new_ok (n : Int) (h1 : 1 ≤ n) (h2 : n ≤ 100000) (w : World) : Calls Try.prog 6 #[.int .i64 n] w fun e w' => ∃ p, e = .returned (.tuple #[.pointer (some ⟨p, 0, none⟩), .int .i64 0]) ∧ FRep w' w.heap.size p ⟨n, [], []⟩ ∧ Below w.heap.size w w' := by
  have k1 : ¬ n < 1 := by omega
  have k2 : ¬ 100000 < n := by omega
  have hmk := @run_makeMap Try.prog
  have B1 : Blk ((w.alloc (.map #[] 0)).alloc (.cells #[.int .i64 n, .map (some w.heap.size), .slice none 0 0] 43)) (w.heap.size + 1) 43 #[.int .i64 n, .map (some w.heap.size), .slice none 0 0] := by simpa using Blk.new (w.alloc (.map #[] 0)) 43 #[.int .i64 n, .map (some w.heap.size), .slice none 0 0]
  go_enter Try.func6, Try.ntmps6
  go_wp2
  go_ret2
  refine ⟨_, rfl, ⟨by simp, _, none, 0, B1, Nat.le_refl _, ?_, rowL.nil _ _ _ _⟩, ((Below.refl _ _).alloc (Nat.le_refl _) _).alloc (by simp) _⟩
  exact ((HM.made Try.prog 9 w).alloc _)

/-- What the closure captured: the key. -/
theorem same_any (x : En) (key : ByteArray) (g : Nat) (w : World) (hg : w.cell? ⟨g, 0, none⟩ = some (.string key)) :
    Calls Try.prog 17 #[.agg #[.string x.key, .string x.text, .int .i64 x.due, .int .i64 x.tries], .pointer (some ⟨g, 0, none⟩)] w fun e w' => e = .returned (.bool (x.key.toList == key.toList)) ∧ Below w.heap.size w w' := by
  have hlt := World.block_lt_of_cell? _ _ hg
  have hg2 : (w.alloc (.cells #[.string x.key, .string x.text, .int .i64 x.due, .int .i64 x.tries] 46)).cell? ⟨g, 0, none⟩ = some (.string key) := (((Below.refl _ _).alloc (Nat.le_refl _) _).cell hlt).trans hg
  have hn := Blk.new w 46 #[.string x.key, .string x.text, .int .i64 x.due, .int .i64 x.tries]
  have hn0 := hn.c 0 _ rfl
  go_enter Try.func17, Try.ntmps17
  go_wp2
  go_ret
  exact ⟨rfl, (Below.refl _ _).alloc (Nat.le_refl _) _⟩

theorem flag {a b : ByteArray} {t : Bool} (h : (a.toList == b.toList) = t) : (a.toList == b.toList) = t := h
theorem indexFunc_any (B : Nat) (A : Option Addr) (c : Nat) (l : List En) (key : ByteArray) (g : Nat) (w : World) (hr : rowL w B 46 4 A l.length c (l.flatMap enC)) (hg : w.cell? ⟨g, 0, none⟩ = some (.string key)) :
    Calls Try.prog 16 #[.slice A l.length c, .func (.func 17) #[] #[.pointer (some ⟨g, 0, none⟩)]] w fun e w' => e = .returned (.int .i64 (idxI (findK key l))) ∧ Below w.heap.size w w' := by
  have hglt := World.block_lt_of_cell? _ _ hg
  have HR := Lib.hid hr
  have HG := Lib.hid hg
  have hlen := hr.len
  clear hr hg
  go_enter Try.func16, Try.ntmps16
  go_wp2_with fail
  go_loopw [8] (fun i wr => ∃ k : Nat, k ≤ l.length ∧ i = .int .i64 k ∧ noneK key l k ∧ Below w.heap.size w wr) (fun i _ => l.length - (intOf i).toNat)
  case atStart => exact ⟨0, by omega, rfl, noneK_zero _ _, Below.refl _ _⟩
  case round =>
    obtain ⟨k, hk, rfl, hno, hb⟩ := hrel
    have HB := Lib.hid hb
    have HN := Lib.hid hno
    clear hb hno
    by_cases hlt : k < l.length
    · obtain ⟨ga, rfl, hBg, hgs, hcell, _⟩ := (HR.out.call HB.out).cells (by omega)
      have hu : l[k]? = some l[k] := List.getElem?_eq_getElem hlt
      have g0 := hcell (k * 4) (.string l[k].key) (by have := atM enC 4 enC4 l k _ 0 hu (by decide); simpa [enC] using this)
      have g1 := hcell (k * 4 + 1) (.string l[k].text) (by rw [atM enC 4 enC4 l k _ 1 hu (by decide)]; rfl)
      have g2 := hcell (k * 4 + 2) (.int .i64 l[k].due) (by rw [atM enC 4 enC4 l k _ 2 hu (by decide)]; rfl)
      have g3 := hcell (k * 4 + 3) (.int .i64 l[k].tries) (by rw [atM enC 4 enC4 l k _ 3 hu (by decide)]; rfl)
      have HU := Lib.hid hu
      have HC := Lib.hid (same_any l[k] key g wr ((HB.out.cell hglt).trans HG.out))
      clear hcell hu
      generalize l[k] = x at g0 g1 g2 g3 HU HC
      by_cases he : x.key.toList = key.toList
      · have hbq : (x.key.toList == key.toList) = true := by simpa using he
        have HE := Lib.hid he
        clear he
        go_wp2_with (go_at_call 17; refine HC.out.mono ?_; rintro e w2 ⟨rfl, hb2⟩; rw [hbq])
        go_ret
        exact ⟨by rw [findK_some HN.out HU.out HE.out]; rfl, HB.out.trans (hb2.mono HB.out.size)⟩
      · have hbq : (x.key.toList == key.toList) = false := by simpa using he
        have HE := Lib.hid he
        clear he
        go_wp2_with (go_at_call 17; refine HC.out.mono ?_; rintro e w2 ⟨rfl, hb2⟩; rw [hbq])
        go_roundw
        case rel => exact ⟨k + 1, by omega, by go_num, noneK_succ HN.out HU.out HE.out, HB.out.trans (hb2.mono HB.out.size)⟩
        case measure => simp [intOf]; omega
    · have hkn : k = l.length := by omega
      have HT : Hid (findK key l = none) := Lib.hid (findK_none (by rw [← hkn]; exact HN.out))
      clear hkn
      go_wp2_with fail
      go_ret
      exact ⟨by rw [HT.out]; rfl, HB.out⟩

theorem find_any (B p : Nat) (q : FQ) (key : ByteArray) (w : World) (r : FRep w B p q) :
    Calls Try.prog 15 #[.pointer (some ⟨p, 0, none⟩), .string key] w fun e w' => e = .returned (.int .i64 (idxI (findK key q.ws))) ∧ Below w.heap.size w w' := by
  obtain ⟨hB, mb, A, c, B0, hmb, hm, hr⟩ := r
  have B1 := B0.alloc (.cells #[.string key] 9)
  have c2 := blk3_c2 B1
  have HI := Lib.hid (indexFunc_any B A c q.ws key w.heap.size (w.alloc (.cells #[.string key] 9)) (hr.alloc _) ((Blk.new w 9 #[.string key]).c 0 _ rfl))
  clear hr hm
  have hmf : ∀ (fn : Fn) (first cap : Array Value) (w : World), (Instr.makeFunc fn first cap).run Try.prog w = .ok (.func fn first cap) w := fun _ _ _ _ => rfl
  go_enter Try.func15, Try.ntmps15
  go_wp2_with (go_at_call 16; refine HI.out.mono ?_; rintro e w2 ⟨rfl, hb2⟩)
  go_ret
  exact ⟨rfl, ((Below.refl _ _).alloc (Nat.le_refl _) _).trans (hb2.mono (by simp))⟩
end Go.Proofs.Ythjgfheogbchkaa
