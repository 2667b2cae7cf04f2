/-
  Timer: walks over New, possible, earlier, find and what find calls. Condition: the state is one that the calls make.
-/
import Derived.Test.YtmkcpgdjbbcigaaPa
namespace Go.Proofs.Ytmkcpgdjbbcigaa
open Go.RowKit
set_option linter.unusedVariables false

/-- The program's timers at block p. -/
def TRep (w : World) (B p : Nat) (s : TS) : Prop :=
  B ≤ p ∧ ∃ A c, Blk w p 52 #[.int .i64 s.now, .slice A s.ts.length c] ∧ rowL w B 61 2 A s.ts.length c (s.ts.flatMap tiC)
theorem TRep.drewN {w : World} {B p : Nat} {s : TS} (h : TRep w B p s) (i : Nat) : TRep (w.drewN i) B p s := h
theorem TRep.call {w w' : World} {B p : Nat} {s : TS} (h : TRep w B p s) (hb : Below w.heap.size w w') : TRep w' B p s := by
  obtain ⟨h1, A, c, h2, h5⟩ := h
  exact ⟨h1, A, c, h2.call hb, h5.call hb⟩

theorem new_ok (w : World) : Calls Try.prog 10 #[] w fun e w' => e = .returned (.pointer (some ⟨w.heap.size, 0, none⟩)) ∧ TRep w' w.heap.size w.heap.size ⟨0, []⟩ ∧ Below w.heap.size w w' := by
  go_enter Try.func10, Try.ntmps10
  go_wp2
  go_ret
  exact ⟨rfl, ⟨Nat.le_refl _, none, 0, Blk.new _ _ _, rowL.nil _ _ _ _⟩, (Below.refl _ _).alloc (Nat.le_refl _) _⟩

def posT (now a : Int) : Prop := now ≤ a ∧ a ≤ 1099511627776
instance (now a : Int) : Decidable (posT now a) := by unfold posT; exact inferInstance
theorem possible_any (B p : Nat) (s : TS) (a : Int) (w : World) (r : TRep w B p s) : Calls Try.prog 31 #[.pointer (some ⟨p, 0, none⟩), .int .i64 a] w fun e w' => e = .returned (.bool (decide (posT s.now a))) ∧ w = w' := by
  obtain ⟨hB, A, c, B0, hr⟩ := r
  have c0 := B0.c0
  clear hr
  by_cases h : posT s.now a
  · rw [decide_eq_true h]
    obtain ⟨h1, h2⟩ := h
    go_enter Try.func31, Try.ntmps31
    go_wp2
    go_ret
    exact ⟨rfl, rfl⟩
  · rw [decide_eq_false h]
    unfold posT at h
    by_cases h1 : s.now ≤ a
    · have h2 : ¬ a ≤ 1099511627776 := by omega
      clear h
      go_enter Try.func31, Try.ntmps31
      go_wp2
      go_ret
      exact ⟨rfl, rfl⟩
    · clear h
      go_enter Try.func31, Try.ntmps31
      go_wp2
      go_ret
      exact ⟨rfl, rfl⟩

theorem earlier_any (x y : Ti) (w : World) :
    Calls Try.prog 34 #[.agg #[.string x.id, .int .i64 x.at_], .agg #[.string y.id, .int .i64 y.at_]] w fun e w' => e = .returned (.bool (decide (x.at_ < y.at_))) ∧ Below w.heap.size w w' := by
  have B1 := Blk.new w 61 #[.string x.id, .int .i64 x.at_]
  have B2 := Blk.new (w.alloc (.cells #[.string x.id, .int .i64 x.at_] 61)) 61 #[.string y.id, .int .i64 y.at_]
  have c1 := (B1.alloc (.cells #[.string y.id, .int .i64 y.at_] 61)).c1
  have c2 := B2.c1
  rw [show (w.alloc (.cells #[.string x.id, .int .i64 x.at_] 61)).heap.size = w.heap.size + 1 by simp] at c2
  clear B1 B2
  go_enter Try.func34, Try.ntmps34
  go_wp2
  go_ret
  exact ⟨rfl, ((Below.refl _ _).alloc (Nat.le_refl _) _).alloc (by simp) _⟩

/-- What the closure captured: the identification. -/
theorem same_any (x : Ti) (key : ByteArray) (g : Nat) (w : World) (hg : w.cell? ⟨g, 0, none⟩ = some (.string key)) :
    Calls Try.prog 41 #[.agg #[.string x.id, .int .i64 x.at_], .pointer (some ⟨g, 0, none⟩)] w fun e w' => e = .returned (.bool (x.id.toList == key.toList)) ∧ Below w.heap.size w w' := by
  have hlt := World.block_lt_of_cell? _ _ hg
  have hg2 : (w.alloc (.cells #[.string x.id, .int .i64 x.at_] 61)).cell? ⟨g, 0, none⟩ = some (.string key) := (((Below.refl _ _).alloc (Nat.le_refl _) _).cell hlt).trans hg
  have hn := Blk.new w 61 #[.string x.id, .int .i64 x.at_]
  have hn0 := hn.c 0 _ rfl
  go_enter Try.func41, Try.ntmps41
  go_wp2
  go_ret
  exact ⟨rfl, (Below.refl _ _).alloc (Nat.le_refl _) _⟩

theorem indexFunc_any (B : Nat) (A : Option Addr) (c : Nat) (l : List Ti) (key : ByteArray) (g : Nat) (w : World) (hr : rowL w B 61 2 A l.length c (l.flatMap tiC)) (hg : w.cell? ⟨g, 0, none⟩ = some (.string key)) :
    Calls Try.prog 40 #[.slice A l.length c, .func (.func 41) #[] #[.pointer (some ⟨g, 0, none⟩)]] w fun e w' => e = .returned (.int .i64 (idxI (findK key l))) ∧ Below w.heap.size w w' := by
  have hglt := World.block_lt_of_cell? _ _ hg
  have HR := Lib.hid hr
  have HG := Lib.hid hg
  have hlen := hr.len
  clear hr hg
  go_enter Try.func40, Try.ntmps40
  go_wp2_with fail
  go_loopw [8] (fun i wr => ∃ k : Nat, k ≤ l.length ∧ i = .int .i64 k ∧ noneK key l k ∧ Below w.heap.size w wr) (fun i _ => l.length - (intOf i).toNat)
  case atStart => exact ⟨0, by omega, rfl, noneK_zero _ _, Below.refl _ _⟩
  case round =>
    obtain ⟨k, hk, rfl, hno, hb⟩ := hrel
    have HB := Lib.hid hb
    have HN := Lib.hid hno
    clear hb hno
    by_cases hlt : k < l.length
    · obtain ⟨ga, rfl, hBg, hgs, hcell, _⟩ := (HR.out.call HB.out).cells (by omega)
      have hu : l[k]? = some l[k] := List.getElem?_eq_getElem hlt
      have g0 := hcell (k * 2) (.string l[k].id) (by have := atM tiC 2 tiC2 l k _ 0 hu (by decide); simpa [tiC] using this)
      have g1 := hcell (k * 2 + 1) (.int .i64 l[k].at_) (by rw [atM tiC 2 tiC2 l k _ 1 hu (by decide)]; rfl)
      have HU := Lib.hid hu
      have HC := Lib.hid (same_any l[k] key g wr ((HB.out.cell hglt).trans HG.out))
      clear hcell hu
      generalize l[k] = x at g0 g1 HU HC
      by_cases he : x.id.toList = key.toList
      · have hbq : (x.id.toList == key.toList) = true := by simpa using he
        have HE := Lib.hid he
        clear he
        go_wp2_with (go_at_call 41; refine HC.out.mono ?_; rintro e w2 ⟨rfl, hb2⟩; rw [hbq])
        go_ret
        exact ⟨by rw [findK_some HN.out HU.out HE.out]; rfl, HB.out.trans (hb2.mono HB.out.size)⟩
      · have hbq : (x.id.toList == key.toList) = false := by simpa using he
        have HE := Lib.hid he
        clear he
        go_wp2_with (go_at_call 41; refine HC.out.mono ?_; rintro e w2 ⟨rfl, hb2⟩; rw [hbq])
        go_roundw
        case rel => exact ⟨k + 1, by omega, by go_num, noneK_succ HN.out HU.out HE.out, HB.out.trans (hb2.mono HB.out.size)⟩
        case measure => simp [intOf]; omega
    · have hkn : k = l.length := by omega
      have HT : Hid (findK key l = none) := Lib.hid (findK_none (by rw [← hkn]; exact HN.out))
      clear hkn
      go_wp2_with fail
      go_ret
      exact ⟨by rw [HT.out]; rfl, HB.out⟩

theorem find_any (B p : Nat) (s : TS) (key : ByteArray) (w : World) (r : TRep w B p s) :
    Calls Try.prog 32 #[.pointer (some ⟨p, 0, none⟩), .string key] w fun e w' => e = .returned (.int .i64 (idxI (findK key s.ts))) ∧ Below w.heap.size w w' := by
  obtain ⟨hB, A, c, B0, hr⟩ := r
  have B1 := B0.alloc (.cells #[.string key] 9)
  have c2 := B1.c1
  have HI := Lib.hid (indexFunc_any B A c s.ts key w.heap.size (w.alloc (.cells #[.string key] 9)) (hr.alloc _) ((Blk.new w 9 #[.string key]).c 0 _ rfl))
  clear hr
  have hmf : ∀ (fn : Fn) (first cap : Array Value) (w : World), (Instr.makeFunc fn first cap).run Try.prog w = .ok (.func fn first cap) w := fun _ _ _ _ => rfl
  go_enter Try.func32, Try.ntmps32
  go_wp2_with (go_at_call 40; refine HI.out.mono ?_; rintro e w2 ⟨rfl, hb2⟩)
  go_ret
  exact ⟨rfl, ((Below.refl _ _).alloc (Nat.le_refl _) _).trans (hb2.mono (by simp))⟩
end Go.Proofs.Ytmkcpgdjbbcigaa
