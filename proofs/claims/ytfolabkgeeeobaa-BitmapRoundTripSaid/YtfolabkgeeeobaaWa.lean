/-
  Walks over bitmap's and cardnetref05's small functions: clean, Union, Minus, isNumber, place, bit, Set. No condition beyond the numbers' bounds that each theorem names.
-/
import Derived.Test.YtfolabkgeeeobaaKit
namespace Go.Proofs.Ytfolabkgeeeobaa
open Go.RowKit

def orI (x y : Int) : Int := bits .or .u64 x y
def anI (x y : Int) : Int := bits .andNot .u64 x y
def ndI (x y : Int) : Int := bits .and .u64 x y
def clr (x : Int) : Int := bits .andNot .u64 x 9223372036854775808
def bitI (n : Int) : Int := IntKind.u64.wrap (2 ^ (63 - (n - 1) % 64).toNat)

theorem clean_any (x y : Int) (w : World) :
    Calls Try.prog 32 #[.agg #[.int .u64 x, .int .u64 y]] w fun e w' => e = .returned (.agg #[.int .u64 (clr x), .int .u64 y]) ∧ Below w.heap.size w w' := by
  go_enter Try.func32, Try.ntmps32
  go_wp2
  simp [bodyPost, results, Try.results32, go_sem]
  exact ⟨rfl, ((Below.refl _ _).alloc (Nat.le_refl _) _).alloc (by simp <;> omega) _⟩

theorem union_any (a b c d : Int) (w : World) :
    Calls Try.prog 12 #[.agg #[.int .u64 a, .int .u64 b], .agg #[.int .u64 c, .int .u64 d]] w fun e w' => e = .returned (.agg #[.int .u64 (clr (orI a c)), .int .u64 (orI b d)]) ∧ Below w.heap.size w w' := by
  go_enter Try.func12, Try.ntmps12
  go_wp2_with (go_at_call 32; refine (clean_any _ _ _).mono ?_; rintro e w1 ⟨rfl, hb⟩; have hc := fun b o h => hb.cell (p := ⟨b, o, none⟩) h; have hf := fun b o h => hb.frozen (p := ⟨b, o, none⟩) h)
  simp [bodyPost, results, Try.results12, go_sem, hc]
  refine ⟨⟨rfl, rfl⟩, ?_⟩
  exact (((((Below.refl _ _).alloc (Nat.le_refl _) _).alloc (by simp <;> omega) _).alloc (by simp <;> omega) _).trans (hb.mono (by simp <;> omega))).setCell (by simp <;> omega) _ |>.setCell (by simp <;> omega) _

theorem isNumber_yes (n : Int) (w : World) (h2 : 2 ≤ n) (h3 : n ≤ 128) :
    Calls Try.prog 39 #[.int .i64 n] w fun e w' => e = .returned (.bool true) ∧ w = w' := by
  go_enter Try.func39, Try.ntmps39
  go_wp2
  go_ret
  exact ⟨rfl, rfl⟩
theorem isNumber_no (n : Int) (w : World) (h : n < 2 ∨ 128 < n) :
    Calls Try.prog 39 #[.int .i64 n] w fun e w' => e = .returned (.bool false) ∧ w = w' := by
  rcases h with h | h
  · have h1 : ¬ 2 ≤ n := by omega
    go_enter Try.func39, Try.ntmps39
    go_wp2
    go_ret
    exact ⟨rfl, rfl⟩
  · have h1 : 2 ≤ n := by omega
    have h2 : ¬ n ≤ 128 := by omega
    go_enter Try.func39, Try.ntmps39
    go_wp2
    go_ret
    exact ⟨rfl, rfl⟩
theorem place_lo (n : Int) (w : World) (h2 : 2 ≤ n) (h3 : n ≤ 64) :
    Calls Try.prog 37 #[.int .i64 n] w fun e w' => e = .returned (.tuple #[.int .i64 0, .int .u64 (bitI n)]) ∧ ∃ q, w' = w.drewN q := by
  go_enter Try.func37, Try.ntmps37
  go_wp2
  go_quiet (fail)
  go_wp2
  have h : (n - 1) / 64 = 0 := by omega
  go_ret2
  exact ⟨by simp [h]; rfl, _, rfl⟩
theorem place_hi (n : Int) (w : World) (h2 : 64 < n) (h3 : n ≤ 128) :
    Calls Try.prog 37 #[.int .i64 n] w fun e w' => e = .returned (.tuple #[.int .i64 1, .int .u64 (bitI n)]) ∧ ∃ q, w' = w.drewN q := by
  go_enter Try.func37, Try.ntmps37
  go_wp2
  go_quiet (fail)
  go_wp2
  have h : (n - 1) / 64 = 1 := by omega
  go_ret2
  exact ⟨by simp [h]; rfl, _, rfl⟩
theorem bit_any (n : Int) (w : World) (h2 : 2 ≤ n) (h3 : n ≤ 128) :
    Calls Try.prog 31 #[.int .i64 n] w fun e w' => e = .returned (.int .u64 (bitI n)) ∧ w = w' := by
  go_enter Try.func31, Try.ntmps31
  go_wp2
  go_ret
  exact ⟨rfl, rfl⟩

theorem minus_any (a b c d : Int) (w : World) :
    Calls Try.prog 14 #[.agg #[.int .u64 a, .int .u64 b], .agg #[.int .u64 c, .int .u64 d]] w fun e w' => e = .returned (.agg #[.int .u64 (clr (anI a c)), .int .u64 (anI b d)]) ∧ Below w.heap.size w w' := by
  go_enter Try.func14, Try.ntmps14
  go_wp2_with (go_at_call 32; refine (clean_any _ _ _).mono ?_; rintro e w1 ⟨rfl, hb⟩; have hc := fun b o h => hb.cell (p := ⟨b, o, none⟩) h; have hf := fun b o h => hb.frozen (p := ⟨b, o, none⟩) h)
  simp [bodyPost, results, Try.results14, go_sem, hc]
  refine ⟨⟨rfl, rfl⟩, ?_⟩
  exact (((((Below.refl _ _).alloc (Nat.le_refl _) _).alloc (by simp <;> omega) _).alloc (by simp <;> omega) _).trans (hb.mono (by simp <;> omega))).setCell (by simp <;> omega) _ |>.setCell (by simp <;> omega) _

def setX (n x : Int) : Int := if n ≤ 64 then orI (clr x) (bitI n) else clr x
def setY (n y : Int) : Int := if n ≤ 64 then y else orI y (bitI n)
def cutX (n x : Int) : Int := if n ≤ 64 then anI (clr x) (bitI n) else clr x
def cutY (n y : Int) : Int := if n ≤ 64 then y else anI y (bitI n)

theorem set_no (x y n : Int) (w : World) (h : n < 2 ∨ 128 < n) :
    Calls Try.prog 23 #[.agg #[.int .u64 x, .int .u64 y], .int .i64 n] w fun e w' => e = .returned (.tuple #[.agg #[.int .u64 0, .int .u64 0], .int .i64 4]) ∧ Below w.heap.size w w' := by
  go_enter Try.func23, Try.ntmps23
  go_wp2_with (go_at_call 39; refine (isNumber_no _ _ h).mono ?_; rintro e w' ⟨rfl, rfl⟩)
  simp [bodyPost, results, Try.results23, go_sem]
  exact ((Below.refl _ _).alloc (Nat.le_refl _) _).alloc (by simp <;> omega) _

theorem set_lo (x y n : Int) (w : World) (h2 : 2 ≤ n) (h3 : n ≤ 64) :
    Calls Try.prog 23 #[.agg #[.int .u64 x, .int .u64 y], .int .i64 n] w fun e w' => e = .returned (.tuple #[.agg #[.int .u64 (setX n x), .int .u64 (setY n y)], .int .i64 0]) ∧ Below w.heap.size w w' := by
  go_enter Try.func23, Try.ntmps23
  go_wp2_with (first | (go_at_call 39; refine (isNumber_yes _ _ h2 (by omega)).mono ?_; rintro e w' ⟨rfl, rfl⟩) | (go_at_call 37; refine (place_lo _ _ h2 h3).mono ?_; rintro e w' ⟨rfl, q, rfl⟩) | (go_at_call 32; refine (clean_any _ _ _).mono ?_; rintro e w1 ⟨rfl, hb⟩; have B0 := ((((Blk.new w 26 #[.int .u64 x, .int .u64 y]).alloc (.cells #[.int .u64 0, .int .u64 0] 26)).drewN q).call hb); have B1 := (((Blk.new (w.alloc (.cells #[.int .u64 x, .int .u64 y] 26)) 26 #[.int .u64 0, .int .u64 0]).drewN q).call hb); have c0 := B0.c 0 _ rfl; have c1 := B0.c 1 _ rfl; have d0 := B1.c 0 _ rfl; have d1 := B1.c 1 _ rfl; have f0 := B0.frozen; have f1 := B1.frozen; simp only [World.size_alloc] at d0 d1 f1))
  simp [bodyPost, results, Try.results23, go_sem, d0, d1]
  refine ⟨⟨by simp [setX, h3]; rfl, by simp [setY, h3]⟩, ?_⟩
  repeat' (first | refine Below.setCell ?_ (by simp <;> omega) _ | refine Below.alloc ?_ (by simp <;> omega) _ | refine drewN_below ?_ _ | exact Below.refl _ _ | refine Below.trans ?_ (hb.mono (by simp <;> omega)))
theorem set_hi (x y n : Int) (w : World) (h2 : 64 < n) (h3 : n ≤ 128) :
    Calls Try.prog 23 #[.agg #[.int .u64 x, .int .u64 y], .int .i64 n] w fun e w' => e = .returned (.tuple #[.agg #[.int .u64 (setX n x), .int .u64 (setY n y)], .int .i64 0]) ∧ Below w.heap.size w w' := by
  have iss := isSome_setCell
  go_enter Try.func23, Try.ntmps23
  go_wp2_with (first | (go_at_call 39; refine (isNumber_yes _ _ (by omega) (by omega)).mono ?_; rintro e w' ⟨rfl, rfl⟩) | (go_at_call 37; refine (place_hi _ _ h2 h3).mono ?_; rintro e w' ⟨rfl, q, rfl⟩) | (go_at_call 32; refine (clean_any _ _ _).mono ?_; rintro e w1 ⟨rfl, hb⟩; have B0 := ((((Blk.new w 26 #[.int .u64 x, .int .u64 y]).alloc (.cells #[.int .u64 0, .int .u64 0] 26)).drewN q).call hb); have B1 := (((Blk.new (w.alloc (.cells #[.int .u64 x, .int .u64 y] 26)) 26 #[.int .u64 0, .int .u64 0]).drewN q).call hb); have c0 := B0.c 0 _ rfl; have c1 := B0.c 1 _ rfl; have d0 := B1.c 0 _ rfl; have d1 := B1.c 1 _ rfl; have f0 := B0.frozen; have f1 := B1.frozen; simp only [World.size_alloc] at d0 d1 f1))
  simp [bodyPost, results, Try.results23, go_sem, d0, d1]
  have h4 : ¬ n ≤ 64 := by omega
  refine ⟨⟨by simp [setX, h4], by simp [setY, h4]; rfl⟩, ?_⟩
  repeat' (first | refine Below.setCell ?_ (by simp <;> omega) _ | refine Below.alloc ?_ (by simp <;> omega) _ | refine drewN_below ?_ _ | exact Below.refl _ _ | refine Below.trans ?_ (hb.mono (by simp <;> omega)))
theorem set_yes (x y n : Int) (w : World) (h2 : 2 ≤ n) (h3 : n ≤ 128) :
    Calls Try.prog 23 #[.agg #[.int .u64 x, .int .u64 y], .int .i64 n] w fun e w' => e = .returned (.tuple #[.agg #[.int .u64 (setX n x), .int .u64 (setY n y)], .int .i64 0]) ∧ Below w.heap.size w w' := by
  by_cases h : n ≤ 64
  · exact set_lo x y n w h2 h
  · exact set_hi x y n w (by omega) h3
end Go.Proofs.Ytfolabkgeeeobaa
