/-
  Exchange: walk over the law ExchangeOutcome. Condition: the steps are a slice that lies as the language lays it.
-/
import Derived.Test.YtgacpkbpbckgiaaPc
import Derived.Test.YtgacpkbpbckgiaaWm
namespace Go.Proofs.Ytgacpkbpbckgiaa
open Go.RowKit
set_option linter.unusedVariables false

/-- A step of the law: what is called, on which key, and how much later. -/
structure Stp where
  kd : Int
  ky : Int
  la : Int
def stC (x : Stp) : List Value := [.int .u8 x.kd, .int .u8 x.ky, .int .u8 x.la]
/-- A block of 64 counts. -/
def arr (f : Nat → Int) : Array Value := ((List.range 64).map fun j => Value.int .i64 (f j)).toArray

theorem arr_zero : (#[.int .i64 0, .int .i64 0, .int .i64 0, .int .i64 0, .int .i64 0, .int .i64 0, .int .i64 0, .int .i64 0, .int .i64 0, .int .i64 0, .int .i64 0, .int .i64 0, .int .i64 0, .int .i64 0, .int .i64 0, .int .i64 0, .int .i64 0, .int .i64 0, .int .i64 0, .int .i64 0, .int .i64 0, .int .i64 0, .int .i64 0, .int .i64 0, .int .i64 0, .int .i64 0, .int .i64 0, .int .i64 0, .int .i64 0, .int .i64 0, .int .i64 0, .int .i64 0, .int .i64 0, .int .i64 0, .int .i64 0, .int .i64 0, .int .i64 0, .int .i64 0, .int .i64 0, .int .i64 0, .int .i64 0, .int .i64 0, .int .i64 0, .int .i64 0, .int .i64 0, .int .i64 0, .int .i64 0, .int .i64 0, .int .i64 0, .int .i64 0, .int .i64 0, .int .i64 0, .int .i64 0, .int .i64 0, .int .i64 0, .int .i64 0, .int .i64 0, .int .i64 0, .int .i64 0, .int .i64 0, .int .i64 0, .int .i64 0, .int .i64 0, .int .i64 0] : Array Value) = arr (fun _ => 0) := by kernel_rfl
theorem arr_at (f : Nat → Int) {j : Nat} (h : j < 64) : (arr f)[j]? = some (.int .i64 (f j)) := by
  unfold arr
  rw [List.getElem?_toArray, List.getElem?_map, List.getElem?_range h]
  rfl
theorem arr_congr {f g : Nat → Int} (h : ∀ j, j < 64 → f j = g j) : arr f = arr g := by
  unfold arr
  congr 1
  apply List.map_congr_left
  intro j hj
  rw [h j (List.mem_range.1 hj)]
theorem arr_set (f : Nat → Int) {k : Nat} (hk : k < 64) (v : Int) : (arr f).setIfInBounds k (.int .i64 v) = arr (setF f k v) := by
  apply Array.ext_getElem?
  intro i
  rw [Array.getElem?_setIfInBounds]
  have hs : (arr f).size = 64 := by simp [arr]
  rcases Nat.lt_or_ge i 64 with h | h
  · rw [arr_at _ h]
    unfold setF
    by_cases e : k = i
    · subst e
      rw [if_pos rfl, if_pos (by rw [hs]; exact hk), arr_at _ h, if_pos rfl]
    · rw [if_neg e, arr_at _ h, if_neg (fun q : i = k => e q.symm)]
  · rw [if_neg (by omega), Array.getElem?_eq_none (by omega), Array.getElem?_eq_none (by simp [arr]; omega)]
def FL (s : XS) (N : Int) (j : Nat) : Nat → Int := fun i => if i < j then losV (losS s N) i else losV s i
/-- The law's three arrays. -/
def Cts (w : World) (gb ga gl : Nat) (fb fa fl : Nat → Int) : Prop := Blk w gb 53 (arr fb) ∧ Blk w ga 53 (arr fa) ∧ Blk w gl 53 (arr fl)
structure Dis (B gb ga gl : Nat) : Prop where
  b : B ≤ gb
  a : B ≤ ga
  l : B ≤ gl
  ba : gb ≠ ga
  bl : gb ≠ gl
  al : ga ≠ gl
section
variable {w w' : World} {B gb ga gl : Nat} {fb fa fl : Nat → Int}
theorem Cts.call (h : Cts w gb ga gl fb fa fl) (k : Below w.heap.size w w') : Cts w' gb ga gl fb fa fl := ⟨h.1.call k, h.2.1.call k, h.2.2.call k⟩
theorem Cts.turn {m : Bool} (h : Cts w gb ga gl fb fa fl) (k : Turn B PT m w w') : Cts w' gb ga gl fb fa fl := ⟨h.1.turn k rfl, h.2.1.turn k rfl, h.2.2.turn k rfl⟩
theorem Cts.b (h : Cts w gb ga gl fb fa fl) {j : Nat} (hj : j < 64) : w.cell? ⟨gb, j, none⟩ = some (.int .i64 (fb j)) := h.1.c _ _ (arr_at _ hj)
theorem Cts.a (h : Cts w gb ga gl fb fa fl) {j : Nat} (hj : j < 64) : w.cell? ⟨ga, j, none⟩ = some (.int .i64 (fa j)) := h.2.1.c _ _ (arr_at _ hj)
theorem Cts.l (h : Cts w gb ga gl fb fa fl) {j : Nat} (hj : j < 64) : w.cell? ⟨gl, j, none⟩ = some (.int .i64 (fl j)) := h.2.2.c _ _ (arr_at _ hj)
theorem Cts.setB (h : Cts w gb ga gl fb fa fl) (d : Dis B gb ga gl) {j : Nat} (hj : j < 64) (v : Int) : Cts (w.setCell ⟨gb, j, none⟩ (.int .i64 v)) gb ga gl (setF fb j v) fa fl :=
  ⟨by rw [← arr_set _ hj]; exact h.1.set_ _ _, h.2.1.far (fun e => d.ba e.symm) _, h.2.2.far (fun e => d.bl e.symm) _⟩
theorem Cts.setA (h : Cts w gb ga gl fb fa fl) (d : Dis B gb ga gl) {j : Nat} (hj : j < 64) (v : Int) : Cts (w.setCell ⟨ga, j, none⟩ (.int .i64 v)) gb ga gl fb (setF fa j v) fl :=
  ⟨h.1.far d.ba _, by rw [← arr_set _ hj]; exact h.2.1.set_ _ _, h.2.2.far (fun e => d.al e.symm) _⟩
theorem Cts.setL (h : Cts w gb ga gl fb fa fl) (d : Dis B gb ga gl) {j : Nat} (hj : j < 64) (v : Int) : Cts (w.setCell ⟨gl, j, none⟩ (.int .i64 v)) gb ga gl fb fa (setF fl j v) :=
  ⟨h.1.far d.bl _, h.2.1.far d.al _, by rw [← arr_set _ hj]; exact h.2.2.set_ _ _⟩
theorem Cts.eq {fb' fa' fl' : Nat → Int} (h : Cts w gb ga gl fb fa fl) (e1 : ∀ j, j < 64 → fb j = fb' j) (e2 : ∀ j, j < 64 → fa j = fa' j) (e3 : ∀ j, j < 64 → fl j = fl' j) : Cts w gb ga gl fb' fa' fl' := by
  unfold Cts at h ⊢
  rw [← arr_congr e1, ← arr_congr e2, ← arr_congr e3]
  exact h
theorem PRep.set53 {p : Nat} {s : XS} (h : PRep w B p s) {g : Nat} {cs : Array Value} (hg : Blk w g 53 cs) (hB : B ≤ g) (j : Nat) (u : Value) : PRep (w.setCell ⟨g, j, none⟩ u) B p s :=
  h.turnOther ((Turn.refl B [53] false w).setB hg rfl hB j u) rfl rfl rfl
end

set_option maxRecDepth 100000 in
set_option maxHeartbeats 6400000 in
theorem law_outcome (y : Int) (A : Option Addr) (n c : Nat) (l : List Stp) (w : World) (hz : l.length = n) (hm : n ≤ 9223372036854775807) (hr : RD w A (n * 3) (l.flatMap stC)) (hu : ∀ x ∈ l, (0 ≤ x.kd ∧ x.kd ≤ 255) ∧ (0 ≤ x.ky ∧ x.ky ≤ 255) ∧ (0 ≤ x.la ∧ x.la ≤ 255)) (hy : 0 ≤ y ∧ y ≤ 255) :
    Calls Try.prog 4 #[.int .u8 y, .slice A n c] w fun e w' => e = .returned (.bool true) ∧ Below w.heap.size w w' := by
  have HR := Lib.hid hr
  have HZ := Lib.hid hz
  have HU := Lib.hid hu
  obtain ⟨y1, y2⟩ := hy
  obtain ⟨W, hW⟩ : ∃ W, 1 + y = W := ⟨_, rfl⟩
  have HW : Hid (1 ≤ W ∧ W ≤ 256) := Lib.hid (by omega)
  have HWW := Lib.hid hW
  obtain ⟨B, hB⟩ : ∃ B, w.heap.size = B := ⟨_, rfl⟩
  have HBB := Lib.hid hB
  clear hr hz hu
  by_cases h60 : 60 < n
  · have h1 : (60 : Int) < n := by omega
    clear h60 hB
    go_enter Try.func4, Try.ntmps4
    go_wp2_with fail
    refine (new_ok W HW.out.1 (by have := HW.out; omega) w).mono ?_
    rintro e w1 ⟨p, rfl, R1, b1⟩
    go_wp2_with (go_at_call 11; refine (awake_any _).mono ?_; rintro e w' ⟨rfl, b⟩)
    go_ret
    exact ⟨rfl, b1.trans (b.mono b1.size)⟩
  · have hn : n ≤ 60 := by omega
    clear h60
    go_enter Try.func4, Try.ntmps4
    go_wp2_with fail
    refine (new_ok W HW.out.1 (by have := HW.out; omega) w).mono ?_
    rintro e w1 ⟨p, rfl, R1, b1⟩
    rw [hB] at R1 b1
    have z1 : B ≤ w1.heap.size := by have := b1.size; omega
    have HB1 := Lib.hid b1
    have HR1 := Lib.hid R1
    clear R1 b1 hB hW
    go_wp2_with fail
    rw [arr_zero]
    have N1 : Below w1.heap.size w1 (w1.alloc (.cells (arr fun _ => 0) 53)) := (Below.refl _ _).alloc (Nat.le_refl _) _
    have N2 : Below w1.heap.size w1 ((w1.alloc (.cells (arr fun _ => 0) 53)).alloc (.cells (arr fun _ => 0) 53)) := N1.alloc (by simp) _
    have N3 : Below w1.heap.size w1 (((w1.alloc (.cells (arr fun _ => 0) 53)).alloc (.cells (arr fun _ => 0) 53)).alloc (.cells (arr fun _ => 0) 53)) := N2.alloc (by simp; omega) _
    have C1 : Cts (((w1.alloc (.cells (arr fun _ => 0) 53)).alloc (.cells (arr fun _ => 0) 53)).alloc (.cells (arr fun _ => 0) 53)) w1.heap.size (w1.heap.size + 1) (w1.heap.size + 1 + 1) (fun _ => 0) (fun _ => 0) (fun _ => 0) := by
      have a1 := Blk.new w1 53 (arr fun _ => 0)
      have a2 := Blk.new (w1.alloc (.cells (arr fun _ => 0) 53)) 53 (arr fun _ => 0)
      have a3 := Blk.new ((w1.alloc (.cells (arr fun _ => 0) 53)).alloc (.cells (arr fun _ => 0) 53)) 53 (arr fun _ => 0)
      refine ⟨(a1.alloc _).alloc _, ?_, ?_⟩
      · have := a2.alloc (.cells (arr fun _ => 0) 53)
        simpa using this
      · simpa using a3
    have DD : Dis B w1.heap.size (w1.heap.size + 1) (w1.heap.size + 1 + 1) := ⟨z1, by omega, by omega, by omega, by omega, by omega⟩
    have HR2 := Lib.hid (HR1.out.call N3)
    have HB2 := Lib.hid (HB1.out.trans (N3.mono z1))
    have z2 := Nat.le_trans z1 N3.size
    generalize (((w1.alloc (.cells (arr fun _ => 0) 53)).alloc (.cells (arr fun _ => 0) 53)).alloc (.cells (arr fun _ => 0) 53)) = w2 at C1 HR2 HB2 z2 ⊢
    generalize w1.heap.size + 1 + 1 = gl at C1 DD ⊢
    generalize w1.heap.size + 1 = ga at C1 DD ⊢
    generalize w1.heap.size = gb at C1 DD ⊢
    have HC2 := Lib.hid C1
    have HD := Lib.hid DD
    clear C1 DD N1 N2 N3 HR1 HB1 z1
    go_loopw [11] (fun i wr => ∃ j : Nat, j ≤ 64 ∧ i = .int .i64 j ∧ PRep wr B p ⟨W, 0, []⟩ ∧ Cts wr gb ga gl (fun i => if i < j then -1 else 0) (fun _ => 0) (fun _ => 0) ∧ B ≤ wr.heap.size ∧ Below B w wr) (fun i _ => 64 - (intOf i).toNat)
    case atStart => exact ⟨0, by omega, rfl, HR2.out, HC2.out.eq (fun j _ => rfl) (fun _ _ => rfl) (fun _ _ => rfl), z2, HB2.out⟩
    case round =>
      obtain ⟨j, hj, rfl, R0, C0, z0, b0⟩ := hrel
      have HR3 := Lib.hid R0
      have HC3 := Lib.hid C0
      have HB3 := Lib.hid b0
      clear R0 C0 b0
      by_cases hlt : j < 64
      · have hji : (j : Int) < 64 := by omega
        have hcl := HC3.out.b hlt
        have hfr := HC3.out.1.frozen j
        go_wp2_with fail
        go_roundw
        case rel =>
          refine ⟨j + 1, by omega, by go_num, HR3.out.set53 HC3.out.1 HD.out.b _ _, (HC3.out.setB HD.out hlt (-1)).eq (fun i hi => ?_) (fun _ _ => rfl) (fun _ _ => rfl), by simpa using z0, HB3.out.setCell HD.out.b _⟩
          show (if i = j then (-1 : Int) else if i < j then -1 else 0) = if i < j + 1 then -1 else 0
          by_cases e : i = j
          · rw [if_pos e, if_pos (by omega)]
          · rw [if_neg e]
            by_cases e2 : i < j
            · rw [if_pos e2, if_pos (by omega)]
            · rw [if_neg e2, if_neg (by omega)]
        case measure => simp [intOf]; omega
      · have hj64 : j = 64 := by omega
        subst hj64
        have z3 := z0
        clear hlt hj HR2 HC2 HB2 z2 z0
        go_wp2_with fail
        go_loopw [12, 13] (fun N i wr => ∃ (k : Nat) (s : XS) (t : Int), k ≤ n ∧ i = .int .i64 k ∧ N = .int .i64 t ∧ 0 ≤ t ∧ s.now ≤ t ∧ t ≤ 255 * k ∧ Inv W s ∧ s.its.length ≤ k ∧ PRep wr B p s ∧ Cts wr gb ga gl (begV s) (ansV s) (losV s) ∧ B ≤ wr.heap.size ∧ Below B w wr) (fun _ i _ => n - (intOf i).toNat)
        case atStart => exact ⟨0, ⟨W, 0, []⟩, 0, by omega, rfl, rfl, Int.le_refl _, Int.le_refl _, by simp, Inv.new HW.out.1 HW.out.2, Nat.le_refl _, HR3.out, HC3.out.eq (fun j hj => by rw [if_pos hj]; rfl) (fun _ _ => rfl) (fun _ _ => rfl), z3, HB3.out⟩
        case round =>
          obtain ⟨k, s, t, hk, rfl, rfl, t0, t1, t2, I0, hl0, R0, C0, z0, b0⟩ := hrel
          have HR4 := Lib.hid R0
          have HC4 := Lib.hid C0
          have HB4 := Lib.hid b0
          have HI4 := Lib.hid I0
          have z4 := z0
          clear R0 C0 b0 I0 z0 HR3 HC3 HB3 z3
          by_cases hlt : k < n
          · obtain ⟨bb, off, rfl, hbl, hcell⟩ := HR.out.2 (by omega)
            have hx : l[k]? = some (l[k]'(by rw [HZ.out]; exact hlt)) := List.getElem?_eq_getElem _
            have hbl' : bb < B := by rw [← HBB.out]; exact hbl
            have d0 := (Below.cell HB4.out (p := ⟨bb, off + k * 3, none⟩) hbl').trans (hcell (k * 3) (.int .u8 (l[k]'(by rw [HZ.out]; exact hlt)).kd) (by have := atM stC 3 (fun _ => rfl) l k _ 0 hx (by decide); simpa [stC] using this))
            have e1 := hcell (k * 3 + 1) (.int .u8 (l[k]'(by rw [HZ.out]; exact hlt)).ky) (by rw [atM stC 3 (fun _ => rfl) l k _ 1 hx (by decide)]; rfl)
            have e2 := hcell (k * 3 + 2) (.int .u8 (l[k]'(by rw [HZ.out]; exact hlt)).la) (by rw [atM stC 3 (fun _ => rfl) l k _ 2 hx (by decide)]; rfl)
            rw [← Nat.add_assoc] at e1 e2
            have d1 := (Below.cell HB4.out (p := ⟨bb, off + k * 3 + 1, none⟩) hbl').trans e1
            have d2 := (Below.cell HB4.out (p := ⟨bb, off + k * 3 + 2, none⟩) hbl').trans e2
            clear e1 e2
            obtain ⟨⟨u1, u2⟩, ⟨u3, u4⟩, u5, u6⟩ := HU.out _ (List.mem_of_getElem? hx)
            clear hcell hx hbl'
            generalize (l[k]'(by rw [HZ.out]; exact hlt)) = x at d0 d1 d2 u1 u2 u3 u4 u5 u6
            obtain ⟨xc, xk, xl⟩ := x
            simp only at d0 d1 d2 u1 u2 u3 u4 u5 u6
            obtain ⟨K, hK⟩ : ∃ K : Nat, xk % 64 = K := ⟨(xk % 64).toNat, by omega⟩
            have hK64 : K < 64 := by omega
            obtain ⟨N, hN⟩ : ∃ N, t + xl = N := ⟨_, rfl⟩
            have n0 : 0 ≤ N := by omega
            have n1 : s.now ≤ N := by omega
            have n2 : N ≤ 255 * (k + 1 : Nat) := by omega
            have n3 : N ≤ 1000000 := by omega
            have hN1 : -9223372036854775808 ≤ t + xl := by omega
            have hN2 : t + xl ≤ 9223372036854775807 := by omega
            have HN := Lib.hid hN
            have HK := Lib.hid hK
            clear hN hK
            have hq3 : xc % 3 = 0 ∨ xc % 3 = 1 ∨ xc % 3 = 2 := by omega
            rcases hq3 with hq | hq | hq
            · as_aux_lemma =>
              have q0 : (xc % 3 == 0) = true := by rw [hq]; rfl
              have HQ := Lib.hid hq
              clear hq
              go_wp2_with fail
              rw [HK.out, HN.out]
              refine (key_any K hK64 wr).mono ?_
              rintro e w5 ⟨rfl, b5⟩
              have z5 := Nat.le_trans z4 b5.size
              have HB5 := Lib.hid (HB4.out.trans (b5.mono z4))
              have HC5 := Lib.hid (HC4.out.call b5)
              have C5 := Lib.hid (begin_any B p s N (keyB K) tr w5 HI4.out.ok (by omega) z5 (HR4.out.call b5))
              clear b5 HR4
              generalize hkk : keyB K = kk at C5 ⊢
              have HKK := Lib.hid hkk
              clear hkk
              go_wp2_with fail
              refine C5.out.mono ?_
              rintro e w6 ⟨rfl, R6, T6⟩
              rw [← HKK.out] at R6 ⊢
              have z6 := Nat.le_trans z5 T6.size
              have HB6 := Lib.hid (HB5.out.trans T6.below)
              have HC6 := Lib.hid (HC5.out.turn T6)
              have hcb := HC6.out.b hK64
              have hfr := HC6.out.1.frozen K
              clear C5 T6 HB5 HC5 HB4 HC4
              cases hf : fnd (keyB K) s.its with
              | none =>
                obtain ⟨he, hv, HJ, hnow, hb1, hb2, hb3⟩ := out_beg0 HI4.out n1 n3 (by omega) hK64 hf
                have hlen := begS_len s N (keyB K) tr
                rw [he]
                have HR6 := Lib.hid R6
                have HJ6 := Lib.hid (And.intro HJ (And.intro hnow (And.intro hb1 (And.intro hb2 hb3))))
                clear R6 HJ hnow hb1 hb2 hb3 he hf
                generalize begV s K = vb at hcb hv
                have FIN : Hid (∃ s2 : XS, Inv W s2 ∧ s2.now ≤ N ∧ s2.its.length ≤ k + 1 ∧ PRep (w6.setCell ⟨gb, K, none⟩ (.int .i64 N)) B p s2 ∧ Cts (w6.setCell ⟨gb, K, none⟩ (.int .i64 N)) gb ga gl (begV s2) (ansV s2) (losV s2) ∧ B ≤ (w6.setCell ⟨gb, K, none⟩ (.int .i64 N)).heap.size ∧ Below B w (w6.setCell ⟨gb, K, none⟩ (.int .i64 N))) := Lib.hid (by
                  obtain ⟨j1, j2, j3, j4, j5⟩ := HJ6.out
                  exact ⟨_, j1, by rw [j2]; exact Int.le_refl _, by omega, HR6.out.set53 HC6.out.1 HD.out.b _ _, (HC6.out.setB HD.out hK64 N).eq (fun j hj => (j3 j hj).symm) (fun j hj => (j4 j hj).symm) (fun j hj => (j5 j hj).symm), by simpa using z6, HB6.out.setCell HD.out.b _⟩)
                clear HJ6
                go_wp2_with fail
                obtain ⟨s2, G1, G2, G3, G4, G5, G6, G7⟩ := FIN.out
                generalize (w6.setCell ⟨gb, K, none⟩ (.int .i64 N)) = wz at G4 G5 G6 G7 ⊢
                have HG1 := Lib.hid G1
                have HG2 := Lib.hid (And.intro G2 G3)
                have HG4 := Lib.hid G4
                have HG5 := Lib.hid G5
                have HG7 := Lib.hid G7
                clear FIN G1 G2 G3 G4 G5 G7
                as_aux_lemma =>
                go_loopw [22] (fun i wr => ∃ j : Nat, j ≤ 64 ∧ i = .int .i64 j ∧ Below wz.heap.size wz wr) (fun i _ => 64 - (intOf i).toNat)
                case atStart => exact ⟨0, by omega, rfl, Below.refl _ _⟩
                case round =>
                  obtain ⟨j, hj, rfl, b9⟩ := hrel
                  have HB9 := Lib.hid b9
                  have HC9 := Lib.hid (HG5.out.call b9)
                  clear b9
                  by_cases hlt : j < 64
                  · have hji : (j : Int) < 64 := by omega
                    have ca := fun x : Cls (UpC wr) => (HC9.out.call x.2).a hlt
                    have cl := fun x : Cls (UpC wr) => (HC9.out.call x.2).l hlt
                    obtain ⟨m1, m2, m3⟩ := out_sum (s := s2) j
                    generalize ansV s2 j = va at ca m1 m3
                    generalize losV s2 j = vl at cl m2 m3
                    go_wp2_with fail
                    rename_i K0 hKK
                    refine wp_region_reg (UpC wr) 8 rfl (by kernel_rfl) ?_
                    have T : UpC wr wr.drew := (Below.refl _ _).drew
                    haveI : Nonempty (Cls (UpC wr)) := ⟨⟨_, T⟩⟩
                    refine reg_seg (f := 0) (by kernel_rfl) [0, 1, 2, 3, 4, 5, 6, 7] _ _ _ T (by kernel_rfl) ?_
                    simp only [pickL, List.filterMap_cons, List.filterMap_nil, List.getElem?_toArray, List.getElem?_cons_zero, List.getElem?_cons_succ]
                    show wpQuiet _ _ _ _ [_, _, _, _, _, _, _, _] _
                    repeat (go_big_quiet_step (fail))
                    refine wpQuiet_nil ?_
                    refine reg_end (by kernel_rfl) ?_
                    refine hKK _ _ ?_
                    have HB10 := Lib.hid (HB9.out.trans (Below.mono T HB9.out.size))
                    clear T ca cl
                    go_wp2_with fail
                    go_roundw
                    case rel => exact ⟨j + 1, by omega, by go_num, HB10.out⟩
                    case measure => simp [intOf]; omega
                  · have hj64 : j = 64 := by omega
                    subst hj64
                    go_wp2_with fail
                    go_roundw
                    case rel => exact ⟨k + 1, s2, N, by omega, by go_num, rfl, n0, HG2.out.1, n2, HG1.out, HG2.out.2, HG4.out.call HB9.out, HC9.out, Nat.le_trans G6 HB9.out.size, HG7.out.trans (HB9.out.mono G6)⟩
                    case measure => simp [intOf]; omega
              | some x =>
                obtain ⟨he, hs, hv⟩ := out_beg7 HI4.out n1 n3 hf
                rw [hs] at R6
                rw [he]
                have HR6 := Lib.hid R6
                clear R6 he hf hs
                generalize begV s K = vb at hcb hv
                have FIN : Hid (∃ s2 : XS, Inv W s2 ∧ s2.now ≤ N ∧ s2.its.length ≤ k + 1 ∧ PRep (w6) B p s2 ∧ Cts (w6) gb ga gl (begV s2) (ansV s2) (losV s2) ∧ B ≤ (w6).heap.size ∧ Below B w (w6)) := Lib.hid (by
                  exact ⟨s, HI4.out, n1, by omega, HR6.out, HC6.out, z6, HB6.out⟩)
                go_wp2_with fail
                obtain ⟨s2, G1, G2, G3, G4, G5, G6, G7⟩ := FIN.out
                generalize (w6) = wz at G4 G5 G6 G7 ⊢
                have HG1 := Lib.hid G1
                have HG2 := Lib.hid (And.intro G2 G3)
                have HG4 := Lib.hid G4
                have HG5 := Lib.hid G5
                have HG7 := Lib.hid G7
                clear FIN G1 G2 G3 G4 G5 G7
                as_aux_lemma =>
                go_loopw [22] (fun i wr => ∃ j : Nat, j ≤ 64 ∧ i = .int .i64 j ∧ Below wz.heap.size wz wr) (fun i _ => 64 - (intOf i).toNat)
                case atStart => exact ⟨0, by omega, rfl, Below.refl _ _⟩
                case round =>
                  obtain ⟨j, hj, rfl, b9⟩ := hrel
                  have HB9 := Lib.hid b9
                  have HC9 := Lib.hid (HG5.out.call b9)
                  clear b9
                  by_cases hlt : j < 64
                  · have hji : (j : Int) < 64 := by omega
                    have ca := fun x : Cls (UpC wr) => (HC9.out.call x.2).a hlt
                    have cl := fun x : Cls (UpC wr) => (HC9.out.call x.2).l hlt
                    obtain ⟨m1, m2, m3⟩ := out_sum (s := s2) j
                    generalize ansV s2 j = va at ca m1 m3
                    generalize losV s2 j = vl at cl m2 m3
                    go_wp2_with fail
                    rename_i K0 hKK
                    refine wp_region_reg (UpC wr) 8 rfl (by kernel_rfl) ?_
                    have T : UpC wr wr.drew := (Below.refl _ _).drew
                    haveI : Nonempty (Cls (UpC wr)) := ⟨⟨_, T⟩⟩
                    refine reg_seg (f := 0) (by kernel_rfl) [0, 1, 2, 3, 4, 5, 6, 7] _ _ _ T (by kernel_rfl) ?_
                    simp only [pickL, List.filterMap_cons, List.filterMap_nil, List.getElem?_toArray, List.getElem?_cons_zero, List.getElem?_cons_succ]
                    show wpQuiet _ _ _ _ [_, _, _, _, _, _, _, _] _
                    repeat (go_big_quiet_step (fail))
                    refine wpQuiet_nil ?_
                    refine reg_end (by kernel_rfl) ?_
                    refine hKK _ _ ?_
                    have HB10 := Lib.hid (HB9.out.trans (Below.mono T HB9.out.size))
                    clear T ca cl
                    go_wp2_with fail
                    go_roundw
                    case rel => exact ⟨j + 1, by omega, by go_num, HB10.out⟩
                    case measure => simp [intOf]; omega
                  · have hj64 : j = 64 := by omega
                    subst hj64
                    go_wp2_with fail
                    go_roundw
                    case rel => exact ⟨k + 1, s2, N, by omega, by go_num, rfl, n0, HG2.out.1, n2, HG1.out, HG2.out.2, HG4.out.call HB9.out, HC9.out, Nat.le_trans G6 HB9.out.size, HG7.out.trans (HB9.out.mono G6)⟩
                    case measure => simp [intOf]; omega
            · as_aux_lemma =>
              have q0 : (xc % 3 == 0) = false := by rw [hq]; rfl
              have q1 : (xc % 3 == 1) = true := by rw [hq]; rfl
              have HQ := Lib.hid hq
              clear hq
              go_wp2_with fail
              rw [HK.out, HN.out]
              refine (key_any K hK64 wr).mono ?_
              rintro e w5 ⟨rfl, b5⟩
              have z5 := Nat.le_trans z4 b5.size
              have HB5 := Lib.hid (HB4.out.trans (b5.mono z4))
              have HC5 := Lib.hid (HC4.out.call b5)
              have C5 := Lib.hid (reply_any B p s N (keyB K) tx w5 HI4.out.ok (by omega) (by rw [keyB_size]; decide) z5 (HR4.out.call b5))
              clear b5 HR4
              generalize hkk : keyB K = kk at C5 ⊢
              have HKK := Lib.hid hkk
              clear hkk
              go_wp2_with fail
              refine C5.out.mono ?_
              rintro e w6 ⟨rfl, R6, T6⟩
              rw [← HKK.out] at R6 ⊢
              have z6 := Nat.le_trans z5 T6.size
              have HB6 := Lib.hid (HB5.out.trans T6.below)
              have HC6 := Lib.hid (HC5.out.turn T6)
              have hcb := HC6.out.b hK64
              have hca := HC6.out.a hK64
              have hfr := HC6.out.2.1.frozen K
              clear C5 T6 HB5 HC5 HB4 HC4
              cases hf : fnd (keyB K) s.its with
              | none =>
                obtain ⟨hn0, he, hs, hv⟩ := out_rep6 (N := N) hf
                rw [hs] at R6
                rw [he, hn0]
                have HR6 := Lib.hid R6
                clear R6 he hf hs hn0
                generalize begV s K = vb at hcb hv
                generalize ansV s K = va at hca
                have FIN : Hid (∃ s2 : XS, Inv W s2 ∧ s2.now ≤ N ∧ s2.its.length ≤ k + 1 ∧ PRep (w6) B p s2 ∧ Cts (w6) gb ga gl (begV s2) (ansV s2) (losV s2) ∧ B ≤ (w6).heap.size ∧ Below B w (w6)) := Lib.hid (by
                  exact ⟨s, HI4.out, n1, by omega, HR6.out, HC6.out, z6, HB6.out⟩)
                go_wp2_with fail
                obtain ⟨s2, G1, G2, G3, G4, G5, G6, G7⟩ := FIN.out
                generalize (w6) = wz at G4 G5 G6 G7 ⊢
                have HG1 := Lib.hid G1
                have HG2 := Lib.hid (And.intro G2 G3)
                have HG4 := Lib.hid G4
                have HG5 := Lib.hid G5
                have HG7 := Lib.hid G7
                clear FIN G1 G2 G3 G4 G5 G7
                as_aux_lemma =>
                go_loopw [22] (fun i wr => ∃ j : Nat, j ≤ 64 ∧ i = .int .i64 j ∧ Below wz.heap.size wz wr) (fun i _ => 64 - (intOf i).toNat)
                case atStart => exact ⟨0, by omega, rfl, Below.refl _ _⟩
                case round =>
                  obtain ⟨j, hj, rfl, b9⟩ := hrel
                  have HB9 := Lib.hid b9
                  have HC9 := Lib.hid (HG5.out.call b9)
                  clear b9
                  by_cases hlt : j < 64
                  · have hji : (j : Int) < 64 := by omega
                    have ca := fun x : Cls (UpC wr) => (HC9.out.call x.2).a hlt
                    have cl := fun x : Cls (UpC wr) => (HC9.out.call x.2).l hlt
                    obtain ⟨m1, m2, m3⟩ := out_sum (s := s2) j
                    generalize ansV s2 j = va at ca m1 m3
                    generalize losV s2 j = vl at cl m2 m3
                    go_wp2_with fail
                    rename_i K0 hKK
                    refine wp_region_reg (UpC wr) 8 rfl (by kernel_rfl) ?_
                    have T : UpC wr wr.drew := (Below.refl _ _).drew
                    haveI : Nonempty (Cls (UpC wr)) := ⟨⟨_, T⟩⟩
                    refine reg_seg (f := 0) (by kernel_rfl) [0, 1, 2, 3, 4, 5, 6, 7] _ _ _ T (by kernel_rfl) ?_
                    simp only [pickL, List.filterMap_cons, List.filterMap_nil, List.getElem?_toArray, List.getElem?_cons_zero, List.getElem?_cons_succ]
                    show wpQuiet _ _ _ _ [_, _, _, _, _, _, _, _] _
                    repeat (go_big_quiet_step (fail))
                    refine wpQuiet_nil ?_
                    refine reg_end (by kernel_rfl) ?_
                    refine hKK _ _ ?_
                    have HB10 := Lib.hid (HB9.out.trans (Below.mono T HB9.out.size))
                    clear T ca cl
                    go_wp2_with fail
                    go_roundw
                    case rel => exact ⟨j + 1, by omega, by go_num, HB10.out⟩
                    case measure => simp [intOf]; omega
                  · have hj64 : j = 64 := by omega
                    subst hj64
                    go_wp2_with fail
                    go_roundw
                    case rel => exact ⟨k + 1, s2, N, by omega, by go_num, rfl, n0, HG2.out.1, n2, HG1.out, HG2.out.2, HG4.out.call HB9.out, HC9.out, Nat.le_trans G6 HB9.out.size, HG7.out.trans (HB9.out.mono G6)⟩
                    case measure => simp [intOf]; omega
              | some x =>
                obtain ⟨hn0, he, hvb, hva, v0, v1, hlate, hst, HJ, hnow, hb1, hb2, hb3⟩ := out_rep HI4.out n1 n3 hK64 hf
                have hlen := repS_len s N (keyB K) tx
                rw [he, hn0]
                rw [hvb] at hcb
                rw [hva] at hca
                have HR6 := Lib.hid R6
                have HW6 := HW.out
                have HVA := Lib.hid hva
                have HJ6 := Lib.hid (And.intro HJ (And.intro hnow (And.intro hb1 (And.intro hb2 hb3))))
                clear R6 HJ hnow hb1 hb2 hb3 he hf hn0 hvb hva
                generalize x.at_ = vb at hcb v0 v1 hlate HJ6 ⊢
                generalize x.st = vs at hca hlate hst HJ6 HVA ⊢
                by_cases s1 : vs = 1
                · rw [if_pos s1] at hca ⊢
                  have HS := Lib.hid s1
                  clear s1 hlate hst
                  have FIN : Hid (∃ s2 : XS, Inv W s2 ∧ s2.now ≤ N ∧ s2.its.length ≤ k + 1 ∧ PRep (w6) B p s2 ∧ Cts (w6) gb ga gl (begV s2) (ansV s2) (losV s2) ∧ B ≤ (w6).heap.size ∧ Below B w (w6)) := Lib.hid (by
                    obtain ⟨j1, j2, j3, j4, j5⟩ := HJ6.out
                    refine ⟨_, j1, by rw [j2]; exact Int.le_refl _, by omega, HR6.out, HC6.out.eq (fun j hj => (j3 j hj).symm) (fun j hj => ?_) (fun j hj => (j5 j hj).symm), z6, HB6.out⟩
                    rw [j4 j hj, if_neg (by have := HS.out; omega)])
                  clear HJ6
                  go_wp2_with fail
                  obtain ⟨s2, G1, G2, G3, G4, G5, G6, G7⟩ := FIN.out
                  generalize (w6) = wz at G4 G5 G6 G7 ⊢
                  have HG1 := Lib.hid G1
                  have HG2 := Lib.hid (And.intro G2 G3)
                  have HG4 := Lib.hid G4
                  have HG5 := Lib.hid G5
                  have HG7 := Lib.hid G7
                  clear FIN G1 G2 G3 G4 G5 G7
                  as_aux_lemma =>
                  go_loopw [22] (fun i wr => ∃ j : Nat, j ≤ 64 ∧ i = .int .i64 j ∧ Below wz.heap.size wz wr) (fun i _ => 64 - (intOf i).toNat)
                  case atStart => exact ⟨0, by omega, rfl, Below.refl _ _⟩
                  case round =>
                    obtain ⟨j, hj, rfl, b9⟩ := hrel
                    have HB9 := Lib.hid b9
                    have HC9 := Lib.hid (HG5.out.call b9)
                    clear b9
                    by_cases hlt : j < 64
                    · have hji : (j : Int) < 64 := by omega
                      have ca := fun x : Cls (UpC wr) => (HC9.out.call x.2).a hlt
                      have cl := fun x : Cls (UpC wr) => (HC9.out.call x.2).l hlt
                      obtain ⟨m1, m2, m3⟩ := out_sum (s := s2) j
                      generalize ansV s2 j = va at ca m1 m3
                      generalize losV s2 j = vl at cl m2 m3
                      go_wp2_with fail
                      rename_i K0 hKK
                      refine wp_region_reg (UpC wr) 8 rfl (by kernel_rfl) ?_
                      have T : UpC wr wr.drew := (Below.refl _ _).drew
                      haveI : Nonempty (Cls (UpC wr)) := ⟨⟨_, T⟩⟩
                      refine reg_seg (f := 0) (by kernel_rfl) [0, 1, 2, 3, 4, 5, 6, 7] _ _ _ T (by kernel_rfl) ?_
                      simp only [pickL, List.filterMap_cons, List.filterMap_nil, List.getElem?_toArray, List.getElem?_cons_zero, List.getElem?_cons_succ]
                      show wpQuiet _ _ _ _ [_, _, _, _, _, _, _, _] _
                      repeat (go_big_quiet_step (fail))
                      refine wpQuiet_nil ?_
                      refine reg_end (by kernel_rfl) ?_
                      refine hKK _ _ ?_
                      have HB10 := Lib.hid (HB9.out.trans (Below.mono T HB9.out.size))
                      clear T ca cl
                      go_wp2_with fail
                      go_roundw
                      case rel => exact ⟨j + 1, by omega, by go_num, HB10.out⟩
                      case measure => simp [intOf]; omega
                    · have hj64 : j = 64 := by omega
                      subst hj64
                      go_wp2_with fail
                      go_roundw
                      case rel => exact ⟨k + 1, s2, N, by omega, by go_num, rfl, n0, HG2.out.1, n2, HG1.out, HG2.out.2, HG4.out.call HB9.out, HC9.out, Nat.le_trans G6 HB9.out.size, HG7.out.trans (HB9.out.mono G6)⟩
                      case measure => simp [intOf]; omega
                · rw [if_neg s1] at hca ⊢
                  by_cases s2 : vs = 0 ∧ N < vb + W
                  · rw [if_pos s2]
                    have HS := Lib.hid s2
                    have s3 := s2.2
                    have s4 : -9223372036854775808 ≤ vb + W := by omega
                    have s5 : vb + W ≤ 9223372036854775807 := by omega
                    have HS1 := Lib.hid s1
                    clear s2 hlate hst s1
                    have FIN : Hid (∃ s2 : XS, Inv W s2 ∧ s2.now ≤ N ∧ s2.its.length ≤ k + 1 ∧ PRep (w6.setCell ⟨ga, K, none⟩ (.int .i64 1)) B p s2 ∧ Cts (w6.setCell ⟨ga, K, none⟩ (.int .i64 1)) gb ga gl (begV s2) (ansV s2) (losV s2) ∧ B ≤ (w6.setCell ⟨ga, K, none⟩ (.int .i64 1)).heap.size ∧ Below B w (w6.setCell ⟨ga, K, none⟩ (.int .i64 1))) := Lib.hid (by
                      obtain ⟨j1, j2, j3, j4, j5⟩ := HJ6.out
                      refine ⟨_, j1, by rw [j2]; exact Int.le_refl _, by omega, HR6.out.set53 HC6.out.2.1 HD.out.a _ _, (HC6.out.setA HD.out hK64 1).eq (fun j hj => (j3 j hj).symm) (fun j hj => ?_) (fun j hj => (j5 j hj).symm), by simpa using z6, HB6.out.setCell HD.out.a _⟩
                      rw [j4 j hj, if_pos HS.out])
                    clear HJ6
                    go_wp2_with fail
                    obtain ⟨s2, G1, G2, G3, G4, G5, G6, G7⟩ := FIN.out
                    generalize (w6.setCell ⟨ga, K, none⟩ (.int .i64 1)) = wz at G4 G5 G6 G7 ⊢
                    have HG1 := Lib.hid G1
                    have HG2 := Lib.hid (And.intro G2 G3)
                    have HG4 := Lib.hid G4
                    have HG5 := Lib.hid G5
                    have HG7 := Lib.hid G7
                    clear FIN G1 G2 G3 G4 G5 G7
                    as_aux_lemma =>
                    go_loopw [22] (fun i wr => ∃ j : Nat, j ≤ 64 ∧ i = .int .i64 j ∧ Below wz.heap.size wz wr) (fun i _ => 64 - (intOf i).toNat)
                    case atStart => exact ⟨0, by omega, rfl, Below.refl _ _⟩
                    case round =>
                      obtain ⟨j, hj, rfl, b9⟩ := hrel
                      have HB9 := Lib.hid b9
                      have HC9 := Lib.hid (HG5.out.call b9)
                      clear b9
                      by_cases hlt : j < 64
                      · have hji : (j : Int) < 64 := by omega
                        have ca := fun x : Cls (UpC wr) => (HC9.out.call x.2).a hlt
                        have cl := fun x : Cls (UpC wr) => (HC9.out.call x.2).l hlt
                        obtain ⟨m1, m2, m3⟩ := out_sum (s := s2) j
                        generalize ansV s2 j = va at ca m1 m3
                        generalize losV s2 j = vl at cl m2 m3
                        go_wp2_with fail
                        rename_i K0 hKK
                        refine wp_region_reg (UpC wr) 8 rfl (by kernel_rfl) ?_
                        have T : UpC wr wr.drew := (Below.refl _ _).drew
                        haveI : Nonempty (Cls (UpC wr)) := ⟨⟨_, T⟩⟩
                        refine reg_seg (f := 0) (by kernel_rfl) [0, 1, 2, 3, 4, 5, 6, 7] _ _ _ T (by kernel_rfl) ?_
                        simp only [pickL, List.filterMap_cons, List.filterMap_nil, List.getElem?_toArray, List.getElem?_cons_zero, List.getElem?_cons_succ]
                        show wpQuiet _ _ _ _ [_, _, _, _, _, _, _, _] _
                        repeat (go_big_quiet_step (fail))
                        refine wpQuiet_nil ?_
                        refine reg_end (by kernel_rfl) ?_
                        refine hKK _ _ ?_
                        have HB10 := Lib.hid (HB9.out.trans (Below.mono T HB9.out.size))
                        clear T ca cl
                        go_wp2_with fail
                        go_roundw
                        case rel => exact ⟨j + 1, by omega, by go_num, HB10.out⟩
                        case measure => simp [intOf]; omega
                      · have hj64 : j = 64 := by omega
                        subst hj64
                        go_wp2_with fail
                        go_roundw
                        case rel => exact ⟨k + 1, s2, N, by omega, by go_num, rfl, n0, HG2.out.1, n2, HG1.out, HG2.out.2, HG4.out.call HB9.out, HC9.out, Nat.le_trans G6 HB9.out.size, HG7.out.trans (HB9.out.mono G6)⟩
                        case measure => simp [intOf]; omega
                  · rw [if_neg s2]
                    have s3 : ¬ N < vb + W := by omega
                    have s4 : -9223372036854775808 ≤ vb + W := by omega
                    have s5 : vb + W ≤ 9223372036854775807 := by omega
                    have HS := Lib.hid s2
                    have HS1 := Lib.hid s1
                    clear s2 hlate hst s1
                    have FIN : Hid (∃ s2 : XS, Inv W s2 ∧ s2.now ≤ N ∧ s2.its.length ≤ k + 1 ∧ PRep (w6) B p s2 ∧ Cts (w6) gb ga gl (begV s2) (ansV s2) (losV s2) ∧ B ≤ (w6).heap.size ∧ Below B w (w6)) := Lib.hid (by
                      obtain ⟨j1, j2, j3, j4, j5⟩ := HJ6.out
                      refine ⟨_, j1, by rw [j2]; exact Int.le_refl _, by omega, HR6.out, HC6.out.eq (fun j hj => (j3 j hj).symm) (fun j hj => ?_) (fun j hj => (j5 j hj).symm), z6, HB6.out⟩
                      rw [j4 j hj, if_neg HS.out])
                    clear HJ6
                    go_wp2_with fail
                    obtain ⟨s2, G1, G2, G3, G4, G5, G6, G7⟩ := FIN.out
                    generalize (w6) = wz at G4 G5 G6 G7 ⊢
                    have HG1 := Lib.hid G1
                    have HG2 := Lib.hid (And.intro G2 G3)
                    have HG4 := Lib.hid G4
                    have HG5 := Lib.hid G5
                    have HG7 := Lib.hid G7
                    clear FIN G1 G2 G3 G4 G5 G7
                    as_aux_lemma =>
                    go_loopw [22] (fun i wr => ∃ j : Nat, j ≤ 64 ∧ i = .int .i64 j ∧ Below wz.heap.size wz wr) (fun i _ => 64 - (intOf i).toNat)
                    case atStart => exact ⟨0, by omega, rfl, Below.refl _ _⟩
                    case round =>
                      obtain ⟨j, hj, rfl, b9⟩ := hrel
                      have HB9 := Lib.hid b9
                      have HC9 := Lib.hid (HG5.out.call b9)
                      clear b9
                      by_cases hlt : j < 64
                      · have hji : (j : Int) < 64 := by omega
                        have ca := fun x : Cls (UpC wr) => (HC9.out.call x.2).a hlt
                        have cl := fun x : Cls (UpC wr) => (HC9.out.call x.2).l hlt
                        obtain ⟨m1, m2, m3⟩ := out_sum (s := s2) j
                        generalize ansV s2 j = va at ca m1 m3
                        generalize losV s2 j = vl at cl m2 m3
                        go_wp2_with fail
                        rename_i K0 hKK
                        refine wp_region_reg (UpC wr) 8 rfl (by kernel_rfl) ?_
                        have T : UpC wr wr.drew := (Below.refl _ _).drew
                        haveI : Nonempty (Cls (UpC wr)) := ⟨⟨_, T⟩⟩
                        refine reg_seg (f := 0) (by kernel_rfl) [0, 1, 2, 3, 4, 5, 6, 7] _ _ _ T (by kernel_rfl) ?_
                        simp only [pickL, List.filterMap_cons, List.filterMap_nil, List.getElem?_toArray, List.getElem?_cons_zero, List.getElem?_cons_succ]
                        show wpQuiet _ _ _ _ [_, _, _, _, _, _, _, _] _
                        repeat (go_big_quiet_step (fail))
                        refine wpQuiet_nil ?_
                        refine reg_end (by kernel_rfl) ?_
                        refine hKK _ _ ?_
                        have HB10 := Lib.hid (HB9.out.trans (Below.mono T HB9.out.size))
                        clear T ca cl
                        go_wp2_with fail
                        go_roundw
                        case rel => exact ⟨j + 1, by omega, by go_num, HB10.out⟩
                        case measure => simp [intOf]; omega
                      · have hj64 : j = 64 := by omega
                        subst hj64
                        go_wp2_with fail
                        go_roundw
                        case rel => exact ⟨k + 1, s2, N, by omega, by go_num, rfl, n0, HG2.out.1, n2, HG1.out, HG2.out.2, HG4.out.call HB9.out, HC9.out, Nat.le_trans G6 HB9.out.size, HG7.out.trans (HB9.out.mono G6)⟩
                        case measure => simp [intOf]; omega
            · as_aux_lemma =>
              have q0 : (xc % 3 == 0) = false := by rw [hq]; rfl
              have q1 : (xc % 3 == 1) = false := by rw [hq]; rfl
              have HQ := Lib.hid hq
              clear hq
              go_wp2_with fail
              rw [HN.out]
              refine (lost_any B p s N wr (by omega) z4 HR4.out).mono ?_
              rintro e w5 ⟨A5, c5, rfl, W5, R5, T5⟩
              rw [HK.out]
              have z5 := Nat.le_trans z4 T5.size
              have HB5 := Lib.hid (HB4.out.trans T5.below)
              have HC5 := Lib.hid (HC4.out.turn T5)
              have HO5 := Lib.hid W5
              have HR5 := Lib.hid R5
              have OL := Lib.hid (out_los HI4.out n1 n3)
              have hlen : (losL s N).length ≤ 1000 := by
                rw [OL.out.1, List.length_map]
                have := List.length_filter_le (lostB W N) s.its
                omega
              clear W5 R5 T5 HC4 HB4 HR4
              obtain ⟨M, hM⟩ : ∃ M, (losL s N).length = M := ⟨_, rfl⟩
              have HM := Lib.hid hM
              rw [hM] at HO5 hlen ⊢
              clear hM
              go_wp2_with fail
              go_loopw [19] (fun i wr => ∃ j : Nat, j ≤ 64 ∧ i = .int .i64 j ∧ Turn B [53] false w5 wr ∧ Cts wr gb ga gl (begV s) (ansV s) (FL s N j)) (fun i _ => 64 - (intOf i).toNat)
              case atStart => exact ⟨0, by omega, rfl, Turn.refl _ _ _ _, HC5.out.eq (fun _ _ => rfl) (fun _ _ => rfl) (fun i _ => by unfold FL; rw [if_neg (by omega)])⟩
              case round =>
                obtain ⟨j, hj, rfl, T6, C6⟩ := hrel
                have HT6 := Lib.hid T6
                have HC6 := Lib.hid C6
                clear T6 C6
                by_cases hlt : j < 64
                · have hji : (j : Int) < 64 := by omega
                  go_wp2_with fail
                  go_loopw [20] (fun i wr => ∃ m : Nat, m ≤ M ∧ i = .int .i64 m ∧ Turn B [53] false w5 wr ∧ Cts wr gb ga gl (begV s) (ansV s) (setF (FL s N j) j (cntK (keyB j) ((losL s N).take m) + losV s j))) (fun i _ => M - (intOf i).toNat)
                  case atStart =>
                    refine ⟨0, by omega, rfl, HT6.out, HC6.out.eq (fun _ _ => rfl) (fun _ _ => rfl) (fun i _ => ?_)⟩
                    unfold setF
                    by_cases e : i = j
                    · rw [if_pos e, e]
                      unfold FL
                      rw [if_neg (by omega)]
                      show losV s j = ((0 : Nat) : Int) + losV s j
                      omega
                    · rw [if_neg e]
                  case round =>
                    obtain ⟨m, hm2, rfl, T7, C7⟩ := hrel
                    have HT7 := Lib.hid T7
                    have HC7 := Lib.hid C7
                    clear T7 C7
                    by_cases hlm : m < M
                    · have hmi : (m : Int) < M := by omega
                      have hyy : (losL s N)[m]? = some ((losL s N)[m]'(by rw [HM.out]; exact hlm)) := List.getElem?_eq_getElem _
                      have HY := Lib.hid (cntK_take (key := keyB j) hyy)
                      obtain ⟨go, rfl, _, hgo, hco, _⟩ := (HO5.out.turn HT7.out rfl).cells (by omega)
                      have hcs := hco m (.string ((losL s N)[m]'(by rw [HM.out]; exact hlm))) (by rw [List.getElem?_map, hyy]; rfl)
                      clear hco hyy
                      generalize (losL s N)[m]'(by rw [HM.out]; exact hlm) = yk at hcs HY
                      have L1 := fun x : Cls (UpC wr) => (Below.cell x.2 (p := ⟨go, m, none⟩) hgo).trans hcs
                      have KEY : Hid (∀ x : World, Calls Try.prog 28 #[.int .i64 (j : Int)] x fun e w' => e = .returned (.string (keyB j)) ∧ Below x.heap.size x w') := Lib.hid (key_any j hlt)
                      have hv1 := (out_sum (s := s) j).2
                      have hv2 := (out_sum (s := s) j).1
                      have hv3 : cntK (keyB j) ((losL s N).take m) ≤ m := by
                        unfold cntK
                        have := List.length_filter_le (fun y => decide (y = keyB j)) ((losL s N).take m)
                        rw [List.length_take] at this
                        omega
                      obtain ⟨V, hV⟩ : ∃ V : Int, cntK (keyB j) ((losL s N).take m) + losV s j = V := ⟨_, rfl⟩
                      have hV1 : 0 ≤ V := by omega
                      have hV2 : V ≤ 2000 := by omega
                      have HV := Lib.hid hV
                      rw [hV] at HC7
                      clear hV hv1 hv2 hv3
                      have hyn : yk = keyB j ∨ yk ≠ keyB j := by by_cases h : yk = keyB j <;> simp [h]
                      have HKJ : Hid (∃ q, keyB j = q) := ⟨_, rfl⟩
                      generalize hkj : keyB j = kj at KEY hyn HY
                      have HKJ2 := Lib.hid hkj
                      clear hkj HKJ hcs
                      rcases hyn with rfl | hyn
                      · go_wp2_with fail
                        rename_i K0 hKK
                        refine wp_region_reg (UpC wr) 7 rfl (by kernel_rfl) ?_
                        have T : UpC wr wr.drew := (Below.refl _ _).drew
                        haveI : Nonempty (Cls (UpC wr)) := ⟨⟨_, T⟩⟩
                        refine reg_seg (f := 2) (by kernel_rfl) [0, 1, 2, 3, 4] _ _ _ T (by kernel_rfl) ?_
                        simp only [pickL, List.filterMap_cons, List.filterMap_nil, List.getElem?_toArray, List.getElem?_cons_zero, List.getElem?_cons_succ]
                        show wpQuiet _ _ _ _ [_, _, _, _, _] _
                        repeat (go_big_quiet_step (fail))
                        refine wpQuiet_nil ?_
                        clear L1
                        refine reg_call 5 _ (by kernel_rfl) rfl rfl ?_
                        go_simp
                        refine (KEY.out _).mono ?_
                        rintro e x1 ⟨rfl, q1'⟩
                        replace T := UpC.call T q1'
                        refine ⟨T, ?_⟩
                        clear q1'
                        refine reg_seg (f := 0) (by kernel_rfl) [6] _ _ _ T (by kernel_rfl) ?_
                        simp only [pickL, List.filterMap_cons, List.filterMap_nil, List.getElem?_toArray, List.getElem?_cons_zero, List.getElem?_cons_succ]
                        show wpQuiet _ _ _ _ [_] _
                        repeat (go_big_quiet_step (fail))
                        refine wpQuiet_nil ?_
                        refine reg_end (by kernel_rfl) ?_
                        refine hKK _ _ ?_
                        have hcl := (HC7.out.call T).l hlt
                        have hs0 : setF (FL s N j) j V j = V := if_pos rfl
                        rw [hs0] at hcl
                        have hfr := (HC7.out.call T).2.2.frozen j
                        have HT8 := Lib.hid (HT7.out.call T z5)
                        have HC8 := Lib.hid (HC7.out.call T)
                        clear T hs0
                        go_wp2_with fail
                        go_roundw
                        case rel =>
                          refine ⟨m + 1, by omega, by go_num, HT8.out.setB HC8.out.2.2 rfl HD.out.l _ _, (HC8.out.setL HD.out hlt (V + 1)).eq (fun _ _ => rfl) (fun _ _ => rfl) (fun i _ => ?_)⟩
                          first
                            | rw [HKJ2.out, HY.out, if_pos rfl]
                            | rw [HY.out, if_pos trivial]
                          have := HV.out
                          rw [HKJ2.out] at this
                          unfold setF
                          by_cases e : i = j
                          · rw [if_pos e, if_pos e]
                            omega
                          · rw [if_neg e, if_neg e, if_neg e]
                        case measure => simp [intOf]; omega
                      · have hyf : (yk.toList == kj.toList) = false := beq_eq_false_iff_ne.2 (fun h => hyn (bytes_inj h))
                        go_wp2_with fail
                        rename_i K0 hKK
                        refine wp_region_reg (UpC wr) 7 rfl (by kernel_rfl) ?_
                        have T : UpC wr wr.drew := (Below.refl _ _).drew
                        haveI : Nonempty (Cls (UpC wr)) := ⟨⟨_, T⟩⟩
                        refine reg_seg (f := 2) (by kernel_rfl) [0, 1, 2, 3, 4] _ _ _ T (by kernel_rfl) ?_
                        simp only [pickL, List.filterMap_cons, List.filterMap_nil, List.getElem?_toArray, List.getElem?_cons_zero, List.getElem?_cons_succ]
                        show wpQuiet _ _ _ _ [_, _, _, _, _] _
                        repeat (go_big_quiet_step (fail))
                        refine wpQuiet_nil ?_
                        clear L1
                        refine reg_call 5 _ (by kernel_rfl) rfl rfl ?_
                        go_simp
                        refine (KEY.out _).mono ?_
                        rintro e x1 ⟨rfl, q1'⟩
                        replace T := UpC.call T q1'
                        refine ⟨T, ?_⟩
                        clear q1'
                        refine reg_seg (f := 0) (by kernel_rfl) [6] _ _ _ T (by kernel_rfl) ?_
                        simp only [pickL, List.filterMap_cons, List.filterMap_nil, List.getElem?_toArray, List.getElem?_cons_zero, List.getElem?_cons_succ]
                        show wpQuiet _ _ _ _ [_] _
                        repeat (go_big_quiet_step (fail))
                        refine wpQuiet_nil ?_
                        refine reg_end (by kernel_rfl) ?_
                        refine hKK _ _ ?_
                        have HT8 := Lib.hid (HT7.out.call T z5)
                        have HC8 := Lib.hid (HC7.out.call T)
                        have HYN := Lib.hid hyn
                        clear T
                        go_wp2_with fail
                        go_roundw
                        case rel =>
                          refine ⟨m + 1, by omega, by go_num, HT8.out, HC8.out.eq (fun _ _ => rfl) (fun _ _ => rfl) (fun i _ => ?_)⟩
                          first
                            | rw [HKJ2.out, HY.out, if_neg HYN.out]
                            | rw [HY.out, if_neg HYN.out]
                          have := HV.out
                          rw [HKJ2.out] at this
                          unfold setF
                          by_cases e : i = j
                          · rw [if_pos e, if_pos e]
                            omega
                          · rw [if_neg e, if_neg e]
                        case measure => simp [intOf]; omega
                    · have hmM : m = M := by omega
                      subst hmM
                      have HC8 : Hid (Cts wr gb ga gl (begV s) (ansV s) (FL s N (j + 1))) := Lib.hid (HC7.out.eq (fun _ _ => rfl) (fun _ _ => rfl) (fun i hi => by
                        have hc := OL.out.2.2.2.2.2 j hlt
                        unfold setF FL
                        rw [List.take_of_length_le (Nat.le_of_eq HM.out)]
                        by_cases e : i = j
                        · rw [if_pos e, if_pos (by omega), e]
                          omega
                        · rw [if_neg e]
                          by_cases e2 : i < j
                          · rw [if_pos e2, if_pos (by omega)]
                          · rw [if_neg e2, if_neg (by omega)]))
                      clear HC7 HC6
                      have hcb := HC8.out.b hlt
                      have cb := fun x : Cls (UpC wr) => (HC8.out.call x.2).b hlt
                      have ca := fun x : Cls (UpC wr) => (HC8.out.call x.2).a hlt
                      have cl := fun x : Cls (UpC wr) => (HC8.out.call x.2).l hlt
                      have hfl : FL s N (j + 1) j = losV (losS s N) j := if_pos (by omega)
                      rw [hfl] at cl
                      obtain ⟨g1, g2⟩ := out_late HI4.out n1 n3 j
                      obtain ⟨m1, m2, m3⟩ := out_sum (s := losS s N) j
                      rw [OL.out.2.2.2.2.1 j hlt] at m1 m3
                      have hW6 := HW.out
                      have hvbb := out_bounds HI4.out n1 j
                      clear hfl
                      generalize begV s j = vb at hcb cb g1 g2 hvbb
                      generalize ansV s j = va at ca g2 m1 m3
                      generalize losV (losS s N) j = vl at cl g1 g2 m2 m3
                      have s4 : -9223372036854775808 ≤ vb + W := by omega
                      have s5 : vb + W ≤ 9223372036854775807 := by omega
                      have hcase : ((0 ≤ vb ∧ vb + W ≤ N) ∧ ((va = 0 ∧ vl = 1) ∨ (va = 1 ∧ vl = 0))) ∨ (vb < 0 ∧ ((va = 0 ∧ vl = 0) ∨ (va = 1 ∧ vl = 0))) ∨ ((0 ≤ vb ∧ N < vb + W) ∧ ((va = 0 ∧ vl = 0) ∨ (va = 1 ∧ vl = 0))) := by
                        by_cases x1 : vb < 0
                        · right; left
                          refine ⟨x1, ?_⟩
                          have : ¬ vl = 1 := fun h => by have := (g1 h).1; omega
                          omega
                        · by_cases x2 : vb + W ≤ N
                          · left
                            refine ⟨⟨by omega, x2⟩, ?_⟩
                            by_cases x3 : va = 0
                            · exact .inl ⟨x3, g2 x3 (by omega) x2⟩
                            · omega
                          · right; right
                            have : ¬ vl = 1 := fun h => by have := (g1 h).2; omega
                            exact ⟨⟨by omega, by omega⟩, by omega⟩
                      clear g1 g2 m1 m2 m3 hvbb
                      rcases hcase with ⟨⟨x1, x2⟩, ⟨rfl, rfl⟩ | ⟨rfl, rfl⟩⟩ | ⟨x1, ⟨rfl, rfl⟩ | ⟨rfl, rfl⟩⟩ | ⟨⟨x1, x2⟩, ⟨rfl, rfl⟩ | ⟨rfl, rfl⟩⟩
                      · as_aux_lemma =>
                        have x3 : decide (0 ≤ vb) = true := decide_eq_true x1
                        have x4 : decide (vb + W ≤ N) = true := decide_eq_true x2
                        clear x1 x2
                        go_wp2_with fail
                        rename_i K0 hKK
                        refine wp_region_reg (UpC wr) 26 rfl (by kernel_rfl) ?_
                        have T : UpC wr wr.drew := (Below.refl _ _).drew
                        haveI : Nonempty (Cls (UpC wr)) := ⟨⟨_, T⟩⟩
                        refine reg_seg (f := 0) (by kernel_rfl) [0, 1, 2, 3, 4, 5, 6, 7, 8, 9, 10, 11, 12, 13, 14, 15, 16, 17, 18, 19, 20, 21, 22, 23, 24, 25] _ _ _ T (by kernel_rfl) ?_
                        simp only [pickL, List.filterMap_cons, List.filterMap_nil, List.getElem?_toArray, List.getElem?_cons_zero, List.getElem?_cons_succ]
                        show wpQuiet _ _ _ _ [_, _, _, _, _, _, _, _, _, _, _, _, _, _, _, _, _, _, _, _, _, _, _, _, _, _] _
                        repeat (go_big_quiet_step (fail))
                        refine wpQuiet_nil ?_
                        refine reg_end (by kernel_rfl) ?_
                        refine hKK _ _ ?_
                        have HT9 := Lib.hid (HT7.out.call T z5)
                        have HC9 := Lib.hid (HC8.out.call T)
                        clear T cb ca cl hcb
                        go_wp2_with fail
                        go_roundw
                        case rel => exact ⟨j + 1, by omega, by go_num, HT9.out, HC9.out⟩
                        case measure => simp [intOf]; omega
                      · as_aux_lemma =>
                        have x3 : decide (0 ≤ vb) = true := decide_eq_true x1
                        have x4 : decide (vb + W ≤ N) = true := decide_eq_true x2
                        clear x1 x2
                        go_wp2_with fail
                        rename_i K0 hKK
                        refine wp_region_reg (UpC wr) 26 rfl (by kernel_rfl) ?_
                        have T : UpC wr wr.drew := (Below.refl _ _).drew
                        haveI : Nonempty (Cls (UpC wr)) := ⟨⟨_, T⟩⟩
                        refine reg_seg (f := 0) (by kernel_rfl) [0, 1, 2, 3, 4, 5, 6, 7, 8, 9, 10, 11, 12, 13, 14, 15, 16, 17, 18, 19, 20, 21, 22, 23, 24, 25] _ _ _ T (by kernel_rfl) ?_
                        simp only [pickL, List.filterMap_cons, List.filterMap_nil, List.getElem?_toArray, List.getElem?_cons_zero, List.getElem?_cons_succ]
                        show wpQuiet _ _ _ _ [_, _, _, _, _, _, _, _, _, _, _, _, _, _, _, _, _, _, _, _, _, _, _, _, _, _] _
                        repeat (go_big_quiet_step (fail))
                        refine wpQuiet_nil ?_
                        refine reg_end (by kernel_rfl) ?_
                        refine hKK _ _ ?_
                        have HT9 := Lib.hid (HT7.out.call T z5)
                        have HC9 := Lib.hid (HC8.out.call T)
                        clear T cb ca cl hcb
                        go_wp2_with fail
                        go_roundw
                        case rel => exact ⟨j + 1, by omega, by go_num, HT9.out, HC9.out⟩
                        case measure => simp [intOf]; omega
                      · as_aux_lemma =>
                        have x3 : decide (0 ≤ vb) = false := decide_eq_false (by omega)
                        clear x1
                        go_wp2_with fail
                        rename_i K0 hKK
                        refine wp_region_reg (UpC wr) 26 rfl (by kernel_rfl) ?_
                        have T : UpC wr wr.drew := (Below.refl _ _).drew
                        haveI : Nonempty (Cls (UpC wr)) := ⟨⟨_, T⟩⟩
                        refine reg_seg (f := 0) (by kernel_rfl) [0, 1, 2, 3, 4, 5, 6, 7, 8, 9, 10, 11, 12, 13, 14, 15, 16, 17, 18, 19, 20, 21, 22, 23, 24, 25] _ _ _ T (by kernel_rfl) ?_
                        simp only [pickL, List.filterMap_cons, List.filterMap_nil, List.getElem?_toArray, List.getElem?_cons_zero, List.getElem?_cons_succ]
                        show wpQuiet _ _ _ _ [_, _, _, _, _, _, _, _, _, _, _, _, _, _, _, _, _, _, _, _, _, _, _, _, _, _] _
                        repeat (go_big_quiet_step (fail))
                        refine wpQuiet_nil ?_
                        refine reg_end (by kernel_rfl) ?_
                        refine hKK _ _ ?_
                        have HT9 := Lib.hid (HT7.out.call T z5)
                        have HC9 := Lib.hid (HC8.out.call T)
                        clear T cb ca cl hcb
                        go_wp2_with fail
                        go_roundw
                        case rel => exact ⟨j + 1, by omega, by go_num, HT9.out, HC9.out⟩
                        case measure => simp [intOf]; omega
                      · as_aux_lemma =>
                        have x3 : decide (0 ≤ vb) = false := decide_eq_false (by omega)
                        clear x1
                        go_wp2_with fail
                        rename_i K0 hKK
                        refine wp_region_reg (UpC wr) 26 rfl (by kernel_rfl) ?_
                        have T : UpC wr wr.drew := (Below.refl _ _).drew
                        haveI : Nonempty (Cls (UpC wr)) := ⟨⟨_, T⟩⟩
                        refine reg_seg (f := 0) (by kernel_rfl) [0, 1, 2, 3, 4, 5, 6, 7, 8, 9, 10, 11, 12, 13, 14, 15, 16, 17, 18, 19, 20, 21, 22, 23, 24, 25] _ _ _ T (by kernel_rfl) ?_
                        simp only [pickL, List.filterMap_cons, List.filterMap_nil, List.getElem?_toArray, List.getElem?_cons_zero, List.getElem?_cons_succ]
                        show wpQuiet _ _ _ _ [_, _, _, _, _, _, _, _, _, _, _, _, _, _, _, _, _, _, _, _, _, _, _, _, _, _] _
                        repeat (go_big_quiet_step (fail))
                        refine wpQuiet_nil ?_
                        refine reg_end (by kernel_rfl) ?_
                        refine hKK _ _ ?_
                        have HT9 := Lib.hid (HT7.out.call T z5)
                        have HC9 := Lib.hid (HC8.out.call T)
                        clear T cb ca cl hcb
                        go_wp2_with fail
                        go_roundw
                        case rel => exact ⟨j + 1, by omega, by go_num, HT9.out, HC9.out⟩
                        case measure => simp [intOf]; omega
                      · as_aux_lemma =>
                        have x3 : decide (0 ≤ vb) = true := decide_eq_true x1
                        have x4 : decide (vb + W ≤ N) = false := decide_eq_false (by omega)
                        clear x1 x2
                        go_wp2_with fail
                        rename_i K0 hKK
                        refine wp_region_reg (UpC wr) 26 rfl (by kernel_rfl) ?_
                        have T : UpC wr wr.drew := (Below.refl _ _).drew
                        haveI : Nonempty (Cls (UpC wr)) := ⟨⟨_, T⟩⟩
                        refine reg_seg (f := 0) (by kernel_rfl) [0, 1, 2, 3, 4, 5, 6, 7, 8, 9, 10, 11, 12, 13, 14, 15, 16, 17, 18, 19, 20, 21, 22, 23, 24, 25] _ _ _ T (by kernel_rfl) ?_
                        simp only [pickL, List.filterMap_cons, List.filterMap_nil, List.getElem?_toArray, List.getElem?_cons_zero, List.getElem?_cons_succ]
                        show wpQuiet _ _ _ _ [_, _, _, _, _, _, _, _, _, _, _, _, _, _, _, _, _, _, _, _, _, _, _, _, _, _] _
                        repeat (go_big_quiet_step (fail))
                        refine wpQuiet_nil ?_
                        refine reg_end (by kernel_rfl) ?_
                        refine hKK _ _ ?_
                        have HT9 := Lib.hid (HT7.out.call T z5)
                        have HC9 := Lib.hid (HC8.out.call T)
                        clear T cb ca cl hcb
                        go_wp2_with fail
                        go_roundw
                        case rel => exact ⟨j + 1, by omega, by go_num, HT9.out, HC9.out⟩
                        case measure => simp [intOf]; omega
                      · as_aux_lemma =>
                        have x3 : decide (0 ≤ vb) = true := decide_eq_true x1
                        have x4 : decide (vb + W ≤ N) = false := decide_eq_false (by omega)
                        clear x1 x2
                        go_wp2_with fail
                        rename_i K0 hKK
                        refine wp_region_reg (UpC wr) 26 rfl (by kernel_rfl) ?_
                        have T : UpC wr wr.drew := (Below.refl _ _).drew
                        haveI : Nonempty (Cls (UpC wr)) := ⟨⟨_, T⟩⟩
                        refine reg_seg (f := 0) (by kernel_rfl) [0, 1, 2, 3, 4, 5, 6, 7, 8, 9, 10, 11, 12, 13, 14, 15, 16, 17, 18, 19, 20, 21, 22, 23, 24, 25] _ _ _ T (by kernel_rfl) ?_
                        simp only [pickL, List.filterMap_cons, List.filterMap_nil, List.getElem?_toArray, List.getElem?_cons_zero, List.getElem?_cons_succ]
                        show wpQuiet _ _ _ _ [_, _, _, _, _, _, _, _, _, _, _, _, _, _, _, _, _, _, _, _, _, _, _, _, _, _] _
                        repeat (go_big_quiet_step (fail))
                        refine wpQuiet_nil ?_
                        refine reg_end (by kernel_rfl) ?_
                        refine hKK _ _ ?_
                        have HT9 := Lib.hid (HT7.out.call T z5)
                        have HC9 := Lib.hid (HC8.out.call T)
                        clear T cb ca cl hcb
                        go_wp2_with fail
                        go_roundw
                        case rel => exact ⟨j + 1, by omega, by go_num, HT9.out, HC9.out⟩
                        case measure => simp [intOf]; omega
                · have hj64 : j = 64 := by omega
                  subst hj64
                  have z6 := Nat.le_trans z5 HT6.out.size
                  have FIN : Hid (∃ s2 : XS, Inv W s2 ∧ s2.now ≤ N ∧ s2.its.length ≤ k + 1 ∧ PRep wr B p s2 ∧ Cts wr gb ga gl (begV s2) (ansV s2) (losV s2) ∧ B ≤ wr.heap.size ∧ Below B w wr) := Lib.hid (by
                    obtain ⟨o1, o2, o3, o4, o5, o6⟩ := OL.out
                    refine ⟨losS s N, o3, by rw [o2]; exact Int.le_refl _, by rw [losS_len]; omega, HR5.out.turnOther HT6.out rfl rfl rfl, HC6.out.eq (fun j hj => (o4 j hj).symm) (fun j hj => (o5 j hj).symm) (fun j hj => ?_), z6, HB5.out.trans HT6.out.below⟩
                    exact if_pos hj)
                  clear hlt hj
                  go_wp2_with fail
                  obtain ⟨s2, G1, G2, G3, G4, G5, G6, G7⟩ := FIN.out
                  generalize wr = wz at G4 G5 G6 G7 ⊢
                  have HG1 := Lib.hid G1
                  have HG2 := Lib.hid (And.intro G2 G3)
                  have HG4 := Lib.hid G4
                  have HG5 := Lib.hid G5
                  have HG7 := Lib.hid G7
                  clear FIN G1 G2 G3 G4 G5 G7
                  as_aux_lemma =>
                  go_loopw [22] (fun i wr => ∃ j : Nat, j ≤ 64 ∧ i = .int .i64 j ∧ Below wz.heap.size wz wr) (fun i _ => 64 - (intOf i).toNat)
                  case atStart => exact ⟨0, by omega, rfl, Below.refl _ _⟩
                  case round =>
                    obtain ⟨j, hj, rfl, b9⟩ := hrel
                    have HB9 := Lib.hid b9
                    have HC9 := Lib.hid (HG5.out.call b9)
                    clear b9
                    by_cases hlt : j < 64
                    · have hji : (j : Int) < 64 := by omega
                      have ca := fun x : Cls (UpC wr) => (HC9.out.call x.2).a hlt
                      have cl := fun x : Cls (UpC wr) => (HC9.out.call x.2).l hlt
                      obtain ⟨m1, m2, m3⟩ := out_sum (s := s2) j
                      generalize ansV s2 j = va at ca m1 m3
                      generalize losV s2 j = vl at cl m2 m3
                      go_wp2_with fail
                      rename_i K0 hKK
                      refine wp_region_reg (UpC wr) 8 rfl (by kernel_rfl) ?_
                      have T : UpC wr wr.drew := (Below.refl _ _).drew
                      haveI : Nonempty (Cls (UpC wr)) := ⟨⟨_, T⟩⟩
                      refine reg_seg (f := 0) (by kernel_rfl) [0, 1, 2, 3, 4, 5, 6, 7] _ _ _ T (by kernel_rfl) ?_
                      simp only [pickL, List.filterMap_cons, List.filterMap_nil, List.getElem?_toArray, List.getElem?_cons_zero, List.getElem?_cons_succ]
                      show wpQuiet _ _ _ _ [_, _, _, _, _, _, _, _] _
                      repeat (go_big_quiet_step (fail))
                      refine wpQuiet_nil ?_
                      refine reg_end (by kernel_rfl) ?_
                      refine hKK _ _ ?_
                      have HB10 := Lib.hid (HB9.out.trans (Below.mono T HB9.out.size))
                      clear T ca cl
                      go_wp2_with fail
                      go_roundw
                      case rel => exact ⟨j + 1, by omega, by go_num, HB10.out⟩
                      case measure => simp [intOf]; omega
                    · have hj64 : j = 64 := by omega
                      subst hj64
                      go_wp2_with fail
                      go_roundw
                      case rel => exact ⟨k + 1, s2, N, by omega, by go_num, rfl, n0, HG2.out.1, n2, HG1.out, HG2.out.2, HG4.out.call HB9.out, HC9.out, Nat.le_trans G6 HB9.out.size, HG7.out.trans (HB9.out.mono G6)⟩
                      case measure => simp [intOf]; omega
          · have hkn : k = n := by omega
            subst hkn
            go_wp2_with (go_at_call 11; refine (awake_any _).mono ?_; rintro e w' ⟨rfl, b⟩)
            go_ret
            exact ⟨rfl, by rw [HBB.out]; exact HB4.out.trans (b.mono z4)⟩
end Go.Proofs.Ytgacpkbpbckgiaa
