/-
  Walks over bitmap.Of and cardnetref05.Of: each returns what its fold over the list says, whatever slice of numbers comes in. No condition but that a slice's length is a Go int.
-/
import Derived.Test.YtfolabkgeeeobaaWa
import Derived.Test.YtfolabkgeeeobaaRegion
namespace Go.Proofs.Ytfolabkgeeeobaa
open Go.RowKit

def ofL : List Int → Int → Int → Option (Int × Int)
  | [], x, y => some (x, y)
  | n :: l, x, y => if 2 ≤ n ∧ n ≤ 128 then ofL l (setX n x) (setY n y) else none
def ofRes : Option (Int × Int) → Value
  | some (x, y) => .tuple #[.agg #[.int .u64 x, .int .u64 y], .int .i64 0]
  | none => .tuple #[.agg #[.int .u64 0, .int .u64 0], .int .i64 4]
theorem ofL_yes {zs : List Int} {k : Nat} (h : k < zs.length) {x y : Int} (h2 : 2 ≤ zs[k]) (h3 : zs[k] ≤ 128) : ofL (zs.drop k) x y = ofL (zs.drop (k + 1)) (setX zs[k] x) (setY zs[k] y) := by
  rw [List.drop_eq_getElem_cons h, ofL, if_pos ⟨h2, h3⟩]
theorem ofL_no {zs : List Int} {k : Nat} (h : k < zs.length) {x y : Int} (h2 : ¬ (2 ≤ zs[k] ∧ zs[k] ≤ 128)) : ofL (zs.drop k) x y = none := by
  rw [List.drop_eq_getElem_cons h, ofL, if_neg h2]

set_option maxHeartbeats 400000 in
theorem of_any (A : Option Addr) (n c : Nat) (zs : List Int) (w : World) (hz : zs.length = n) (hm : n ≤ 9223372036854775807) (hr : RD w A n (zs.map (Value.int .i64))) :
    Calls Try.prog 10 #[.slice A n c] w fun e w' => e = .returned (ofRes (ofL zs 0 0)) ∧ Below w.heap.size w w' := by
  have HR := Lib.hid hr
  have HZ := Lib.hid hz
  clear hr hz
  have iss := isSome_setCell
  go_enter Try.func10, Try.ntmps10
  go_wp2_with fail
  go_loopw [12] (fun i wr => ∃ (k : Nat) (x y : Int), k ≤ n ∧ i = .int .i64 k ∧ Blk wr (w.heap.size + 1) 26 #[.int .u64 x, .int .u64 y] ∧ Blk wr w.heap.size 26 #[.int .u64 0, .int .u64 0] ∧ Below w.heap.size w wr ∧ Hid (ofL zs 0 0 = ofL (zs.drop k) x y)) (fun i _ => n - (intOf i).toNat)
  case atStart => 
    exact ⟨0, 0, 0, Nat.zero_le _, rfl, by have := Blk.new (w.alloc (.cells #[.int .u64 0, .int .u64 0] 26)) 26 #[.int .u64 0, .int .u64 0]; simpa using this, (Blk.new w 26 #[.int .u64 0, .int .u64 0]).alloc _, ((Below.refl _ _).alloc (Nat.le_refl _) _).alloc (by simp <;> omega) _, by simp [Hid]⟩
  case round =>
    obtain ⟨k, x, y, hk, rfl, B1, B0, hb, HL⟩ := hrel
    have c0 := B0.c0; have c1 := B0.c1; have d0 := B1.c0; have d1 := B1.c1; have f0 := B0.frozen; have f1 := B1.frozen
    by_cases hlt : k < n
    · obtain ⟨b, off, rfl, hbl, hcell⟩ := HR.out.2 (by omega)
      have hkz : k < zs.length := by rw [HZ.out]; exact hlt
      have hc := (hb.cell hbl).trans (hcell k (.int .i64 zs[k]) (by simp [hkz]))
      by_cases hin : 2 ≤ zs[k] ∧ zs[k] ≤ 128
      · obtain ⟨h2, h3⟩ := hin
        have HN := Lib.hid (HL.out.trans (ofL_yes hkz h2 h3))
        go_wp2_with (go_at_call 23; refine (set_yes _ _ _ _ h2 h3).mono ?_; rintro e w1 ⟨rfl, hb1⟩; have B0' := B0.call hb1; have B1' := B1.call hb1; have c0' := B0'.c0; have c1' := B0'.c1; have d0' := B1'.c0; have d1' := B1'.c1; have f0' := B0'.frozen; have f1' := B1'.frozen; have hz3 := B0'.lt; have hz4 := B1'.lt)
        go_roundw
        case rel => 
          refine ⟨k + 1, _, _, by omega, by go_num, ((B1'.s0 _).s1 _).alloc _, ((B0'.far (by simp) _).far (by simp) _).alloc _, ?_, HN⟩
          have hz5 := hb.size
          have hz6 := hb1.size
          repeat' (first | refine Below.setCell ?_ (by simp) _ | refine Below.alloc ?_ (by simp <;> omega) _ | refine drewN_below ?_ _ | exact Below.refl _ _ | exact hb.trans (hb1.mono hz5))
        case measure => simp [intOf]; omega
      · have HN := Lib.hid (HL.out.trans (ofL_no hkz hin))
        go_wp2_with (go_at_call 23; refine (set_no _ _ _ _ (by omega)).mono ?_; rintro e w1 ⟨rfl, hb1⟩; have B0' := B0.call hb1; have B1' := B1.call hb1; have c0' := B0'.c0; have c1' := B0'.c1; have d0' := B1'.c0; have d1' := B1'.c1; have f0' := B0'.frozen; have f1' := B1'.frozen; have hz3 := B0'.lt; have hz4 := B1'.lt)
        have hz5 := hb.size
        have hz6 := hb1.size
        refine post_cell2 _ _ _ _ Try.results10 rfl rfl Try.isAgg26 Try.sizeOf26 (((B0'.s0 _).s1 _).alloc _) rfl ⟨by rw [HN.out]; rfl, ?_⟩
        repeat' (first | refine Below.setCell ?_ (by simp) _ | refine Below.alloc ?_ (by simp <;> omega) _ | refine drewN_below ?_ _ | exact Below.refl _ _ | exact hb.trans (hb1.mono hz5))
    · have hz3 := B0.lt
      have hkn : k = n := by omega
      have HN : Hid (ofL zs 0 0 = some (x, y)) := Lib.hid (by rw [HL.out, hkn, ← HZ.out, List.drop_length]; rfl)
      clear hkn
      go_wp2
      refine post_cell2 _ _ _ _ Try.results10 rfl rfl Try.isAgg26 Try.sizeOf26 ((B0.s0 _).s1 _) rfl ⟨by rw [HN.out]; rfl, ?_⟩
      repeat' (first | refine Below.setCell ?_ (by simp) _ | exact hb)

def sorX (n x : Int) : Int := if n ≤ 64 then orI x (bitI n) else x
def sorY (n y : Int) : Int := if n ≤ 64 then y else orI y (bitI n)
def ofR : List Int → Int → Int → Option (Int × Int)
  | [], x, y => some (x, y)
  | n :: l, x, y => if 2 ≤ n ∧ n ≤ 128 then ofR l (sorX n x) (sorY n y) else none
theorem ofR_yes {zs : List Int} {k : Nat} (h : k < zs.length) {x y : Int} (h2 : 2 ≤ zs[k]) (h3 : zs[k] ≤ 128) : ofR (zs.drop k) x y = ofR (zs.drop (k + 1)) (sorX zs[k] x) (sorY zs[k] y) := by
  rw [List.drop_eq_getElem_cons h, ofR, if_pos ⟨h2, h3⟩]
theorem ofR_no {zs : List Int} {k : Nat} (h : k < zs.length) {x y : Int} (h2 : ¬ (2 ≤ zs[k] ∧ zs[k] ≤ 128)) : ofR (zs.drop k) x y = none := by
  rw [List.drop_eq_getElem_cons h, ofR, if_neg h2]

set_option maxHeartbeats 400000 in
theorem rof_any (A : Option Addr) (n c : Nat) (zs : List Int) (w : World) (hz : zs.length = n) (hm : n ≤ 9223372036854775807) (hr : RD w A n (zs.map (Value.int .i64))) :
    Calls Try.prog 11 #[.slice A n c] w fun e w' => e = .returned (ofRes (ofR zs 0 0)) ∧ Below w.heap.size w w' := by
  have HR := Lib.hid hr
  have HZ := Lib.hid hz
  clear hr hz
  have iss := isSome_setCell
  go_enter Try.func11, Try.ntmps11
  go_wp2_with fail
  go_loopw [5] (fun i wr => ∃ (k : Nat) (x y : Int), k ≤ n ∧ i = .int .i64 k ∧ Blk wr (w.heap.size + 1) 26 #[.int .u64 x, .int .u64 y] ∧ Blk wr w.heap.size 26 #[.int .u64 0, .int .u64 0] ∧ Below w.heap.size w wr ∧ Hid (ofR zs 0 0 = ofR (zs.drop k) x y)) (fun i _ => n - (intOf i).toNat)
  case atStart => 
    exact ⟨0, 0, 0, Nat.zero_le _, rfl, by have := Blk.new (w.alloc (.cells #[.int .u64 0, .int .u64 0] 26)) 26 #[.int .u64 0, .int .u64 0]; simpa using this, (Blk.new w 26 #[.int .u64 0, .int .u64 0]).alloc _, ((Below.refl _ _).alloc (Nat.le_refl _) _).alloc (by simp <;> omega) _, by simp [Hid]⟩
  case round =>
    obtain ⟨k, x, y, hk, rfl, B1, B0, hb, HL⟩ := hrel
    have c0 := B0.c0; have c1 := B0.c1; have d0 := B1.c0; have d1 := B1.c1; have f0 := B0.frozen; have f1 := B1.frozen; have hz3 := B0.lt; have hz4 := B1.lt
    by_cases hlt : k < n
    · obtain ⟨b, off, rfl, hbl, hcell⟩ := HR.out.2 (by omega)
      have hkz : k < zs.length := by rw [HZ.out]; exact hlt
      have hc := (hb.cell hbl).trans (hcell k (.int .i64 zs[k]) (by simp [hkz]))
      clear hcell
      by_cases h2 : 2 ≤ zs[k]
      · by_cases h3 : zs[k] ≤ 128
        · have HN := Lib.hid (HL.out.trans (ofR_yes hkz h2 h3))
          by_cases h64 : zs[k] ≤ 64
          · skip
            have e1 : IntKind.i64.wrap (zs[k] - 1) = zs[k] - 1 := IntWalk.i64_in _ (by omega)
            have e2 : (zs[k] - 1).tdiv 64 = 0 := by rw [Int.tdiv_eq_ediv_of_nonneg (by omega)]; omega
            go_wp2_with fail
            refine wp_region_quiet_tail (C := fun w' => ∃ q : Nat, w' = wr.drewN q) 14 (by kernel_rfl) (by kernel_rfl) ⟨1, rfl⟩ ?_
            simp only [List.take_succ_cons, List.take_zero, List.drop_succ_cons, List.drop_zero]
            repeat (go_big_quiet_step ((go_at_call 31; exact Calls.quiet_of_same ((bit_any _ _ h2 h3).mono fun _ _ h => ⟨h.1, h.2.symm⟩))))
            refine wpQuiet_nil ?_
            rintro _ ⟨q, rfl⟩
            go_wp2
            go_roundw
            case rel =>
              refine ⟨k + 1, _, y, by omega, by go_num, (B1.drewN q).s0 _, (B0.drewN q).far (by simp) _, (drewN_below hb q).setCell (by simp) _, ?_⟩
              have E1 : sorX zs[k] x = orI x (bitI zs[k]) := by unfold sorX; first | rw [if_pos h64] | rw [if_neg (by omega)]
              have E2 : sorY zs[k] y = y := by unfold sorY; first | rw [if_pos h64] | rw [if_neg (by omega)]
              have HN' := HN.out
              rw [E1, E2] at HN'
              exact HN'
            case measure => simp [intOf]; omega
          · skip
            have e1 : IntKind.i64.wrap (zs[k] - 1) = zs[k] - 1 := IntWalk.i64_in _ (by omega)
            have e2 : (zs[k] - 1).tdiv 64 = 1 := by rw [Int.tdiv_eq_ediv_of_nonneg (by omega)]; omega
            go_wp2_with fail
            refine wp_region_quiet_tail (C := fun w' => ∃ q : Nat, w' = wr.drewN q) 14 (by kernel_rfl) (by kernel_rfl) ⟨1, rfl⟩ ?_
            simp only [List.take_succ_cons, List.take_zero, List.drop_succ_cons, List.drop_zero]
            repeat (go_big_quiet_step ((go_at_call 31; exact Calls.quiet_of_same ((bit_any _ _ h2 h3).mono fun _ _ h => ⟨h.1, h.2.symm⟩))))
            refine wpQuiet_nil ?_
            rintro _ ⟨q, rfl⟩
            go_wp2
            go_roundw
            case rel =>
              refine ⟨k + 1, x, _, by omega, by go_num, (B1.drewN q).s1 _, (B0.drewN q).far (by simp) _, (drewN_below hb q).setCell (by simp) _, ?_⟩
              have E1 : sorX zs[k] x = x := by unfold sorX; first | rw [if_pos h64] | rw [if_neg (by omega)]
              have E2 : sorY zs[k] y = orI y (bitI zs[k]) := by unfold sorY; first | rw [if_pos h64] | rw [if_neg (by omega)]
              have HN' := HN.out
              rw [E1, E2] at HN'
              exact HN'
            case measure => simp [intOf]; omega
        · have HN := Lib.hid (HL.out.trans (ofR_no hkz (by omega)))
          go_wp2
          refine post_cell2 _ _ _ _ Try.results11 rfl rfl Try.isAgg26 Try.sizeOf26 ((B0.s0 _).s1 _) rfl ⟨by rw [HN.out]; rfl, ?_⟩
          exact (hb.setCell (by simp) _).setCell (by simp) _
      · have HN := Lib.hid (HL.out.trans (ofR_no hkz (by omega)))
        go_wp2
        refine post_cell2 _ _ _ _ Try.results11 rfl rfl Try.isAgg26 Try.sizeOf26 ((B0.s0 _).s1 _) rfl ⟨by rw [HN.out]; rfl, ?_⟩
        exact (hb.setCell (by simp) _).setCell (by simp) _
    · have hkn : k = n := by omega
      have HN : Hid (ofR zs 0 0 = some (x, y)) := Lib.hid (by rw [HL.out, hkn, ← HZ.out, List.drop_length]; rfl)
      clear hkn
      go_wp2
      refine post_cell2 _ _ _ _ Try.results11 rfl rfl Try.isAgg26 Try.sizeOf26 ((B0.s0 _).s1 _) rfl ⟨by rw [HN.out]; rfl, ?_⟩
      repeat' (first | refine Below.setCell ?_ (by simp) _ | exact hb)
end Go.Proofs.Ytfolabkgeeeobaa
