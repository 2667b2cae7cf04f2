/-
  Timer: walks over the chapter's Due and the law's few. Condition: the state is one that the calls make.
-/
import Derived.Test.YtmkcpgdjbbcigaaWu
namespace Go.Proofs.Ytmkcpgdjbbcigaa
open Go.RowKit
set_option linter.unusedVariables false

/-- Behind a turn, one that leaves all the first world's blocks alone. -/
theorem Turn.above {B : Nat} {T T' : List TypeId} {m m' : Bool} {a b c : World} (h : Turn B T m a b) (k : Turn a.heap.size T' m' b c) (hB : B ≤ a.heap.size) : Turn B T m a c :=
  ⟨k.os.trans h.os, k.tape.trans h.tape, k.output.trans h.output, Nat.le_trans h.size k.size, fun i hi => (k.low i (by omega)).trans (h.low i hi),
    fun i cs t fr hi ht => (k.low i (Array.getElem?_eq_some_iff.1 hi).1).trans (h.far i cs t fr hi ht), fun hm i es c hi => (k.low i (Array.getElem?_eq_some_iff.1 hi).1).trans (h.map hm i es c hi)⟩
theorem RRep.grownL {w w' : World} {B p : Nat} {s : TS} (h : RRep w B p s) {base n c size : Nat} {e : TypeId} {A : Option Addr} {xs : List Value} (hr : rowL w base e size A n c xs) (h1 : e ≠ 55) (h2 : e ≠ 65) (hg : w.grownBy w' (blkOf A)) : RRep w' B p s := by
  obtain ⟨hB, A0, c0, B0, hr0⟩ := h
  exact ⟨hB, A0, c0, B0.grownL hr h1 hg, hr0.grown hr (Ne.symm h2) hg⟩
def slen : Value → Nat
  | .slice _ n _ => n
  | _ => 0
def RDueRet (B p : Nat) (s : TS) (u : Int) (w : World) (e : Ending) (w' : World) : Prop :=
  ∃ A2 c2, e = .returned (.slice A2 (dueL s u).length c2) ∧ rowL w' w.heap.size 9 1 A2 (dueL s u).length c2 ((dueL s u).map Value.string) ∧ RRep w' B p (dueS s u) ∧ Turn B [55] false w w'
theorem rdue_past (B p : Nat) (s : TS) (u : Int) (h : u < s.now) (w : World) (r : RRep w B p s) :
    Calls Try.prog 20 #[.pointer (some ⟨p, 0, none⟩), .int .i64 u] w (RDueRet B p s u w) := by
  have HR := Lib.hid r
  obtain ⟨hB, A, c, B0, hr⟩ := r
  have c0 := B0.c1
  have HH := Lib.hid h
  clear hr
  go_enter Try.func20, Try.ntmps20
  go_wp2
  go_ret
  have e1 : dueL s u = [] := by unfold dueL; rw [if_pos HH.out]
  have e2 : dueS s u = s := by unfold dueS; rw [if_pos HH.out]
  unfold RDueRet
  rw [e1, e2]
  exact ⟨none, 0, rfl, rowL.nil _ _ _ _, HR.out, Turn.refl _ _ _ _⟩
theorem remT_zero (k : Nat) (l : List Ti) : remT 0 1 (l.drop k) = l.drop (k + 1) := by
  unfold remT
  simp

set_option maxRecDepth 100000 in
set_option maxHeartbeats 1600000 in
theorem rdue_now (B p : Nat) (s : TS) (u : Int) (h : ¬ u < s.now) (hl : s.ts.length < 1000) (w : World) (hBw : B ≤ w.heap.size) (r : RRep w B p s) :
    Calls Try.prog 20 #[.pointer (some ⟨p, 0, none⟩), .int .i64 u] w (RDueRet B p s u w) := by
  have HRR := Lib.hid r
  obtain ⟨hB, A, c, B0, hr⟩ := r
  have c0 := B0.c1
  have HH := Lib.hid h
  clear hr B0
  have hdle := dueN_le u s.ts
  obtain ⟨N, hN⟩ : ∃ N, dueN u s.ts = N := ⟨_, rfl⟩
  rw [hN] at hdle
  have HN := Lib.hid hN
  clear hN
  go_enter Try.func20, Try.ntmps20
  go_wp2_with fail
  clear c0
  go_loopw [5] (fun d wr => ∃ (k : Nat) (A2 : Option Addr) (c2 : Nat), k ≤ N ∧ d = .slice A2 k c2 ∧ rowL wr w.heap.size 9 1 A2 k c2 (idsV (s.ts.take k)) ∧ RRep wr B p { s with ts := s.ts.drop k } ∧ Turn B [55] false w wr) (fun d _ => N - slen d)
  case atStart => exact ⟨0, none, 0, by omega, rfl, rowL.nil _ _ _ _, HRR.out, Turn.refl _ _ _ _⟩
  case round =>
    obtain ⟨k, A2, C2, hk, rfl, hrow, hrep, hT⟩ := hrel
    have HI := Lib.hid hrow
    have HRp := Lib.hid hrep
    have HT := Lib.hid hT
    have zr := Nat.le_trans hBw hT.size
    have zw := hT.size
    obtain ⟨_, A5, c5, B5, hr5⟩ := hrep
    have e0 := B5.c0
    have hll : ({ s with ts := s.ts.drop k } : TS).ts.length = s.ts.length - k := List.length_drop
    rw [hll] at e0 hr5
    have HR5 := Lib.hid hr5
    have d1 := B5.c1
    have l5 := B5.lt
    have f5 := B5.frozen
    have HB5 := Lib.hid B5
    clear hrow hT hr5 B5 hll
    by_cases hlt : k < s.ts.length
    · obtain ⟨g, rfl, hBg, hgs, hcell, _⟩ := HR5.out.cells (by omega)
      have hu : s.ts[k]? = some s.ts[k] := List.getElem?_eq_getElem hlt
      have hd0 : (s.ts.drop k)[0]? = some s.ts[k] := by rw [List.getElem?_drop]; exact hu
      have g0 := hcell 0 (.string s.ts[k].id) (by have := atM tiC 2 tiC2 _ 0 _ 0 hd0 (by decide); simpa [tiC] using this)
      have g1 := hcell 1 (.int .i64 s.ts[k].at_) (by have := atM tiC 2 tiC2 _ 0 _ 1 hd0 (by decide); simpa [tiC] using this)
      have HU := Lib.hid hu
      have n1 : 0 < s.ts.length - k := by omega
      have n2 : (0 : Int) < ((s.ts.length - k : Nat) : Int) := by omega
      clear hcell hu hd0
      generalize s.ts[k] = x at g0 g1 HU
      by_cases hdue : u < x.at_
      · have hx : ¬ x.at_ ≤ u := by omega
        have hkN : k = N := by rw [← HN.out]; exact (dueN_here (by rw [HN.out]; exact hk) HU.out hdue).symm
        have e1 : dueL s u = (s.ts.take k).map Ti.id := by unfold dueL; rw [if_neg (by have := HH.out; omega), HN.out, hkN]
        have e2 : dueS s u = ⟨min u 1099511627776, s.ts.drop k⟩ := by unfold dueS; rw [if_neg (by have := HH.out; omega), HN.out, hkN]
        have e3 : (dueL s u).length = k := by rw [e1]; simp; omega
        have e4 : (dueL s u).map Value.string = idsV (s.ts.take k) := by rw [e1, List.map_map]; rfl
        have E1 := Lib.hid e2
        have E3 := Lib.hid e3
        have E4 := Lib.hid e4
        clear e1 e2 e3 e4 hkN
        go_wp2_with fail
        all_goals
          go_ret
          refine ⟨A2, C2, by rw [E3.out]; rfl, ?_, ?_, HT.out.setB HB5.out rfl hB 1 _⟩
          · rw [E3.out, E4.out]
            exact HI.out.far HB5.out (by decide) 1 _
          · rw [E1.out]
            first
              | (have hm : min u 1099511627776 = u := by omega
                 rw [hm]
                 exact ⟨hB, (some ⟨g, 0, none⟩), c5, HB5.out.s1 _, by show rowL _ B 65 2 (some ⟨g, 0, none⟩) (s.ts.drop k).length c5 _; rw [List.length_drop]; exact HR5.out.far HB5.out (by decide) 1 _⟩)
              | (have hm : min u 1099511627776 = 1099511627776 := by omega
                 rw [hm]
                 exact ⟨hB, (some ⟨g, 0, none⟩), c5, HB5.out.s1 _, by show rowL _ B 65 2 (some ⟨g, 0, none⟩) (s.ts.drop k).length c5 _; rw [List.length_drop]; exact HR5.out.far HB5.out (by decide) 1 _⟩)
      · have hx : x.at_ ≤ u := by omega
        have hkN : k + 1 ≤ N := by rw [← HN.out]; exact dueN_on (by rw [HN.out]; exact hk) HU.out hdue
        go_wp2_with (first
          | (at_builtin
             go_must (refine wpList_appL strE _ _ rfl rfl (m := 1) (c' := 1) (ys := [Value.string x.id]) rfl rfl (HI.out.alloc (.cells #[.string x.id] 9)) (RDn.of_box (Blk.new wr 9 #[.string x.id])) (str_one x.id) (by unfold maxLen; omega) (by omega) (by simp; omega) ?_)
             intro A3 c3 w3 hr3 hg3 hor
             have RA := HI.out.alloc (.cells #[.string x.id] 9)
             have R3 := (HRp.out.call ((Below.refl _ _).alloc (Nat.le_refl _) (.cells #[.string x.id] 9))).grownL RA (by decide) (by decide) hg3
             have T3 := Lib.hid ((HT.out.alloc (.cells #[.string x.id] 9) hBw).grownN RA hg3 hBw)
             have I3 := Lib.hid hr3
             have HD := rremove_any B p { s with ts := s.ts.drop k } 0 (by show 0 < (s.ts.drop k).length; rw [List.length_drop]; omega) (by show (s.ts.drop k).length < 1000; rw [List.length_drop]; omega) w3 (Nat.le_trans hBw T3.out.size) R3
             rw [show ((0 : Nat) : Int) = 0 from rfl] at HD
             unfold RRemRet at HD
             rw [show ({ s with ts := s.ts.drop k } : TS).ts = s.ts.drop k from rfl, remT_zero] at HD
             replace HD := Lib.hid HD
             clear hr3 hg3 hor RA R3 g0 g1 e0)
          | (go_at_call 39; refine HD.out.mono ?_; rintro e w4 ⟨rfl, R4, T4⟩))
        go_roundw
        case rel =>
          refine ⟨k + 1, A3, c3, hkN, rfl, ?_, R4, T3.out.trans T4⟩
          have ht : idsV (s.ts.take (k + 1)) = idsV (s.ts.take k) ++ [Value.string x.id] := by unfold idsV; rw [List.take_add_one, HU.out]; simp
          rw [ht]
          exact I3.out.turn T4 rfl
        case measure => simp [slen]; omega
    · have hkN : k = N := by omega
      have n1 : s.ts.length - k = 0 := by omega
      rw [n1] at e0
      obtain ⟨Z, hZ⟩ : ∃ Z, s.ts.length - k = Z := ⟨_, rfl⟩
      have HZ := Lib.hid n1
      clear n1
      clear hZ Z
      have e1 : dueL s u = (s.ts.take k).map Ti.id := by unfold dueL; rw [if_neg (by have := HH.out; omega), HN.out, hkN]
      have e2 : dueS s u = ⟨min u 1099511627776, s.ts.drop k⟩ := by unfold dueS; rw [if_neg (by have := HH.out; omega), HN.out, hkN]
      have e3 : (dueL s u).length = k := by rw [e1]; simp; omega
      have e4 : (dueL s u).map Value.string = idsV (s.ts.take k) := by rw [e1, List.map_map]; rfl
      have E1 := Lib.hid e2
      have E3 := Lib.hid e3
      have E4 := Lib.hid e4
      clear e1 e2 e3 e4 hkN
      go_wp2_with fail
      all_goals
        go_ret
        refine ⟨A2, C2, by rw [E3.out]; rfl, ?_, ?_, HT.out.setB HB5.out rfl hB 1 _⟩
        · rw [E3.out, E4.out]
          exact HI.out.far HB5.out (by decide) 1 _
        · rw [E1.out]
          first
            | (have hm : min u 1099511627776 = u := by omega
               rw [hm]
               exact ⟨hB, A5, c5, HB5.out.s1 _, by show rowL _ B 65 2 A5 (s.ts.drop k).length c5 _; rw [List.length_drop]; exact HR5.out.far HB5.out (by decide) 1 _⟩)
            | (have hm : min u 1099511627776 = 1099511627776 := by omega
               rw [hm]
               exact ⟨hB, A5, c5, HB5.out.s1 _, by show rowL _ B 65 2 A5 (s.ts.drop k).length c5 _; rw [List.length_drop]; exact HR5.out.far HB5.out (by decide) 1 _⟩)
end Go.Proofs.Ytmkcpgdjbbcigaa
