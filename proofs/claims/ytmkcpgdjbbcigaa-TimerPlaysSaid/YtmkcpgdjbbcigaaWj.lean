/-
  Timer: walk over Due. Condition: the state is one that the calls make.
-/
import Derived.Test.YtmkcpgdjbbcigaaWi
namespace Go.Proofs.Ytmkcpgdjbbcigaa
open Go.RowKit
set_option linter.unusedVariables false

/-- What Due returns, and leaves. -/
def dueL (s : TS) (u : Int) : List ByteArray := if u < s.now then [] else (s.ts.take (dueN u s.ts)).map Ti.id
def dueS (s : TS) (u : Int) : TS := if u < s.now then s else ⟨min u 1099511627776, s.ts.drop (dueN u s.ts)⟩
theorem dueN_cut {u : Int} {l : List Ti} {k : Nat} {x : Ti} (h : l[k]? = some x) : dueN u (l.drop k) = if u < x.at_ then 0 else dueN u (l.drop (k + 1)) + 1 := by
  obtain ⟨hl, rfl⟩ := List.getElem?_eq_some_iff.1 h
  rw [List.drop_eq_getElem_cons hl, dueN]
theorem dueN_end {u : Int} {l : List Ti} {k : Nat} (h : l.length ≤ k) : dueN u (l.drop k) = 0 := by
  rw [List.drop_of_length_le h]
  rfl
theorem strE : ElemT Try.prog 35 9 (.string ⟨#[]⟩) 1 16 := ⟨Try.underlying35, by kernel_rfl, rfl, by decide⟩
theorem str_one (k : ByteArray) : ∀ u ∈ [Value.string k], u.oneCell' = true := by
  intro u hu
  simp at hu
  subst hu
  rfl
theorem new1 (w : World) (o : Obj) (t : TypeId) (cs : Array Value) : Blk ((w.alloc o).alloc (.cells cs t)) (w.heap.size + 1) t cs := by
  have := Blk.new (w.alloc o) t cs
  rwa [show (w.alloc o).heap.size = w.heap.size + 1 by simp] at this
def DueRet (B p : Nat) (s : TS) (u : Int) (w : World) (e : Ending) (w' : World) : Prop :=
  ∃ A2 c2, e = .returned (.slice A2 (dueL s u).length c2) ∧ rowL w' w.heap.size 9 1 A2 (dueL s u).length c2 ((dueL s u).map Value.string) ∧ TRep w' B p (dueS s u) ∧ Turn B [52, 61] false w w'
theorem due_past (B p : Nat) (s : TS) (u : Int) (h : u < s.now) (w : World) (r : TRep w B p s) :
    Calls Try.prog 19 #[.pointer (some ⟨p, 0, none⟩), .int .i64 u] w (DueRet B p s u w) := by
  have HR := Lib.hid r
  obtain ⟨hB, A, c, B0, hr⟩ := r
  have c0 := B0.c0
  have HH := Lib.hid h
  clear hr
  go_enter Try.func19, Try.ntmps19
  go_wp2
  go_ret
  have e1 : dueL s u = [] := by unfold dueL; rw [if_pos HH.out]
  have e2 : dueS s u = s := by unfold dueS; rw [if_pos HH.out]
  unfold DueRet
  rw [e1, e2]
  exact ⟨none, 0, rfl, rowL.nil _ _ _ _, HR.out, Turn.refl _ _ _ _⟩

set_option maxRecDepth 100000 in
set_option maxHeartbeats 1600000 in
theorem due_now (B p : Nat) (s : TS) (u : Int) (h : ¬ u < s.now) (hl : s.ts.length < 1000) (w : World) (hBw : B ≤ w.heap.size) (r : TRep w B p s) :
    Calls Try.prog 19 #[.pointer (some ⟨p, 0, none⟩), .int .i64 u] w (DueRet B p s u w) := by
  have HRR := Lib.hid r
  obtain ⟨hB, A, c, B0, hr⟩ := r
  have c0 := B0.c0
  have c1 := B0.c1
  obtain ⟨hnc, hcm⟩ := hr.len
  have HR := Lib.hid hr
  have HH := Lib.hid h
  clear hr
  go_enter Try.func19, Try.ntmps19
  go_wp2_with fail
  go_loopw [5, 24] (fun d i wr => ∃ (k : Nat) (A2 : Option Addr) (c2 : Nat), k ≤ s.ts.length ∧ i = .int .i64 k ∧ d = .slice A2 k c2 ∧ dueN u s.ts = k + dueN u (s.ts.drop k) ∧ rowL wr w.heap.size 9 1 A2 k c2 ((s.ts.take k).map fun x => Value.string x.id) ∧ Below w.heap.size w wr) (fun _ i _ => s.ts.length - (intOf i).toNat)
  case atStart => exact ⟨0, none, 0, by omega, rfl, rfl, by simp, rowL.nil _ _ _ _, Below.refl _ _⟩
  case round =>
    obtain ⟨k, A2, C2, hk, rfl, rfl, hN, hrow, hb⟩ := hrel
    have HN := Lib.hid hN
    have HI := Lib.hid hrow
    have HB := Lib.hid hb
    clear hN hrow hb
    by_cases hlt : k < s.ts.length
    · obtain ⟨g, rfl, hBg, hgs, hcell, _⟩ := (HR.out.call HB.out).cells (by omega)
      have hu : s.ts[k]? = some s.ts[k] := List.getElem?_eq_getElem hlt
      have g0 := hcell (k * 2) (.string s.ts[k].id) (by have := atM tiC 2 tiC2 s.ts k _ 0 hu (by decide); simpa [tiC] using this)
      have g1 := hcell (k * 2 + 1) (.int .i64 s.ts[k].at_) (by rw [atM tiC 2 tiC2 s.ts k _ 1 hu (by decide)]; rfl)
      have hcut := dueN_cut (u := u) hu
      have HC := Lib.hid hcut
      have HU := Lib.hid hu
      clear hcell hu hcut
      generalize s.ts[k] = x at g0 g1 HC HU
      by_cases hdue : u < x.at_
      · have hx : ¬ x.at_ ≤ u := by omega
        have HE : Hid (dueN u s.ts = k) := Lib.hid (by rw [HN.out, HC.out, if_pos hdue]; rfl)
        have b1 := HB.out.trans (((Below.refl wr.heap.size wr).alloc (Nat.le_refl _) (.cells #[.string x.id, .int .i64 x.at_] 61)).mono HB.out.size)
        have HD := remove_any B p s 0 k (by omega) _ (Nat.le_trans hBw b1.size) (HRR.out.call b1)
        rw [show ((0 : Nat) : Int) = 0 from rfl] at HD
        replace HD := Lib.hid HD
        have T1 := Lib.hid (Turn.of_below (T := [52, 61]) (m := false) b1 hBw)
        have I1 := Lib.hid (HI.out.alloc (.cells #[.string x.id, .int .i64 x.at_] 61))
        clear b1
        go_wp2_with (
           go_at_call 38
           refine HD.out.mono ?_
           rintro e w2 ⟨rfl, R2, T2⟩
           obtain ⟨_, A4, c4, B4, hr4⟩ := R2
           have HR4 := Lib.hid hr4
           have l4 := B4.lt
           have f4 := B4.frozen
           have d4 := B4.c0
           have T2' := Lib.hid T2
           clear hr4 T2)
        all_goals
          go_ret
          have e1 : dueL s u = (s.ts.take k).map Ti.id := by unfold dueL; rw [if_neg (by have := HH.out; omega), HE.out]
          have e2 : dueS s u = ⟨min u 1099511627776, remT 0 k s.ts⟩ := by unfold dueS; rw [if_neg (by have := HH.out; omega), HE.out]; simp [remT]
          have e3 : (dueL s u).length = k := by rw [e1]; simp; omega
          refine ⟨A2, C2, by rw [e3]; rfl, ?_, ?_, (T1.out.trans T2'.out).setB B4 rfl hB 0 _⟩
          · rw [e3, e1, List.map_map]
            exact ((I1.out.turn T2'.out rfl).far B4 (by decide) 0 _)
          · first
              | (have hm : min u 1099511627776 = u := by omega
                 rw [e2, hm]
                 exact ⟨hB, A4, c4, B4.s0 _, HR4.out.far B4 (by decide) 0 _⟩)
              | (have hm : min u 1099511627776 = 1099511627776 := by omega
                 rw [e2, hm]
                 exact ⟨hB, A4, c4, B4.s0 _, HR4.out.far B4 (by decide) 0 _⟩)
      · have hx : x.at_ ≤ u := by omega
        have HE : Hid (dueN u s.ts = ((k + 1 : Nat) : Int) + dueN u (s.ts.drop (k + 1))) := Lib.hid (by rw [HN.out, HC.out, if_neg hdue]; push_cast; omega)
        have b1 := HB.out.trans (((Below.refl wr.heap.size wr).alloc (Nat.le_refl _) (.cells #[.string x.id, .int .i64 x.at_] 61)).mono HB.out.size)
        have HB1 := Lib.hid b1
        have I1 := Lib.hid (HI.out.alloc (.cells #[.string x.id, .int .i64 x.at_] 61))
        clear b1
        go_wp2_with (
          at_builtin
          go_must (refine wpList_appL strE _ _ rfl rfl (m := 1) (c' := 1) (ys := [Value.string x.id]) rfl rfl (I1.out.alloc (.cells #[.string x.id] 9)) (RDn.of_box (new1 wr _ 9 #[.string x.id])) (str_one x.id) (by unfold maxLen; omega) (by omega) (by have := HB1.out.size; simp at this ⊢; omega) ?_)
          intro A3 c3 w3 hr3 hg3 hor
          have RA := I1.out.alloc (.cells #[.string x.id] 9)
          have HR3 := Lib.hid hr3
          have b3 := Lib.hid ((HB1.out.alloc (HB1.out.size) (.cells #[.string x.id] 9)).grown hg3 (by have := HB1.out.size; simp at this ⊢; omega) (fun q hq => by
            rcases RA.2 with ⟨rfl, _⟩ | ⟨g', cur, rfl, hb, _⟩
            · simp [blkOf] at hq
            · simp [blkOf] at hq; omega))
          clear hr3 hg3 hor RA)
        go_roundw
        case rel =>
          refine ⟨k + 1, A3, c3, by omega, by go_num, rfl, ?_, ?_, b3.out⟩
          · have := HE.out; omega
          · have ht : s.ts.take (k + 1) = s.ts.take k ++ [x] := by rw [List.take_add_one, HU.out]; rfl
            rw [ht, List.map_append]
            exact HR3.out
        case measure => simp [intOf]; omega
    · have hkl : k = s.ts.length := by omega
      have HE : Hid (dueN u s.ts = k) := Lib.hid (by rw [HN.out, dueN_end (by omega)]; rfl)
      have HD := remove_any B p s 0 k (by omega) _ (Nat.le_trans hBw HB.out.size) (HRR.out.call HB.out)
      rw [show ((0 : Nat) : Int) = 0 from rfl] at HD
      replace HD := Lib.hid HD
      have T1 := Lib.hid (Turn.of_below (T := [52, 61]) (m := false) HB.out hBw)
      have I1 := HI
      clear hkl
      go_wp2_with (
         go_at_call 38
         refine HD.out.mono ?_
         rintro e w2 ⟨rfl, R2, T2⟩
         obtain ⟨_, A4, c4, B4, hr4⟩ := R2
         have HR4 := Lib.hid hr4
         have l4 := B4.lt
         have f4 := B4.frozen
         have d4 := B4.c0
         have T2' := Lib.hid T2
         clear hr4 T2)
      all_goals
        go_ret
        have e1 : dueL s u = (s.ts.take k).map Ti.id := by unfold dueL; rw [if_neg (by have := HH.out; omega), HE.out]
        have e2 : dueS s u = ⟨min u 1099511627776, remT 0 k s.ts⟩ := by unfold dueS; rw [if_neg (by have := HH.out; omega), HE.out]; simp [remT]
        have e3 : (dueL s u).length = k := by rw [e1]; simp; omega
        refine ⟨A2, C2, by rw [e3]; rfl, ?_, ?_, (T1.out.trans T2'.out).setB B4 rfl hB 0 _⟩
        · rw [e3, e1, List.map_map]
          exact ((I1.out.turn T2'.out rfl).far B4 (by decide) 0 _)
        · first
            | (have hm : min u 1099511627776 = u := by omega
               rw [e2, hm]
               exact ⟨hB, A4, c4, B4.s0 _, HR4.out.far B4 (by decide) 0 _⟩)
            | (have hm : min u 1099511627776 = 1099511627776 := by omega
               rw [e2, hm]
               exact ⟨hB, A4, c4, B4.s0 _, HR4.out.far B4 (by decide) 0 _⟩)
end Go.Proofs.Ytmkcpgdjbbcigaa
