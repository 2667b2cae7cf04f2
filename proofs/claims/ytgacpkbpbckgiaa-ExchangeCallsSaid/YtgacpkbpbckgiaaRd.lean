/-
  Exchange: walk over the chapter's own Lost. Condition: the state is one that the calls make.
-/
import Derived.Test.YtgacpkbpbckgiaaRc
namespace Go.Proofs.Ytgacpkbpbckgiaa
open Go.RowKit
set_option linter.unusedVariables false

/-- What Lost has reported, and made, behind the first k requests. -/
def lkp (s : XS) (a : Int) (k : Nat) : List ByteArray := ((s.its.take k).filter (lostB s.tmo a)).map Im.key
def mid (s : XS) (a : Int) (k : Nat) : List Im := (s.its.take k).map (lostU s.tmo a) ++ s.its.drop k
theorem mid_len {s : XS} {a : Int} {k : Nat} : (mid s a k).length = s.its.length := by
  unfold mid
  rw [List.length_append, List.length_map, List.length_take, List.length_drop]
  omega
theorem mid_at {s : XS} {a : Int} {k : Nat} {x : Im} (h : s.its[k]? = some x) : (mid s a k)[k]? = some x := by
  have hk := (List.getElem?_eq_some_iff.1 h).1
  unfold mid
  rw [List.getElem?_append_right (by rw [List.length_map, List.length_take]; omega), List.length_map, List.length_take, List.getElem?_drop]
  rw [show k + (k - min k s.its.length) = k by omega]
  exact h
theorem lkp_succ {s : XS} {a : Int} {k : Nat} {x : Im} (h : s.its[k]? = some x) : lkp s a (k + 1) = lkp s a k ++ if lostB s.tmo a x then [x.key] else [] := by
  unfold lkp
  rw [List.take_add_one, h, List.filter_append, List.map_append]
  cases hw : lostB s.tmo a x <;> simp [hw]
theorem mid_succ {s : XS} {a : Int} {k : Nat} {x : Im} (h : s.its[k]? = some x) : mid s a (k + 1) = (mid s a k).set k (lostU s.tmo a x) := by
  have hk := (List.getElem?_eq_some_iff.1 h).1
  unfold mid
  rw [List.set_append_right _ _ (by rw [List.length_map, List.length_take]; omega), List.length_map, List.length_take, show k - min k s.its.length = 0 by omega]
  rw [List.take_add_one, h, List.map_append, List.append_assoc]
  congr 1
  have hd : s.its.drop k = x :: s.its.drop (k + 1) := by
    have := List.drop_eq_getElem_cons hk
    rw [List.getElem?_eq_getElem hk] at h
    injection h with h
    rw [this, h]
  rw [hd, List.set_cons_zero]
  rfl
theorem mid_yes {s : XS} {a : Int} {k : Nat} {x : Im} (h : s.its[k]? = some x) (hb : lostB s.tmo a x = true) : mid s a (k + 1) = (mid s a k).set k { x with st := 3 } := by
  rw [mid_succ h]
  unfold lostU
  rw [if_pos hb]
theorem mid_no {s : XS} {a : Int} {k : Nat} {x : Im} (h : s.its[k]? = some x) (hb : lostB s.tmo a x = false) : mid s a (k + 1) = mid s a k := by
  rw [mid_succ h]
  unfold lostU
  rw [if_neg (by rw [hb]; decide)]
  exact set_same (mid_at h)
def QLosRet (B p : Nat) (s : XS) (a : Int) (w : World) (e : Ending) (w' : World) : Prop :=
  ∃ A2 c2, e = .returned (.slice A2 (losL s a).length c2) ∧ rowL w' w.heap.size 9 1 A2 (losL s a).length c2 ((losL s a).map Value.string) ∧ QRep w' B p (losS s a) ∧ Turn B QT false w w'
section
variable (B p : Nat) (s : XS) (a : Int) (w : World)
theorem qlost_no (h : ¬ okT s a) (hBw : B ≤ w.heap.size) (r : QRep w B p s) : Calls Try.prog 19 #[.pointer (some ⟨p, 0, none⟩), .int .i64 a] w (QLosRet B p s a w) := by
  have HQ := qtime_any B p s w a r
  rw [decide_eq_false h] at HQ
  replace HQ := Lib.hid HQ
  have HR := Lib.hid r
  have HH := Lib.hid h
  clear h r
  go_enter Try.func19, Try.ntmps19
  go_wp2_with (go_at_call 31; refine HQ.out.mono ?_; rintro e w' ⟨rfl, rfl⟩)
  go_ret
  have e1 : losL s a = [] := by unfold losL; rw [if_pos HH.out]
  have e2 : losS s a = s := by unfold losS; rw [if_pos HH.out]
  unfold QLosRet
  rw [e1, e2]
  exact ⟨none, 0, rfl, rowL.nil _ _ _ _, HR.out, Turn.refl _ _ _ _⟩
set_option maxRecDepth 100000 in
set_option maxHeartbeats 3200000 in
theorem qlost_now (o : s.Ok) (hl : s.its.length ≤ 100000) (h : okT s a) (hBw : B ≤ w.heap.size) (r : QRep w B p s) : Calls Try.prog 19 #[.pointer (some ⟨p, 0, none⟩), .int .i64 a] w (QLosRet B p s a w) := by
  have HQ := qtime_any B p s w a r
  rw [decide_eq_true h] at HQ
  replace HQ := Lib.hid HQ
  have HO := Lib.hid o
  have HH := Lib.hid h
  obtain ⟨hB, A, c, B0, hr⟩ := r
  have l1 := B0.lt
  have f1 := B0.frozen
  have c1 := B0.c 1 _ rfl
  have X2 : Blk (w.setCell ⟨p, 1, none⟩ (.int .i64 a)) p 37 #[.int .i64 s.tmo, .int .i64 a, .slice A s.its.length c] := by simpa using B0.set_ 1 (.int .i64 a)
  have HR2 := Lib.hid (hr.far B0 (by decide) 1 (.int .i64 a))
  have T1 := Lib.hid ((Turn.refl B QT false w).setB B0 rfl hB 1 (.int .i64 a))
  have HX2 := Lib.hid X2
  clear B0 hr h o X2
  go_enter Try.func19, Try.ntmps19
  go_wp2_with (go_at_call 31; refine HQ.out.mono ?_; rintro e w' ⟨rfl, rfl⟩)
  generalize w.setCell ⟨p, 1, none⟩ (.int .i64 a) = W1 at HX2 HR2 T1 ⊢
  clear l1 f1 c1
  go_loopw [5, 6] (fun o j wr => ∃ (k : Nat) (A2 : Option Addr) (c2 : Nat), k ≤ s.its.length ∧ j = .int .i64 k ∧ o = .slice A2 (lkp s a k).length c2 ∧ rowL wr w.heap.size 9 1 A2 (lkp s a k).length c2 ((lkp s a k).map Value.string) ∧ QRep wr B p ⟨s.tmo, a, mid s a k⟩ ∧ Turn B QT false w wr) (fun _ j _ => s.its.length - (intOf j).toNat)
  case atStart => exact ⟨0, none, 0, by omega, rfl, rfl, rowL.nil _ _ _ _, ⟨hB, A, c, HX2.out, HR2.out⟩, T1.out⟩
  case round =>
    obtain ⟨k, A2, c2', hk, rfl, rfl, hrow, hrep, hT⟩ := hrel
    have HI := Lib.hid hrow
    have HT := Lib.hid hT
    clear hrow hT HX2 HR2 T1
    obtain ⟨_, A, c, X0, R0⟩ := hrep
    replace X0 : Blk wr p 37 #[.int .i64 s.tmo, .int .i64 a, .slice A (mid s a k).length c] := X0
    replace R0 : rowL wr B 74 5 A (mid s a k).length c ((mid s a k).flatMap imR) := R0
    by_cases hlt : k < s.its.length
    · have hu : s.its[k]? = some s.its[k] := List.getElem?_eq_getElem hlt
      have HXX0 := Lib.hid hu
      have hx : (mid s a k)[k]? = some s.its[k] := mid_at hu
      obtain ⟨g, rfl, hBg, hgl, hcell, _⟩ := item_at R0 hx
      rw [mid_len] at X0 R0
      have hcm := R0.len
      have hll : (lkp s a k).length ≤ 100000 := by
        unfold lkp
        rw [List.length_map]
        have := List.length_filter_le (lostB s.tmo a) (s.its.take k)
        rw [List.length_take] at this
        omega
      have hat := HO.out.at_ _ (List.mem_of_getElem? hu)
      have ht1 := HO.out.t1
      have ht2 := HO.out.t2
      have hn2 := HO.out.n2
      have hRI : ∀ {wx : World}, rowL wx B 74 5 (some ⟨g, 0, none⟩) s.its.length c ((mid s a k).flatMap imR) → rowL wx B 74 5 (some ⟨g, 0, none⟩) (mid s a k).length c ((mid s a k).flatMap imR) := fun h => by rw [mid_len]; exact h
      clear hu
      have c2 := X0.c 2 _ rfl
      have HX := Lib.hid X0
      have HR := Lib.hid R0
      generalize s.its[k] = x at HXX0 hx hcell hat
      have b1 : -9223372036854775808 ≤ x.at_ + s.tmo := by omega
      have b2 : x.at_ + s.tmo ≤ 9223372036854775807 := by omega
      have L0 := fun n : Cls (UpC wr) => (X0.call n.2).c 0 _ rfl
      have L2 := fun n : Cls (UpC wr) => (X0.call n.2).c 2 _ rfl
      have L3 := fun n : Cls (UpC wr) => (Below.cell n.2 (p := ⟨g, k * 5 + 3, none⟩) hgl).trans (hcell 3 _ rfl)
      have L4 := fun n : Cls (UpC wr) => (Below.cell n.2 (p := ⟨g, k * 5 + 4, none⟩) hgl).trans (hcell 4 _ rfl)
      clear X0 R0 hcell hat ht1 ht2 hn2
      by_cases s2 : x.st = 2
      · have HLB : Hid (lostB s.tmo a x = true) := Lib.hid (by unfold lostB; rw [s2]; rfl)
        rw [s2] at L4
        have HS := Lib.hid s2
        clear s2
        go_wp2_with fail
        rename_i K0 hKK
        refine wp_region_reg (UpC wr) 37 rfl (by kernel_rfl) ?_
        have T : UpC wr wr.drew := (Below.refl _ _).drew
        haveI : Nonempty (Cls (UpC wr)) := ⟨⟨_, T⟩⟩
        refine reg_seg (f := 0) (by kernel_rfl) [0, 1, 2, 3, 4, 5, 6, 7, 8, 9, 10, 11, 12, 13, 14, 15, 16, 17, 18, 19, 20, 21, 22, 23, 24, 25, 26, 27, 28, 29, 30, 31, 32, 33, 34, 35, 36] _ _ _ T (by kernel_rfl) ?_
        simp only [pickL, List.filterMap_cons, List.filterMap_nil, List.getElem?_toArray, List.getElem?_cons_zero, List.getElem?_cons_succ]
        show wpQuiet _ _ _ _ (_ :: _ :: _ :: _ :: _ :: _ :: _ :: _ :: _ :: _ :: _ :: _ :: _ :: _ :: _ :: _ :: _ :: _ :: _ :: _ :: _ :: _ :: _ :: _ :: _ :: _ :: _ :: _ :: _ :: _ :: _ :: _ :: _ :: _ :: _ :: _ :: _ :: []) _
        repeat (go_big_quiet_step (fail))
        refine wpQuiet_nil ?_
        refine reg_end (by kernel_rfl) ?_
        refine hKK _ _ ?_
        have TQ := Lib.hid (HT.out.call T hBw)
        have XQ := HX.out.call T
        have RQ := HR.out.call T
        have HIQ := Lib.hid (HI.out.call T)
        clear T L0 L2 L3 L4 c2 HI HT HX HR
        generalize wr.drew = wq at TQ XQ RQ HIQ ⊢
        obtain ⟨_, eA, _, lq, cq, fq⟩ := item_at (hRI RQ) hx
        injection eA with eA
        injection eA with eA
        subst eA
        have zq := Nat.le_trans hBw TQ.out.size
        have zq2 := TQ.out.size
        have q2 := XQ.c 2 _ rfl
        have q4 := cq 4 _ rfl
        rw [HS.out] at q4
        have XQ1 := XQ.setL RQ (by decide) (k * 5 + 4) (.int .i64 3)
        have RQ1 := RQ.set_ (k * 5 + 4) (.int .i64 3)
        rw [setM imR 5 imR5 _ k x { x with st := 3 } 4 (.int .i64 3) hx (by decide) rfl] at RQ1
        have HI1 := Lib.hid (HIQ.out.turn ((Turn.refl B [74] false wq).setL RQ rfl (k * 5 + 4) (.int .i64 3)) rfl)
        have TQ1 := Lib.hid (TQ.out.setL RQ rfl (k * 5 + 4) (.int .i64 3))
        have hx1 : (mid s a k |>.set k { x with st := 3 })[k]? = some { x with st := 3 } := by rw [List.getElem?_set, if_pos rfl, if_pos (by rw [mid_len]; exact hlt)]
        obtain ⟨_, eA, _, lq1, cq1, fq1⟩ := RQ1.cells (by omega)
        injection eA with eA
        injection eA with eA
        subst eA
        have q12 := XQ1.c 2 _ rfl
        have q10 : (wq.setCell ⟨g, k * 5 + 4, none⟩ (.int .i64 3)).cell? ⟨g, k * 5, none⟩ = some (.string x.key) := by
          have := cq1 (k * 5) (.string x.key) (by have := atM imR 5 imR5 _ k _ 0 hx1 (by decide); simpa [imR] using this)
          exact this
        have HXQ1 := Lib.hid XQ1
        have HRQ1 := Lib.hid RQ1
        have HXX := Lib.hid hx
        obtain ⟨yk, hyk⟩ : ∃ yk, x.key = yk := ⟨_, rfl⟩
        rw [hyk] at q10
        have HYK := Lib.hid hyk
        have BX : Hid (Blk ((wq.setCell ⟨g, k * 5 + 4, none⟩ (.int .i64 3)).alloc (.cells #[.string yk] 9)) wq.heap.size 9 #[.string yk]) := Lib.hid (by
          have := Blk.new (wq.setCell ⟨g, k * 5 + 4, none⟩ (.int .i64 3)) 9 #[.string yk]
          simpa using this)
        obtain ⟨L, hL⟩ : ∃ L, lkp s a k = L := ⟨_, rfl⟩
        have HL := Lib.hid hL
        rw [hL] at HI1 hll ⊢
        clear XQ XQ1 RQ RQ1 TQ HIQ hx hx1 cq cq1 hyk hL
        go_wp2_with
          (at_builtin
           go_must (refine wpList_appL strE _ _ rfl rfl (m := 1) (c' := 1) (ys := [Value.string yk]) rfl rfl (HI1.out.alloc (.cells #[.string yk] 9)) (RDn.of_box BX.out) (str_one yk) (by unfold maxLen; omega) (by omega) (by simp; omega) ?_)
           intro A3 c3 w3 hr3 hg3 hor
           have RA := HI1.out.alloc (.cells #[.string yk] 9)
           have X3 := Lib.hid ((HXQ1.out.alloc (.cells #[.string yk] 9)).grownL RA (by decide) hg3)
           have R3 := Lib.hid ((HRQ1.out.alloc (.cells #[.string yk] 9)).grown RA (by decide) hg3)
           have T3 := Lib.hid ((TQ1.out.alloc (.cells #[.string yk] 9) hBw).grownN RA hg3 hBw)
           have I3 := Lib.hid hr3
           clear hr3 hg3 hor RA)
        go_roundw
        case rel =>
          have e1 : lkp s a (k + 1) = L ++ [yk] := by rw [lkp_succ HXX0.out, HLB.out, HL.out, HYK.out]; rfl
          have e2 : mid s a (k + 1) = (mid s a k).set k { x with st := 3 } := mid_yes HXX0.out HLB.out
          refine ⟨k + 1, A3, c3, by omega, by go_num, by rw [e1, List.length_append]; rfl, ?_, ⟨hB, (some ⟨g, 0, none⟩), c, ?_, ?_⟩, T3.out⟩
          · rw [e1, List.length_append, List.map_append]
            exact I3.out
          · show Blk _ p 37 #[.int .i64 s.tmo, .int .i64 a, .slice _ (mid s a (k + 1)).length c]
            rw [mid_len]
            exact X3.out
          · show rowL _ B 74 5 _ (mid s a (k + 1)).length c ((mid s a (k + 1)).flatMap imR)
            rw [mid_len, e2]
            exact R3.out
        case measure => simp [intOf]; omega
      · by_cases s0 : x.st = 0
        · by_cases hle : x.at_ + s.tmo ≤ a
          · have HLB : Hid (lostB s.tmo a x = true) := Lib.hid (by unfold lostB; rw [s0, decide_eq_true hle]; rfl)
            rw [s0] at L4
            have HS := Lib.hid s0
            clear s2 s0
            go_wp2_with fail
            rename_i K0 hKK
            refine wp_region_reg (UpC wr) 37 rfl (by kernel_rfl) ?_
            have T : UpC wr wr.drew := (Below.refl _ _).drew
            haveI : Nonempty (Cls (UpC wr)) := ⟨⟨_, T⟩⟩
            refine reg_seg (f := 0) (by kernel_rfl) [0, 1, 2, 3, 4, 5, 6, 7, 8, 9, 10, 11, 12, 13, 14, 15, 16, 17, 18, 19, 20, 21, 22, 23, 24, 25, 26, 27, 28, 29, 30, 31, 32, 33, 34, 35, 36] _ _ _ T (by kernel_rfl) ?_
            simp only [pickL, List.filterMap_cons, List.filterMap_nil, List.getElem?_toArray, List.getElem?_cons_zero, List.getElem?_cons_succ]
            show wpQuiet _ _ _ _ (_ :: _ :: _ :: _ :: _ :: _ :: _ :: _ :: _ :: _ :: _ :: _ :: _ :: _ :: _ :: _ :: _ :: _ :: _ :: _ :: _ :: _ :: _ :: _ :: _ :: _ :: _ :: _ :: _ :: _ :: _ :: _ :: _ :: _ :: _ :: _ :: _ :: []) _
            repeat (go_big_quiet_step (fail))
            refine wpQuiet_nil ?_
            refine reg_end (by kernel_rfl) ?_
            refine hKK _ _ ?_
            have TQ := Lib.hid (HT.out.call T hBw)
            have XQ := HX.out.call T
            have RQ := HR.out.call T
            have HIQ := Lib.hid (HI.out.call T)
            clear T L0 L2 L3 L4 c2 HI HT HX HR
            generalize wr.drew = wq at TQ XQ RQ HIQ ⊢
            obtain ⟨_, eA, _, lq, cq, fq⟩ := item_at (hRI RQ) hx
            injection eA with eA
            injection eA with eA
            subst eA
            have zq := Nat.le_trans hBw TQ.out.size
            have zq2 := TQ.out.size
            have q2 := XQ.c 2 _ rfl
            have q4 := cq 4 _ rfl
            rw [HS.out] at q4
            have XQ1 := XQ.setL RQ (by decide) (k * 5 + 4) (.int .i64 3)
            have RQ1 := RQ.set_ (k * 5 + 4) (.int .i64 3)
            rw [setM imR 5 imR5 _ k x { x with st := 3 } 4 (.int .i64 3) hx (by decide) rfl] at RQ1
            have HI1 := Lib.hid (HIQ.out.turn ((Turn.refl B [74] false wq).setL RQ rfl (k * 5 + 4) (.int .i64 3)) rfl)
            have TQ1 := Lib.hid (TQ.out.setL RQ rfl (k * 5 + 4) (.int .i64 3))
            have hx1 : (mid s a k |>.set k { x with st := 3 })[k]? = some { x with st := 3 } := by rw [List.getElem?_set, if_pos rfl, if_pos (by rw [mid_len]; exact hlt)]
            obtain ⟨_, eA, _, lq1, cq1, fq1⟩ := RQ1.cells (by omega)
            injection eA with eA
            injection eA with eA
            subst eA
            have q12 := XQ1.c 2 _ rfl
            have q10 : (wq.setCell ⟨g, k * 5 + 4, none⟩ (.int .i64 3)).cell? ⟨g, k * 5, none⟩ = some (.string x.key) := by
              have := cq1 (k * 5) (.string x.key) (by have := atM imR 5 imR5 _ k _ 0 hx1 (by decide); simpa [imR] using this)
              exact this
            have HXQ1 := Lib.hid XQ1
            have HRQ1 := Lib.hid RQ1
            have HXX := Lib.hid hx
            obtain ⟨yk, hyk⟩ : ∃ yk, x.key = yk := ⟨_, rfl⟩
            rw [hyk] at q10
            have HYK := Lib.hid hyk
            have BX : Hid (Blk ((wq.setCell ⟨g, k * 5 + 4, none⟩ (.int .i64 3)).alloc (.cells #[.string yk] 9)) wq.heap.size 9 #[.string yk]) := Lib.hid (by
              have := Blk.new (wq.setCell ⟨g, k * 5 + 4, none⟩ (.int .i64 3)) 9 #[.string yk]
              simpa using this)
            obtain ⟨L, hL⟩ : ∃ L, lkp s a k = L := ⟨_, rfl⟩
            have HL := Lib.hid hL
            rw [hL] at HI1 hll ⊢
            clear XQ XQ1 RQ RQ1 TQ HIQ hx hx1 cq cq1 hyk hL
            go_wp2_with
              (at_builtin
               go_must (refine wpList_appL strE _ _ rfl rfl (m := 1) (c' := 1) (ys := [Value.string yk]) rfl rfl (HI1.out.alloc (.cells #[.string yk] 9)) (RDn.of_box BX.out) (str_one yk) (by unfold maxLen; omega) (by omega) (by simp; omega) ?_)
               intro A3 c3 w3 hr3 hg3 hor
               have RA := HI1.out.alloc (.cells #[.string yk] 9)
               have X3 := Lib.hid ((HXQ1.out.alloc (.cells #[.string yk] 9)).grownL RA (by decide) hg3)
               have R3 := Lib.hid ((HRQ1.out.alloc (.cells #[.string yk] 9)).grown RA (by decide) hg3)
               have T3 := Lib.hid ((TQ1.out.alloc (.cells #[.string yk] 9) hBw).grownN RA hg3 hBw)
               have I3 := Lib.hid hr3
               clear hr3 hg3 hor RA)
            go_roundw
            case rel =>
              have e1 : lkp s a (k + 1) = L ++ [yk] := by rw [lkp_succ HXX0.out, HLB.out, HL.out, HYK.out]; rfl
              have e2 : mid s a (k + 1) = (mid s a k).set k { x with st := 3 } := mid_yes HXX0.out HLB.out
              refine ⟨k + 1, A3, c3, by omega, by go_num, by rw [e1, List.length_append]; rfl, ?_, ⟨hB, (some ⟨g, 0, none⟩), c, ?_, ?_⟩, T3.out⟩
              · rw [e1, List.length_append, List.map_append]
                exact I3.out
              · show Blk _ p 37 #[.int .i64 s.tmo, .int .i64 a, .slice _ (mid s a (k + 1)).length c]
                rw [mid_len]
                exact X3.out
              · show rowL _ B 74 5 _ (mid s a (k + 1)).length c ((mid s a (k + 1)).flatMap imR)
                rw [mid_len, e2]
                exact R3.out
            case measure => simp [intOf]; omega
          · have HLB : Hid (lostB s.tmo a x = false) := Lib.hid (by unfold lostB; rw [s0, decide_eq_false hle]; rfl)
            rw [s0] at L4
            clear s2 s0
            go_wp2_with fail
            rename_i K0 hKK
            refine wp_region_reg (UpC wr) 37 rfl (by kernel_rfl) ?_
            have T : UpC wr wr.drew := (Below.refl _ _).drew
            haveI : Nonempty (Cls (UpC wr)) := ⟨⟨_, T⟩⟩
            refine reg_seg (f := 0) (by kernel_rfl) [0, 1, 2, 3, 4, 5, 6, 7, 8, 9, 10, 11, 12, 13, 14, 15, 16, 17, 18, 19, 20, 21, 22, 23, 24, 25, 26, 27, 28, 29, 30, 31, 32, 33, 34, 35, 36] _ _ _ T (by kernel_rfl) ?_
            simp only [pickL, List.filterMap_cons, List.filterMap_nil, List.getElem?_toArray, List.getElem?_cons_zero, List.getElem?_cons_succ]
            show wpQuiet _ _ _ _ (_ :: _ :: _ :: _ :: _ :: _ :: _ :: _ :: _ :: _ :: _ :: _ :: _ :: _ :: _ :: _ :: _ :: _ :: _ :: _ :: _ :: _ :: _ :: _ :: _ :: _ :: _ :: _ :: _ :: _ :: _ :: _ :: _ :: _ :: _ :: _ :: _ :: []) _
            repeat (go_big_quiet_step (fail))
            refine wpQuiet_nil ?_
            refine reg_end (by kernel_rfl) ?_
            refine hKK _ _ ?_
            have TQ := Lib.hid (HT.out.call T hBw)
            have XQ := HX.out.call T
            have RQ := HR.out.call T
            have HIQ := Lib.hid (HI.out.call T)
            clear T L0 L2 L3 L4 c2 HI HT HX HR
            generalize wr.drew = wq at TQ XQ RQ HIQ ⊢
            have HXQ := Lib.hid XQ
            have HRQ := Lib.hid RQ
            clear XQ RQ
            go_wp2_with fail
            go_roundw
            case rel =>
              have e1 : lkp s a (k + 1) = lkp s a k := by rw [lkp_succ HXX0.out, HLB.out]; simp
              have e2 : mid s a (k + 1) = mid s a k := mid_no HXX0.out HLB.out
              refine ⟨k + 1, A2, c2', by omega, by go_num, by rw [e1], by rw [e1]; exact HIQ.out, ⟨hB, (some ⟨g, 0, none⟩), c, ?_, ?_⟩, TQ.out⟩
              · show Blk _ p 37 #[.int .i64 s.tmo, .int .i64 a, .slice _ (mid s a (k + 1)).length c]
                rw [mid_len]
                exact HXQ.out
              · show rowL _ B 74 5 _ (mid s a (k + 1)).length c ((mid s a (k + 1)).flatMap imR)
                rw [mid_len, e2]
                exact HRQ.out
            case measure => simp [intOf]; omega
        · have HLB : Hid (lostB s.tmo a x = false) := Lib.hid (by unfold lostB; rw [Bool.or_eq_false_iff]; exact ⟨by rw [beq_eq_false_iff_ne]; exact s2, by rw [Bool.and_eq_false_iff]; exact .inl (by rw [beq_eq_false_iff_ne]; exact s0)⟩)
          obtain ⟨v, hv⟩ : ∃ v : Int, (x.st : Int) = v := ⟨_, rfl⟩
          have n0 : (v == 0) = false := by rw [beq_eq_false_iff_ne]; omega
          have n1 : (v == 2) = false := by rw [beq_eq_false_iff_ne]; omega
          rw [hv] at L4
          clear s2 s0 hv
          go_wp2_with fail
          rename_i K0 hKK
          refine wp_region_reg (UpC wr) 37 rfl (by kernel_rfl) ?_
          have T : UpC wr wr.drew := (Below.refl _ _).drew
          haveI : Nonempty (Cls (UpC wr)) := ⟨⟨_, T⟩⟩
          refine reg_seg (f := 0) (by kernel_rfl) [0, 1, 2, 3, 4, 5, 6, 7, 8, 9, 10, 11, 12, 13, 14, 15, 16, 17, 18, 19, 20, 21, 22, 23, 24, 25, 26, 27, 28, 29, 30, 31, 32, 33, 34, 35, 36] _ _ _ T (by kernel_rfl) ?_
          simp only [pickL, List.filterMap_cons, List.filterMap_nil, List.getElem?_toArray, List.getElem?_cons_zero, List.getElem?_cons_succ]
          show wpQuiet _ _ _ _ (_ :: _ :: _ :: _ :: _ :: _ :: _ :: _ :: _ :: _ :: _ :: _ :: _ :: _ :: _ :: _ :: _ :: _ :: _ :: _ :: _ :: _ :: _ :: _ :: _ :: _ :: _ :: _ :: _ :: _ :: _ :: _ :: _ :: _ :: _ :: _ :: _ :: []) _
          repeat (go_big_quiet_step (fail))
          refine wpQuiet_nil ?_
          refine reg_end (by kernel_rfl) ?_
          refine hKK _ _ ?_
          have TQ := Lib.hid (HT.out.call T hBw)
          have XQ := HX.out.call T
          have RQ := HR.out.call T
          have HIQ := Lib.hid (HI.out.call T)
          clear T L0 L2 L3 L4 c2 HI HT HX HR
          generalize wr.drew = wq at TQ XQ RQ HIQ ⊢
          have HXQ := Lib.hid XQ
          have HRQ := Lib.hid RQ
          clear XQ RQ
          go_wp2_with fail
          go_roundw
          case rel =>
            have e1 : lkp s a (k + 1) = lkp s a k := by rw [lkp_succ HXX0.out, HLB.out]; simp
            have e2 : mid s a (k + 1) = mid s a k := mid_no HXX0.out HLB.out
            refine ⟨k + 1, A2, c2', by omega, by go_num, by rw [e1], by rw [e1]; exact HIQ.out, ⟨hB, (some ⟨g, 0, none⟩), c, ?_, ?_⟩, TQ.out⟩
            · show Blk _ p 37 #[.int .i64 s.tmo, .int .i64 a, .slice _ (mid s a (k + 1)).length c]
              rw [mid_len]
              exact HXQ.out
            · show rowL _ B 74 5 _ (mid s a (k + 1)).length c ((mid s a (k + 1)).flatMap imR)
              rw [mid_len, e2]
              exact HRQ.out
          case measure => simp [intOf]; omega
    · have hkl : k = s.its.length := by omega
      have e1 : lkp s a k = losL s a := by unfold lkp losL; rw [if_neg (not_not_intro HH.out), hkl, List.take_length]
      have e2 : (⟨s.tmo, a, mid s a k⟩ : XS) = losS s a := by unfold mid losS; rw [if_neg (not_not_intro HH.out), hkl, List.take_length, List.drop_length, List.append_nil]
      have HRR : Hid (QRep wr B p (losS s a)) := Lib.hid (by rw [← e2]; exact ⟨hB, A, c, X0, R0⟩)
      rw [e1] at HI ⊢
      rw [mid_len] at X0
      have c2 := X0.c 2 _ rfl
      clear e1 e2 X0 R0 hkl
      go_wp2_with fail
      go_ret
      exact ⟨A2, c2', rfl, HI.out, HRR.out, HT.out⟩
theorem qlost_any (o : s.Ok) (hl : s.its.length ≤ 100000) (hBw : B ≤ w.heap.size) (r : QRep w B p s) : Calls Try.prog 19 #[.pointer (some ⟨p, 0, none⟩), .int .i64 a] w (QLosRet B p s a w) := by
  by_cases h : okT s a
  · exact qlost_now B p s a w o hl h hBw r
  · exact qlost_no B p s a w h hBw r
end
end Go.Proofs.Ytgacpkbpbckgiaa
