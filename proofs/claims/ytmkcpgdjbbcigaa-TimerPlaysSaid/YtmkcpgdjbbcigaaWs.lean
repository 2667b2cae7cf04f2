/-
  Timer: walk over the chapter's put. Condition: the state is one that the calls make.
-/
import Derived.Test.YtmkcpgdjbbcigaaWr
namespace Go.Proofs.Ytmkcpgdjbbcigaa
open Go.RowKit
set_option linter.unusedVariables false

/-- Where the chapter puts a timer: before the first that is later. -/
def insR (x : Ti) (l : List Ti) : List Ti := l.take (dueN x.at_ l) ++ x :: l.drop (dueN x.at_ l)
theorem dueN_from {u : Int} {l : List Ti} : ∀ k, k ≤ dueN u l → dueN u l = k + dueN u (l.drop k)
  | 0, _ => by simp
  | k + 1, h => by
    have h1 := dueN_from (u := u) (l := l) k (by omega)
    have hk : k < l.length := by have := dueN_le u l; omega
    have h2 := dueN_cut (u := u) (List.getElem?_eq_getElem hk)
    rw [h2] at h1
    split at h1 <;> omega
theorem dueN_here {u : Int} {l : List Ti} {k : Nat} {y : Ti} (h : k ≤ dueN u l) (hy : l[k]? = some y) (hlt : u < y.at_) : dueN u l = k := by
  have h1 := dueN_from k h
  rw [dueN_cut hy, if_pos hlt] at h1
  exact h1
theorem dueN_on {u : Int} {l : List Ti} {k : Nat} {y : Ti} (h : k ≤ dueN u l) (hy : l[k]? = some y) (hlt : ¬ u < y.at_) : k + 1 ≤ dueN u l := by
  have h1 := dueN_from k h
  rw [dueN_cut hy, if_neg hlt] at h1
  omega
def midR (x : Ti) (l : List Ti) (k : Nat) : List Ti := l.take (dueN x.at_ l) ++ x :: (l.drop (dueN x.at_ l)).take (k - dueN x.at_ l)
theorem midR_succ {x y : Ti} {l : List Ti} {k : Nat} (h : dueN x.at_ l ≤ k) (hy : l[k]? = some y) : midR x l (k + 1) = midR x l k ++ [y] := by
  unfold midR
  have e : k + 1 - dueN x.at_ l = (k - dueN x.at_ l) + 1 := by omega
  rw [e, List.take_add_one, List.getElem?_drop, show dueN x.at_ l + (k - dueN x.at_ l) = k by omega, hy]
  simp
theorem midR_base {x : Ti} {l : List Ti} {k : Nat} (h : dueN x.at_ l = k) : midR x l k = l.take k ++ [x] := by
  unfold midR
  rw [h]
  simp
theorem midR_end {x : Ti} {l : List Ti} : midR x l l.length = insR x l := by
  unfold midR insR
  rw [List.take_of_length_le (l := l.drop (dueN x.at_ l)) (by rw [List.length_drop]; omega)]
theorem flat_snoc (l : List Ti) (x : Ti) : (l ++ [x]).flatMap tiC = l.flatMap tiC ++ tiC x := by
  rw [List.flatMap_append]
  simp

def RPutRet (B p : Nat) (s : TS) (x : Ti) (w : World) (e : Ending) (w' : World) : Prop :=
  e = .returned (.tuple #[]) ∧ RRep w' B p { s with ts := insR x s.ts } ∧ Turn B [55] false w w'
set_option maxRecDepth 100000 in
set_option maxHeartbeats 3200000 in
theorem rput_any (B p : Nat) (s : TS) (x : Ti) (hl : s.ts.length < 1000) (w : World) (hBw : B ≤ w.heap.size) (r : RRep w B p s) :
    Calls Try.prog 37 #[.pointer (some ⟨p, 0, none⟩), .agg #[.string x.id, .int .i64 x.at_]] w (RPutRet B p s x w) := by
  obtain ⟨hB, A, c, B0, hr⟩ := r
  have hlen := hr.len
  have BX := Blk.new w 65 #[.string x.id, .int .i64 x.at_]
  obtain ⟨V, hV⟩ : ∃ V, w.heap.size = V := ⟨_, rfl⟩
  have B1 := B0.alloc (.cells #[.string x.id, .int .i64 x.at_] 65)
  have R1 := Lib.hid (hr.alloc (.cells #[.string x.id, .int .i64 x.at_] 65))
  have HB1 := Lib.hid B1
  have HBX := Lib.hid BX
  have c1 := B1.c0
  have b1 := Lib.hid (((Below.refl w.heap.size w).alloc (Nat.le_refl _) (.cells #[.string x.id, .int .i64 x.at_] 65)))
  have HBw := Lib.hid hBw
  clear hr B1 BX
  go_enter Try.func37, Try.ntmps37
  go_wp2_with fail
  obtain ⟨W1, hW1⟩ : ∃ W1, w.alloc (.cells #[.string x.id, .int .i64 x.at_] 65) = W1 := ⟨_, rfl⟩
  rw [hW1] at R1 HB1 HBX c1 b1 ⊢
  rw [hV] at HBX
  have zz : B ≤ W1.heap.size := Nat.le_trans HBw.out b1.out.size
  have HV := Lib.hid hV
  clear hW1 hV
  go_loopw [4, 5, 6] (fun o q i wr => ∃ (k : Nat) (L : List Ti) (A2 : Option Addr) (c2 : Nat) (d : Bool), k ≤ s.ts.length ∧ i = .int .i64 k ∧ o = .slice A2 L.length c2 ∧ q = .bool d ∧ rowL wr W1.heap.size 65 2 A2 L.length c2 (L.flatMap tiC) ∧ Below W1.heap.size W1 wr ∧ L.length ≤ k + 1 ∧
      ((d = false ∧ k ≤ dueN x.at_ s.ts ∧ L = s.ts.take k) ∨ (d = true ∧ dueN x.at_ s.ts < k ∧ L = midR x s.ts k))) (fun _ _ i _ => s.ts.length - (intOf i).toNat)
  case atStart => exact ⟨0, [], none, 0, false, by omega, rfl, rfl, rfl, rowL.nil _ _ _ _, Below.refl _ _, by simp, .inl ⟨rfl, by omega, by simp⟩⟩
  case round =>
    obtain ⟨k, L, A2, C2, d, hk, rfl, rfl, rfl, hrow, hb, hL, hd⟩ := hrel
    have HI := Lib.hid hrow
    have HB := Lib.hid hb
    have zb := hb.size
    clear hrow hb
    by_cases hlt : k < s.ts.length
    · obtain ⟨g, rfl, _, _, _, _⟩ := R1.out.cells (by omega)
      have hu : s.ts[k]? = some s.ts[k] := List.getElem?_eq_getElem hlt
      have HC : Hid (∀ wx, Below W1.heap.size W1 wx → wx.cell? ⟨g, k * 2, none⟩ = some (.string s.ts[k].id) ∧ wx.cell? ⟨g, k * 2 + 1, none⟩ = some (.int .i64 s.ts[k].at_) ∧ wx.cell? ⟨p, 0, none⟩ = some (.slice (some ⟨g, 0, none⟩) s.ts.length c) ∧ wx.cell? ⟨V, 0, none⟩ = some (.string x.id) ∧ wx.cell? ⟨V, 1, none⟩ = some (.int .i64 x.at_)) := Lib.hid (fun wx hx => by
        obtain ⟨g', e, _, _, hc, _⟩ := (R1.out.call hx).cells (by omega)
        injection e with e
        injection e with e
        subst e
        exact ⟨hc (k * 2) _ (by have := atM tiC 2 tiC2 s.ts k _ 0 hu (by decide); simpa [tiC] using this), hc (k * 2 + 1) _ (by rw [atM tiC 2 tiC2 s.ts k _ 1 hu (by decide)]; rfl), (HB1.out.call hx).c0, (HBX.out.call hx).c0, (HBX.out.call hx).c1⟩)
      have HU := Lib.hid hu
      clear hu
      generalize s.ts[k] = y at HC HU
      have HCr : Hid (∀ n : Cls (UpC wr), n.val.cell? ⟨g, k * 2, none⟩ = some (.string y.id) ∧ n.val.cell? ⟨g, k * 2 + 1, none⟩ = some (.int .i64 y.at_) ∧ n.val.cell? ⟨p, 0, none⟩ = some (.slice (some ⟨g, 0, none⟩) s.ts.length c) ∧ n.val.cell? ⟨V, 0, none⟩ = some (.string x.id) ∧ n.val.cell? ⟨V, 1, none⟩ = some (.int .i64 x.at_)) := Lib.hid (fun n => HC.out _ (HB.out.trans (Below.mono n.2 zb)))
      have q2 : (k : Int) < s.ts.length := by omega
      rcases hd with ⟨rfl, hd2, hL0⟩ | ⟨rfl, hd2, hL0⟩
      · have hL2 := Lib.hid hL0
        clear hL0
        by_cases hlt2 : x.at_ < y.at_
        · have HN : Hid (dueN x.at_ s.ts = k) := Lib.hid (dueN_here hd2 HU.out hlt2)
          have cp := (HC.out wr HB.out).2.2.1
          have e0 := fun n => (HCr.out n).1
          have e1 := fun n => (HCr.out n).2.1
          have e2 := fun n => (HCr.out n).2.2.1
          have e3 := fun n => (HCr.out n).2.2.2.1
          have e4 := fun n => (HCr.out n).2.2.2.2
          go_wp2_with fail
          rename_i K0 hKK
          refine wp_region_reg (UpC wr) 15 rfl (by kernel_rfl) ?_
          have T : UpC wr wr.drew := (Below.refl _ _).drew
          haveI : Nonempty (Cls (UpC wr)) := ⟨⟨_, T⟩⟩
          refine reg_seg (f := 0) (by kernel_rfl) [0, 1, 2, 3, 4, 5, 6, 7, 8, 9, 10, 11, 12, 13, 14] _ _ _ T (by kernel_rfl) ?_
          simp only [pickL, List.filterMap_cons, List.filterMap_nil, List.getElem?_toArray, List.getElem?_cons_zero, List.getElem?_cons_succ]
          show wpQuiet _ _ _ _ [_, _, _, _, _, _, _, _, _, _, _, _, _, _, _] _
          repeat (go_big_quiet_step (fail))
          refine wpQuiet_nil ?_
          clear e0 e1 e2 e3 e4 HCr cp
          refine reg_end (by kernel_rfl) ?_
          refine hKK _ _ ?_
          have HBq : Hid (Below W1.heap.size W1 wr.drew) := Lib.hid (HB.out.drew)
          have HIq := Lib.hid (show rowL wr.drew W1.heap.size 65 2 A2 _ C2 _ from HI.out)
          clear T HI HB zb
          have zb := HBq.out.size
          generalize wr.drew = wq at HBq HIq zb ⊢
          have HX := HC.out wq HBq.out
          obtain ⟨x0, x1, x2, x3, x4⟩ := HX
          go_wp2_with (first
            | (at_builtin
               have hin := HIq
               go_must (refine wpList_appL entR _ _ rfl rfl (m := 1) (c' := 1) (ys := tiC x) rfl rfl (HIq.out.alloc (.cells #[.string x.id, .int .i64 x.at_] 65)) (RDn.of_box (Blk.new wq 65 #[.string x.id, .int .i64 x.at_])) (tiC_one x) (by unfold maxLen; omega) (by omega) (by simp; omega) ?_)
               intro A3 c3 w3 hr3 hg3 hor
               have I3 := Lib.hid hr3
               have b3 := Lib.hid (below_grownL (HBq.out.alloc zb (.cells #[.string x.id, .int .i64 x.at_] 65)) (HIq.out.alloc (.cells #[.string x.id, .int .i64 x.at_] 65)) (Nat.le_refl _) (by simp; omega) hg3)
               have zb := b3.out.size
               have HX := HC.out w3 b3.out
               obtain ⟨y0, y1, y2, y3, y4⟩ := HX
               clear hr3 hg3 hor hin HIq x0 x1 x2 x3 x4)
            | (at_builtin
               have hin := I3
               go_must (refine wpList_appL entR _ _ rfl rfl (m := 1) (c' := 1) (ys := tiC y) rfl rfl (I3.out.alloc (.cells #[.string y.id, .int .i64 y.at_] 65)) (RDn.of_box (Blk.new w3 65 #[.string y.id, .int .i64 y.at_])) (tiC_one y) (by unfold maxLen; omega) (by omega) (by simp; omega) ?_)
               intro A4 c4 w4 hr4 hg4 hor
               have I4 := Lib.hid hr4
               have b4 := Lib.hid (below_grownL (b3.out.alloc zb (.cells #[.string y.id, .int .i64 y.at_] 65)) (I3.out.alloc (.cells #[.string y.id, .int .i64 y.at_] 65)) (Nat.le_refl _) (by simp; omega) hg4)
               have zb := b4.out.size
               clear hr4 hg4 hor hin I3))
          go_roundw
          case rel =>
            refine ⟨k + 1, midR x s.ts (k + 1), A4, c4, true, by omega, by go_num, ?_, rfl, ?_, b4.out, ?_, .inr ⟨rfl, by rw [HN.out]; omega, rfl⟩⟩
            · rw [midR_succ (Nat.le_of_eq HN.out) HU.out, midR_base HN.out, ← hL2.out]
              simp
            · rw [midR_succ (Nat.le_of_eq HN.out) HU.out, midR_base HN.out, ← hL2, flat_snoc, flat_snoc]
              simpa using I4.out
            · have hLk : L.length = k := by rw [hL2.out, List.length_take]; omega
              rw [midR_succ (Nat.le_of_eq HN.out) HU.out, midR_base HN.out, ← hL2.out]
              simp
              omega
          case measure => simp [intOf]; omega
        · have hx : y.at_ ≤ x.at_ := by omega
          have HN : Hid (k + 1 ≤ dueN x.at_ s.ts) := Lib.hid (dueN_on hd2 HU.out hlt2)
          have cp := (HC.out wr HB.out).2.2.1
          have e0 := fun n => (HCr.out n).1
          have e1 := fun n => (HCr.out n).2.1
          have e2 := fun n => (HCr.out n).2.2.1
          have e3 := fun n => (HCr.out n).2.2.2.1
          have e4 := fun n => (HCr.out n).2.2.2.2
          go_wp2_with fail
          rename_i K0 hKK
          refine wp_region_reg (UpC wr) 15 rfl (by kernel_rfl) ?_
          have T : UpC wr wr.drew := (Below.refl _ _).drew
          haveI : Nonempty (Cls (UpC wr)) := ⟨⟨_, T⟩⟩
          refine reg_seg (f := 0) (by kernel_rfl) [0, 1, 2, 3, 4, 5, 6, 7, 8, 9, 10, 11, 12, 13, 14] _ _ _ T (by kernel_rfl) ?_
          simp only [pickL, List.filterMap_cons, List.filterMap_nil, List.getElem?_toArray, List.getElem?_cons_zero, List.getElem?_cons_succ]
          show wpQuiet _ _ _ _ [_, _, _, _, _, _, _, _, _, _, _, _, _, _, _] _
          repeat (go_big_quiet_step (fail))
          refine wpQuiet_nil ?_
          clear e0 e1 e2 e3 e4 HCr cp
          refine reg_end (by kernel_rfl) ?_
          refine hKK _ _ ?_
          have HBq : Hid (Below W1.heap.size W1 wr.drew) := Lib.hid (HB.out.drew)
          have HIq := Lib.hid (show rowL wr.drew W1.heap.size 65 2 A2 _ C2 _ from HI.out)
          clear T HI HB zb
          have zb := HBq.out.size
          generalize wr.drew = wq at HBq HIq zb ⊢
          have HX := HC.out wq HBq.out
          obtain ⟨x0, x1, x2, x3, x4⟩ := HX
          go_wp2_with
            (at_builtin
             have hin := HIq
             go_must (refine wpList_appL entR _ _ rfl rfl (m := 1) (c' := 1) (ys := tiC y) rfl rfl (HIq.out.alloc (.cells #[.string y.id, .int .i64 y.at_] 65)) (RDn.of_box (Blk.new wq 65 #[.string y.id, .int .i64 y.at_])) (tiC_one y) (by unfold maxLen; omega) (by omega) (by simp; omega) ?_)
             intro A3 c3 w3 hr3 hg3 hor
             have I3 := Lib.hid hr3
             have b3 := Lib.hid (below_grownL (HBq.out.alloc zb (.cells #[.string y.id, .int .i64 y.at_] 65)) (HIq.out.alloc (.cells #[.string y.id, .int .i64 y.at_] 65)) (Nat.le_refl _) (by simp; omega) hg3)
             have zb := b3.out.size
             clear hr3 hg3 hor hin HIq)
          go_roundw
          case rel =>
            refine ⟨k + 1, L ++ [y], A3, c3, false, by omega, by go_num, by simp, rfl, by rw [flat_snoc]; simpa using I3.out, b3.out, by simp; omega, .inl ⟨rfl, HN.out, ?_⟩⟩
            rw [hL2.out, List.take_add_one, HU.out]
            rfl
          case measure => simp [intOf]; omega
      · have hL2 := Lib.hid hL0
        clear hL0
        have cp := (HC.out wr HB.out).2.2.1
        have e0 := fun n => (HCr.out n).1
        have e1 := fun n => (HCr.out n).2.1
        have e2 := fun n => (HCr.out n).2.2.1
        have e3 := fun n => (HCr.out n).2.2.2.1
        have e4 := fun n => (HCr.out n).2.2.2.2
        go_wp2_with fail
        rename_i K0 hKK
        refine wp_region_reg (UpC wr) 15 rfl (by kernel_rfl) ?_
        have T : UpC wr wr.drew := (Below.refl _ _).drew
        haveI : Nonempty (Cls (UpC wr)) := ⟨⟨_, T⟩⟩
        refine reg_seg (f := 0) (by kernel_rfl) [0, 1, 2, 3, 4, 5, 6, 7, 8, 9, 10, 11, 12, 13, 14] _ _ _ T (by kernel_rfl) ?_
        simp only [pickL, List.filterMap_cons, List.filterMap_nil, List.getElem?_toArray, List.getElem?_cons_zero, List.getElem?_cons_succ]
        show wpQuiet _ _ _ _ [_, _, _, _, _, _, _, _, _, _, _, _, _, _, _] _
        repeat (go_big_quiet_step (fail))
        refine wpQuiet_nil ?_
        clear e0 e1 e2 e3 e4 HCr cp
        refine reg_end (by kernel_rfl) ?_
        refine hKK _ _ ?_
        have HBq : Hid (Below W1.heap.size W1 wr.drew) := Lib.hid (HB.out.drew)
        have HIq := Lib.hid (show rowL wr.drew W1.heap.size 65 2 A2 _ C2 _ from HI.out)
        clear T HI HB zb
        have zb := HBq.out.size
        generalize wr.drew = wq at HBq HIq zb ⊢
        have HX := HC.out wq HBq.out
        obtain ⟨x0, x1, x2, x3, x4⟩ := HX
        go_wp2_with
          (at_builtin
           have hin := HIq
           go_must (refine wpList_appL entR _ _ rfl rfl (m := 1) (c' := 1) (ys := tiC y) rfl rfl (HIq.out.alloc (.cells #[.string y.id, .int .i64 y.at_] 65)) (RDn.of_box (Blk.new wq 65 #[.string y.id, .int .i64 y.at_])) (tiC_one y) (by unfold maxLen; omega) (by omega) (by simp; omega) ?_)
           intro A3 c3 w3 hr3 hg3 hor
           have I3 := Lib.hid hr3
           have b3 := Lib.hid (below_grownL (HBq.out.alloc zb (.cells #[.string y.id, .int .i64 y.at_] 65)) (HIq.out.alloc (.cells #[.string y.id, .int .i64 y.at_] 65)) (Nat.le_refl _) (by simp; omega) hg3)
           have zb := b3.out.size
           clear hr3 hg3 hor hin HIq)
        go_roundw
        case rel =>
          refine ⟨k + 1, L ++ [y], A3, c3, true, by omega, by go_num, by simp, rfl, by rw [flat_snoc]; simpa using I3.out, b3.out, by simp; omega, .inr ⟨rfl, by omega, ?_⟩⟩
          rw [hL2.out, midR_succ (by omega) HU.out]
        case measure => simp [intOf]; omega
    · have hkl : k = s.ts.length := by omega
      obtain ⟨x0, x1⟩ : wr.cell? ⟨V, 0, none⟩ = some (.string x.id) ∧ wr.cell? ⟨V, 1, none⟩ = some (.int .i64 x.at_) := ⟨(HBX.out.call HB.out).c0, (HBX.out.call HB.out).c1⟩
      have cp := (HB1.out.call HB.out).c0
      rcases hd with ⟨rfl, hd2, hL0⟩ | ⟨rfl, hd2, hL0⟩
      · have hN := dueN_le x.at_ s.ts
        have hE : Hid (L ++ [x] = insR x s.ts) := Lib.hid (by rw [hL0, ← midR_base (x := x) (by omega), hkl, midR_end])
        clear hL0
        go_wp2_with
          (at_builtin
           have hin := HI
           go_must (refine wpList_appL entR _ _ rfl rfl (m := 1) (c' := 1) (ys := tiC x) rfl rfl (HI.out.alloc (.cells #[.string x.id, .int .i64 x.at_] 65)) (RDn.of_box (Blk.new wr 65 #[.string x.id, .int .i64 x.at_])) (tiC_one x) (by unfold maxLen; omega) (by omega) (by simp; omega) ?_)
           intro A3 c3 w3 hr3 hg3 hor
           have I3 := Lib.hid hr3
           have b3 := Lib.hid (below_grownL (HB.out.alloc zb (.cells #[.string x.id, .int .i64 x.at_] 65)) (HI.out.alloc (.cells #[.string x.id, .int .i64 x.at_] 65)) (Nat.le_refl _) (by simp; omega) hg3)
           have zb := b3.out.size
           have B3 := HB1.out.call b3.out
           have d3 := B3.c0
           have l3 := B3.lt
           have f3 := B3.frozen
           clear hr3 hg3 hor hin HI)
        go_end0
        refine ⟨rfl, ⟨hB, A3, c3, ?_, ?_⟩, (((Turn.of_below b1.out HBw.out).call b3.out HBw.out)).setB B3 rfl hB 0 _⟩
        · show Blk _ p 55 #[.slice A3 (insR x s.ts).length c3, .int .i64 s.now]
          rw [← hE.out]
          simpa using B3.s0 (.slice A3 (L.length + 1) c3)
        · show rowL _ B 65 2 A3 (insR x s.ts).length c3 ((insR x s.ts).flatMap tiC)
          rw [← hE.out, flat_snoc]
          have := (I3.out.mono zz).far B3 (by decide) 0 (.slice A3 (L.length + 1) c3)
          simpa using this
      · have hE : Hid (L = insR x s.ts) := Lib.hid (by rw [hL0, hkl, midR_end])
        clear hL0
        have B3 := HB1.out.call HB.out
        have l3 := B3.lt
        have f3 := B3.frozen
        go_wp2_with fail
        go_end0
        refine ⟨rfl, ⟨hB, A2, C2, ?_, ?_⟩, (((Turn.of_below b1.out HBw.out).call HB.out HBw.out)).setB B3 rfl hB 0 _⟩
        · show Blk _ p 55 #[.slice A2 (insR x s.ts).length C2, .int .i64 s.now]
          rw [← hE.out]
          exact B3.s0 (.slice A2 L.length C2)
        · show rowL _ B 65 2 A2 (insR x s.ts).length C2 ((insR x s.ts).flatMap tiC)
          rw [← hE.out]
          exact (HI.out.mono zz).far B3 (by decide) 0 (.slice A2 L.length C2)
end Go.Proofs.Ytmkcpgdjbbcigaa
