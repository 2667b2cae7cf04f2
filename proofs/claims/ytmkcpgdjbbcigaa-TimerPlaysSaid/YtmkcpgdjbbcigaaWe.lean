/-
  Timer: walk over insert. Condition: the state is one that the calls make.
-/
import Derived.Test.YtmkcpgdjbbcigaaWd
namespace Go.Proofs.Ytmkcpgdjbbcigaa
open Go.RowKit
set_option linter.unusedVariables false

/-- slices.Insert, wherever. -/
theorem insert_any (B : Nat) (A : Option Addr) (c i : Nat) (x : Ti) (l : List Ti) (hi : i ≤ l.length) (hl : l.length < 1000) (v : Nat) (w : World) (hBw : B ≤ w.heap.size) (hr : rowL w B 61 2 A l.length c (l.flatMap tiC)) (hv : Blk w v 61 #[.string x.id, .int .i64 x.at_]) (hvA : blkOf A ≠ some v) :
    Calls Try.prog 42 #[.slice A l.length c, .int .i64 i, .slice (some ⟨v, 0, none⟩) 1 1] w (InsRet B A i x l w) := by
  by_cases h : i = l.length
  · subst h
    exact insert_end B A c x l hl v w hBw hr hv
  · have hi' : i < l.length := by omega
    obtain ⟨g, rfl, _, _, _, _⟩ := hr.cells (by omega)
    by_cases hroom : l.length + 1 ≤ c
    · exact insert_room B g c i x l hi' hl hroom v (fun e => hvA (by rw [e]; rfl)) w hBw hr hv
    · exact insert_grow B g c i x l hi' hl (by omega) v w hBw hr hv

/-- What insert leaves. -/
def PutRet (B p : Nat) (s : TS) (x : Ti) (w : World) (e : Ending) (w' : World) : Prop :=
  e = .returned (.tuple #[]) ∧ TRep w' B p { s with ts := insT x s.ts } ∧ Turn B [52, 61] false w w'
set_option maxRecDepth 100000 in
set_option maxHeartbeats 1600000 in
theorem put_any (B p : Nat) (s : TS) (x : Ti) (hl : s.ts.length < 1000) (w : World) (hBw : B ≤ w.heap.size) (r : TRep w B p s) :
    Calls Try.prog 33 #[.pointer (some ⟨p, 1, none⟩), .agg #[.string x.id, .int .i64 x.at_], .func (.func 34) #[] #[]] w (PutRet B p s x w) := by
  obtain ⟨hB, A, c, B0, hr⟩ := r
  have hlen := hr.len
  have BX := Blk.new w 61 #[.string x.id, .int .i64 x.at_]
  obtain ⟨V, hV⟩ : ∃ V, w.heap.size = V := ⟨_, rfl⟩
  have B1 := B0.alloc (.cells #[.string x.id, .int .i64 x.at_] 61)
  have R1 := Lib.hid (hr.alloc (.cells #[.string x.id, .int .i64 x.at_] 61))
  have HR := Lib.hid hr
  have HB1 := Lib.hid B1
  have HBX := Lib.hid BX
  have c1 := B1.c1
  have b1 := Lib.hid (((Below.refl w.heap.size w).alloc (Nat.le_refl _) (.cells #[.string x.id, .int .i64 x.at_] 61)))
  clear hr B1 BX
  go_enter Try.func33, Try.ntmps33
  go_wp2_with fail
  obtain ⟨W1, hW1⟩ : ∃ W1, w.alloc (.cells #[.string x.id, .int .i64 x.at_] 61) = W1 := ⟨_, rfl⟩
  rw [hW1] at R1 HB1 HBX c1 b1 ⊢
  rw [hV] at HBX
  have HV := Lib.hid hV
  have hVA : blkOf A ≠ some V := by
    rcases HR.out.2 with ⟨rfl, _⟩ | ⟨g, cur, rfl, _, hh, _⟩
    · simp [blkOf]
    · have := Blk.lt hh
      simp [blkOf]
      omega
  clear hW1 hV
  go_loopw [6] (fun i wr => ∃ k : Nat, k ≤ s.ts.length ∧ i = .int .i64 k ∧ place x.at_ s.ts s.ts.length = place x.at_ s.ts k ∧ Below W1.heap.size W1 wr) (fun i _ => (intOf i).toNat)
  case atStart => exact ⟨s.ts.length, Nat.le_refl _, rfl, rfl, Below.refl _ _⟩
  case round =>
    obtain ⟨k, hk, rfl, hpl, hb⟩ := hrel
    have HBr := Lib.hid hb
    have HPl := Lib.hid hpl
    have zb := hb.size
    clear hb hpl
    cases k with
    | zero =>
      have e1 := fun n : Cls (UpC wr) => ((HB1.out.call HBr.out).call n.2).c1
      rename_i K0 hKK
      go_wp2_with fail
      refine wp_region_reg (UpC wr) 15 rfl (by kernel_rfl) ?_
      have T : UpC wr wr.drew := (Below.refl _ _).drew
      haveI : Nonempty (Cls (UpC wr)) := ⟨⟨_, T⟩⟩
      refine reg_seg (f := 2) (by kernel_rfl) [0, 1, 2, 3, 4, 5, 6, 7, 8, 9, 10, 11, 12] _ _ _ T (by kernel_rfl) ?_
      simp only [pickL, List.filterMap_cons, List.filterMap_nil, List.getElem?_toArray, List.getElem?_cons_zero, List.getElem?_cons_succ]
      show wpQuiet _ _ _ _ [_, _, _, _, _, _, _, _, _, _, _, _, _] _
      repeat (go_big_quiet_step (fail))
      refine wpQuiet_nil ?_
      refine reg_skip 13 _ (by kernel_rfl) rfl rfl T ?_
      go_simp
      refine reg_call 14 _ (by kernel_rfl) rfl rfl ?_
      go_simp
      refine reg_end (by kernel_rfl) ?_
      have HBq : Hid (Below W1.heap.size W1 wr.drew) := Lib.hid (HBr.out.drew)
      clear T e1
      generalize wr.drew = wq at HBq ⊢
      obtain ⟨KK, hK2⟩ : ∃ KK : Nat, KK = 0 := ⟨_, rfl⟩
      have hKK1 : KK ≤ s.ts.length := by omega
      have hKI : (KK : Int) = 0 := by omega
      have hP : place x.at_ s.ts s.ts.length = KK := by rw [HPl.out, hK2]; rfl
      go_wp2_with fail
      have B2 := HB1.out.call HBq.out
      have R2 := Lib.hid (R1.out.call HBq.out)
      have V2 := Lib.hid (HBX.out.call HBq.out)
      have zq : B ≤ wq.heap.size := Nat.le_trans hBw (Nat.le_trans b1.out.size HBq.out.size)
      have e1 := fun n : Cls (fun x => wq.grownBy x (blkOf A)) => (B2.grown n.2 (Ne.symm (R2.out.blk_ne B2 (by decide)))).c1
      have v0 := fun n : Cls (fun x => wq.grownBy x (blkOf A)) => (V2.out.grown n.2 (Ne.symm hVA)).c0
      have v1 := fun n : Cls (fun x => wq.grownBy x (blkOf A)) => (V2.out.grown n.2 (Ne.symm hVA)).c1
      refine wp_region_regE (fun x => wq.grownBy x (blkOf A)) 12 11 rfl (by kernel_rfl) ?_
      have T : wq.grownBy wq.drew (blkOf A) := ⟨rfl, rfl, rfl, Nat.le_refl _, fun _ _ _ => rfl⟩
      haveI : Nonempty (Cls (fun x => wq.grownBy x (blkOf A))) := ⟨⟨_, T⟩⟩
      refine regE_seg (f := 5) (by kernel_rfl) [0, 1, 2, 3, 4, 5, 6] _ _ _ T (by kernel_rfl) ?_
      simp only [pickL, List.filterMap_cons, List.filterMap_nil, List.getElem?_toArray, List.getElem?_cons_zero, List.getElem?_cons_succ]
      show wpQuiet _ _ _ _ [_, _, _, _, _, _, _] _
      repeat (go_big_quiet_step (fail))
      refine wpQuiet_nil ?_
      clear e1 v0 v1
      refine regE_call 7 _ (by kernel_rfl) rfl rfl ?_
      go_simp
      have T7 : wq.grownBy (wq.alloc (.cells #[.string x.id, .int .i64 x.at_] 61)).drew (blkOf A) := ⟨rfl, rfl, rfl, by simp, fun k hk _ => Below.heap_alloc wq _ k hk⟩
      refine ⟨T7, ?_⟩
      have RR : rowL (wq.alloc (.cells #[.string x.id, .int .i64 x.at_] 61)).drew B 61 2 A s.ts.length c (s.ts.flatMap tiC) := R2.out.alloc _
      have VV : Blk (wq.alloc (.cells #[.string x.id, .int .i64 x.at_] 61)).drew wq.heap.size 61 #[.string x.id, .int .i64 x.at_] := Blk.new wq 61 _
      have hVV : blkOf A ≠ some wq.heap.size := by
        rcases R2.out.2 with ⟨rfl, _⟩ | ⟨g, cur, rfl, _, hh, _⟩
        · simp [blkOf]
        · have := Blk.lt hh
          simp [blkOf]
          omega
      have hI := insert_any B A c KK x s.ts hKK1 hl wq.heap.size _ (Nat.le_trans zq T7.size) RR VV hVV
      rw [hKI] at hI
      have HI := Lib.hid hI
      clear RR VV hVV hI
      refine regE_call 8 _ (by kernel_rfl) rfl rfl ?_
      go_simp
      refine HI.out.mono ?_
      rintro e w4 ⟨A4, c4, rfl, hr4, hg4⟩
      have T4 : wq.grownBy w4 (blkOf A) := World.grownBy.trans T7 hg4
      have B4 := B2.grown T4 (Ne.symm (R2.out.blk_ne B2 (by decide)))
      have R4 := Lib.hid hr4
      have HT4 := Lib.hid T4
      have l4 := B4.lt
      have f4 := B4.frozen
      have d4 := B4.c1
      clear hr4 hg4 T7 T4 T
      have T := HT4.out
      refine ⟨HT4.out, ?_⟩
      refine regE_call 9 _ (by kernel_rfl) rfl rfl ?_
      go_simp
      refine regE_call 10 _ (by kernel_rfl) rfl rfl ?_
      go_simp
      refine regE_last _ (by kernel_rfl) rfl rfl ?_
      go_simp
      refine regE_end (by kernel_rfl) ?_
      go_end0
      have hin : insT x s.ts = s.ts.take KK ++ x :: s.ts.drop KK := by unfold insT; rw [hP]
      have hil : (insT x s.ts).length = s.ts.length + 1 := by
        rw [hin]
        simp
        omega
      refine ⟨rfl, ⟨hB, A4, c4, ?_, ?_⟩, (((Turn.of_below b1.out hBw).call HBq.out hBw).grownL R2.out HT4.out rfl hBw).setB B4 rfl hB 1 _⟩
      · rw [show ({ s with ts := insT x s.ts } : TS).ts = insT x s.ts from rfl, hil]
        exact B4.s1 _
      · rw [show ({ s with ts := insT x s.ts } : TS).ts = insT x s.ts from rfl, hil, hin]
        exact R4.out.far B4 (by decide) 1 _
    | succ j =>
      have hjl : j < s.ts.length := by omega
      have hu : s.ts[j]? = some s.ts[j] := List.getElem?_eq_getElem hjl
      have hps := place_succ (a := x.at_) hu
      obtain ⟨g, rfl, _, _, _, _⟩ := HR.out.cells (by omega)
      have e1 := fun n : Cls (UpC wr) => ((HB1.out.call HBr.out).call n.2).c1
      have v0 := fun n : Cls (UpC wr) => ((HBX.out.call HBr.out).call n.2).c0
      have v1 := fun n : Cls (UpC wr) => ((HBX.out.call HBr.out).call n.2).c1
      have yy : ∀ n : Cls (UpC wr), n.val.cell? ⟨g, j * 2, none⟩ = some (.string s.ts[j].id) ∧ n.val.cell? ⟨g, j * 2 + 1, none⟩ = some (.int .i64 s.ts[j].at_) := by
        intro n
        obtain ⟨g', e, _, _, hc, _⟩ := ((R1.out.call HBr.out).call n.2).cells (by omega)
        injection e with e
        injection e with e
        subst e
        exact ⟨hc (j * 2) _ (by have := atM tiC 2 tiC2 s.ts j _ 0 hu (by decide); simpa [tiC] using this), hc (j * 2 + 1) _ (by rw [atM tiC 2 tiC2 s.ts j _ 1 hu (by decide)]; rfl)⟩
      have y0 := fun n => (yy n).1
      have y1 := fun n => (yy n).2
      have HPs := Lib.hid hps
      clear yy hu hps
      generalize s.ts[j] = y at y0 y1 HPs
      have q1 : IntKind.i64.wrap ((j : Int) + 1 - 1) = j := by rw [IntWalk.i64_in _ (by omega)]; omega
      have q2 : (j : Int) < s.ts.length := by omega
      rename_i K0 hKK
      go_wp2_with fail
      refine wp_region_reg (UpC wr) 15 rfl (by kernel_rfl) ?_
      have T : UpC wr wr.drew := (Below.refl _ _).drew
      haveI : Nonempty (Cls (UpC wr)) := ⟨⟨_, T⟩⟩
      refine reg_seg (f := 2) (by kernel_rfl) [0, 1, 2, 3, 4, 5, 6, 7, 8, 9, 10, 11, 12] _ _ _ T (by kernel_rfl) ?_
      simp only [pickL, List.filterMap_cons, List.filterMap_nil, List.getElem?_toArray, List.getElem?_cons_zero, List.getElem?_cons_succ]
      show wpQuiet _ _ _ _ [_, _, _, _, _, _, _, _, _, _, _, _, _] _
      repeat (go_big_quiet_step (fail))
      refine wpQuiet_nil ?_
      clear e1 v0 v1 y0 y1
      refine reg_call 13 _ (by kernel_rfl) rfl rfl ?_
      go_simp
      refine (earlier_any x y _).mono ?_
      rintro e w2 ⟨rfl, b2⟩
      have T2 : UpC wr w2 := T.call b2
      have HBq : Hid (Below W1.heap.size W1 w2) := Lib.hid (HBr.out.trans (Below.mono T2 zb))
      refine ⟨T2, ?_⟩
      clear T b2
      have T := T2
      by_cases hlt : x.at_ < y.at_
      · rw [decide_eq_true hlt]
        have HS : Hid (place x.at_ s.ts s.ts.length = place x.at_ s.ts j) := Lib.hid (by rw [HPl.out, HPs.out, if_pos hlt])
        refine reg_call 14 _ (by kernel_rfl) rfl rfl ?_
        go_simp
        refine reg_end (by kernel_rfl) ?_
        clear T T2
        go_wp2_with fail
        go_roundw
        case rel => exact ⟨j, by omega, by go_num, HS.out, HBq.out⟩
        case measure => simp [intOf]
      · rw [decide_eq_false hlt]
        have HS : Hid (place x.at_ s.ts s.ts.length = j + 1) := Lib.hid (by rw [HPl.out, HPs.out, if_neg hlt])
        refine reg_call 14 _ (by kernel_rfl) rfl rfl ?_
        go_simp
        refine reg_end (by kernel_rfl) ?_
        clear T T2
        obtain ⟨KK, hK2⟩ : ∃ KK : Nat, KK = j + 1 := ⟨_, rfl⟩
        have hKK1 : KK ≤ s.ts.length := by omega
        have hKI : (KK : Int) = ((j + 1 : Nat) : Int) := by omega
        have hP : place x.at_ s.ts s.ts.length = KK := by rw [HS.out, hK2]
        go_wp2_with fail
        have B2 := HB1.out.call HBq.out
        have R2 := Lib.hid (R1.out.call HBq.out)
        have V2 := Lib.hid (HBX.out.call HBq.out)
        have zq : B ≤ w2.heap.size := Nat.le_trans hBw (Nat.le_trans b1.out.size HBq.out.size)
        have e1 := fun n : Cls (fun x => w2.grownBy x (blkOf (some ⟨g, 0, none⟩))) => (B2.grown n.2 (Ne.symm (R2.out.blk_ne B2 (by decide)))).c1
        have v0 := fun n : Cls (fun x => w2.grownBy x (blkOf (some ⟨g, 0, none⟩))) => (V2.out.grown n.2 (Ne.symm hVA)).c0
        have v1 := fun n : Cls (fun x => w2.grownBy x (blkOf (some ⟨g, 0, none⟩))) => (V2.out.grown n.2 (Ne.symm hVA)).c1
        refine wp_region_regE (fun x => w2.grownBy x (blkOf (some ⟨g, 0, none⟩))) 12 11 rfl (by kernel_rfl) ?_
        have T : w2.grownBy w2.drew (blkOf (some ⟨g, 0, none⟩)) := ⟨rfl, rfl, rfl, Nat.le_refl _, fun _ _ _ => rfl⟩
        haveI : Nonempty (Cls (fun x => w2.grownBy x (blkOf (some ⟨g, 0, none⟩)))) := ⟨⟨_, T⟩⟩
        refine regE_seg (f := 5) (by kernel_rfl) [0, 1, 2, 3, 4, 5, 6] _ _ _ T (by kernel_rfl) ?_
        simp only [pickL, List.filterMap_cons, List.filterMap_nil, List.getElem?_toArray, List.getElem?_cons_zero, List.getElem?_cons_succ]
        show wpQuiet _ _ _ _ [_, _, _, _, _, _, _] _
        repeat (go_big_quiet_step (fail))
        refine wpQuiet_nil ?_
        clear e1 v0 v1
        refine regE_call 7 _ (by kernel_rfl) rfl rfl ?_
        go_simp
        have T7 : w2.grownBy (w2.alloc (.cells #[.string x.id, .int .i64 x.at_] 61)).drew (blkOf (some ⟨g, 0, none⟩)) := ⟨rfl, rfl, rfl, by simp, fun k hk _ => Below.heap_alloc w2 _ k hk⟩
        refine ⟨T7, ?_⟩
        have RR : rowL (w2.alloc (.cells #[.string x.id, .int .i64 x.at_] 61)).drew B 61 2 (some ⟨g, 0, none⟩) s.ts.length c (s.ts.flatMap tiC) := R2.out.alloc _
        have VV : Blk (w2.alloc (.cells #[.string x.id, .int .i64 x.at_] 61)).drew w2.heap.size 61 #[.string x.id, .int .i64 x.at_] := Blk.new w2 61 _
        have hVV : blkOf (some ⟨g, 0, none⟩) ≠ some w2.heap.size := by
          have hgw := (R2.out.cells (by omega)).choose_spec
          obtain ⟨he, _, hgl, _⟩ := hgw
          injection he with he
          injection he with he
          rw [← he] at hgl
          simp [blkOf]
          omega
        have hI := insert_any B (some ⟨g, 0, none⟩) c KK x s.ts hKK1 hl w2.heap.size _ (Nat.le_trans zq T7.size) RR VV hVV
        rw [hKI] at hI
        have HI := Lib.hid hI
        clear RR VV hVV hI
        refine regE_call 8 _ (by kernel_rfl) rfl rfl ?_
        go_simp
        refine HI.out.mono ?_
        rintro e w4 ⟨A4, c4, rfl, hr4, hg4⟩
        have T4 : w2.grownBy w4 (blkOf (some ⟨g, 0, none⟩)) := World.grownBy.trans T7 hg4
        have B4 := B2.grown T4 (Ne.symm (R2.out.blk_ne B2 (by decide)))
        have R4 := Lib.hid hr4
        have HT4 := Lib.hid T4
        have l4 := B4.lt
        have f4 := B4.frozen
        have d4 := B4.c1
        clear hr4 hg4 T7 T4 T
        have T := HT4.out
        refine ⟨HT4.out, ?_⟩
        refine regE_call 9 _ (by kernel_rfl) rfl rfl ?_
        go_simp
        refine regE_call 10 _ (by kernel_rfl) rfl rfl ?_
        go_simp
        refine regE_last _ (by kernel_rfl) rfl rfl ?_
        go_simp
        refine regE_end (by kernel_rfl) ?_
        go_end0
        have hin : insT x s.ts = s.ts.take KK ++ x :: s.ts.drop KK := by unfold insT; rw [hP]
        have hil : (insT x s.ts).length = s.ts.length + 1 := by
          rw [hin]
          simp
          omega
        refine ⟨rfl, ⟨hB, A4, c4, ?_, ?_⟩, (((Turn.of_below b1.out hBw).call HBq.out hBw).grownL R2.out HT4.out rfl hBw).setB B4 rfl hB 1 _⟩
        · rw [show ({ s with ts := insT x s.ts } : TS).ts = insT x s.ts from rfl, hil]
          exact B4.s1 _
        · rw [show ({ s with ts := insT x s.ts } : TS).ts = insT x s.ts from rfl, hil, hin]
          exact R4.out.far B4 (by decide) 1 _
end Go.Proofs.Ytmkcpgdjbbcigaa
