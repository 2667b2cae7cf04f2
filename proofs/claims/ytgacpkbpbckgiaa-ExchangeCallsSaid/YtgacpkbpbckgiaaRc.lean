/-
  Exchange: walk over the chapter's own Reply. Condition: the state is one that the calls make.
-/
import Derived.Test.YtgacpkbpbckgiaaRb
namespace Go.Proofs.Ytgacpkbpbckgiaa
open Go.RowKit
set_option linter.unusedVariables false

def QRepRet (B p : Nat) (s : XS) (a : Int) (key rep : ByteArray) (w : World) (e : Ending) (w' : World) : Prop :=
  e = .returned (.tuple #[.int .i64 (repN s a key rep), .int .i64 (repE s a key rep)]) ∧ QRep w' B p (repS s a key rep) ∧ Turn B QT false w w'
theorem set_same {l : List Im} {i : Nat} {x : Im} (h : l[i]? = some x) : l.set i x = l := by
  apply List.ext_getElem?
  intro j
  rw [List.getElem?_set]
  split
  · rename_i e
    subst e
    have := (List.getElem?_eq_some_iff.1 h).1
    rw [if_pos this, h]
  · rfl
section
variable (B p : Nat) (s : XS) (a : Int) (key rep : ByteArray) (w : World)
theorem qreply_6 (hf : fnd key s.its = none) (r : QRep w B p s) : Calls Try.prog 16 #[.pointer (some ⟨p, 0, none⟩), .int .i64 a, .string key, .string rep] w fun e w' => e = .returned (.tuple #[.int .i64 0, .int .i64 6]) ∧ Below w.heap.size w w' := by
  have HI := Lib.hid (qindex_none B p s w key hf r)
  clear r hf
  go_enter Try.func16, Try.ntmps16
  go_wp2_with (go_at_call 32; refine HI.out.mono ?_; rintro e w' ⟨rfl, rfl⟩)
  go_ret2
  exact ⟨rfl, Below.refl _ _⟩
theorem qreply_14 (x : Im) (hf : fnd key s.its = some x) (h : ¬ okT s a) (r : QRep w B p s) : Calls Try.prog 16 #[.pointer (some ⟨p, 0, none⟩), .int .i64 a, .string key, .string rep] w fun e w' => e = .returned (.tuple #[.int .i64 0, .int .i64 14]) ∧ Below w.heap.size w w' := by
  have HQ := qtime_any B p s w a r
  rw [decide_eq_false h] at HQ
  replace HQ := Lib.hid HQ
  obtain ⟨i, e1, e2, e3⟩ := fnd_at hf
  have HI := Lib.hid (qindex_some B p s w key i x e1 e2 e3 r)
  have hi : (0 : Int) ≤ i := by omega
  clear r hf h e1 e2 e3
  go_enter Try.func16, Try.ntmps16
  go_wp2_with (first
    | (go_at_call 32; refine HI.out.mono ?_; rintro e w' ⟨rfl, rfl⟩)
    | (go_at_call 31; refine HQ.out.mono ?_; rintro e w' ⟨rfl, rfl⟩))
  go_ret2
  exact ⟨rfl, Below.refl _ _⟩
theorem qreply_3 (x : Im) (hf : fnd key s.its = some x) (h : okT s a) (ht : 4000 < rep.size) (r : QRep w B p s) : Calls Try.prog 16 #[.pointer (some ⟨p, 0, none⟩), .int .i64 a, .string key, .string rep] w fun e w' => e = .returned (.tuple #[.int .i64 0, .int .i64 3]) ∧ Below w.heap.size w w' := by
  have HQ := qtime_any B p s w a r
  rw [decide_eq_true h] at HQ
  replace HQ := Lib.hid HQ
  obtain ⟨i, e1, e2, e3⟩ := fnd_at hf
  have HI := Lib.hid (qindex_some B p s w key i x e1 e2 e3 r)
  have hi : (0 : Int) ≤ i := by omega
  have k3 : 4000 < (rep.size : Int) := by omega
  clear r hf h e1 e2 e3 ht
  go_enter Try.func16, Try.ntmps16
  go_wp2_with (first
    | (go_at_call 32; refine HI.out.mono ?_; rintro e w' ⟨rfl, rfl⟩)
    | (go_at_call 31; refine HQ.out.mono ?_; rintro e w' ⟨rfl, rfl⟩))
  go_ret2
  exact ⟨rfl, Below.refl _ _⟩
set_option maxRecDepth 100000 in
set_option maxHeartbeats 3200000 in
theorem qreply_at (o : s.Ok) (x : Im) (hf : fnd key s.its = some x) (h : okT s a) (ht : ¬ 4000 < rep.size) (hBw : B ≤ w.heap.size) (r : QRep w B p s) :
    Calls Try.prog 16 #[.pointer (some ⟨p, 0, none⟩), .int .i64 a, .string key, .string rep] w fun e w' => e = .returned (.tuple #[.int .i64 (if x.st = 1 then 3 else if x.st = 0 ∧ a < x.at_ + s.tmo then 1 else 2), .int .i64 0]) ∧ QRep w' B p ⟨s.tmo, a, upd key (repU s.tmo a rep) s.its⟩ ∧ Turn B QT false w w' := by
  have HQ := qtime_any B p s w a r
  rw [decide_eq_true h] at HQ
  replace HQ := Lib.hid HQ
  obtain ⟨i, hx, hk, e3⟩ := fnd_at hf
  have HI := Lib.hid (qindex_some B p s w key i x hx hk e3 r)
  have hi : (0 : Int) ≤ i := by omega
  have k3 : ¬ 4000 < (rep.size : Int) := by omega
  have hil : i < s.its.length := (List.getElem?_eq_some_iff.1 hx).1
  have hU : upd key (repU s.tmo a rep) s.its = s.its.set i (repU s.tmo a rep x) := upd_at o.keys hx hk
  rw [hU]
  have hat := o.at_ x (List.mem_of_getElem? hx)
  have ht1 := o.t1
  have ht2 := o.t2
  have hn2 := o.n2
  have b1 : -9223372036854775808 ≤ x.at_ + s.tmo := by omega
  have b2 : x.at_ + s.tmo ≤ 9223372036854775807 := by omega
  obtain ⟨hB, A, c, B0, hr⟩ := r
  have hlen := hr.len
  have l1 := B0.lt
  have f1 := B0.frozen
  have c1 := B0.c 1 _ rfl
  have X2 : Blk (w.setCell ⟨p, 1, none⟩ (.int .i64 a)) p 37 #[.int .i64 s.tmo, .int .i64 a, .slice A s.its.length c] := by simpa using B0.set_ 1 (.int .i64 a)
  have HR2 := Lib.hid (hr.far B0 (by decide) 1 (.int .i64 a))
  have T1 := Lib.hid ((Turn.refl B QT false w).setB B0 rfl hB 1 (.int .i64 a))
  have HX2 := Lib.hid X2
  obtain ⟨g, rfl, hBg, hgl, hcell, _⟩ := item_at HR2.out hx
  have d0 := X2.c 0 _ rfl
  have d2 := X2.c 2 _ rfl
  have d3 := hcell 3 _ rfl
  have d4 := hcell 4 _ rfl
  have HL := Lib.hid (And.intro X2 (And.intro hcell hgl))
  clear X2 hcell B0 hr hf h ht hat ht1 ht2 hn2 e3 hU
  have FIN : Hid (∀ (wf : World) (y : Im), y = repU s.tmo a rep x → Blk wf p 37 #[.int .i64 s.tmo, .int .i64 a, .slice (some ⟨g, 0, none⟩) s.its.length c] → rowL wf B 74 5 (some ⟨g, 0, none⟩) s.its.length c ((s.its.set i y).flatMap imR) → QRep wf B p ⟨s.tmo, a, s.its.set i (repU s.tmo a rep x)⟩) := Lib.hid (fun wf y hy hb hr => by
    subst hy
    exact ⟨hB, _, c, by show Blk wf p 37 #[.int .i64 s.tmo, .int .i64 a, .slice (some ⟨g, 0, none⟩) (s.its.set i _).length c]; rw [List.length_set]; exact hb, by show rowL wf B 74 5 (some ⟨g, 0, none⟩) (s.its.set i _).length c _; rw [List.length_set]; exact hr⟩)
  by_cases s1 : x.st = 1
  · rw [if_pos s1]
    rw [s1] at d4
    have HS := Lib.hid s1
    have HXX := Lib.hid hx
    clear s1 hx d3 d0
    go_enter Try.func16, Try.ntmps16
    go_wp2_with (first
      | (go_at_call 32; refine HI.out.mono ?_; rintro e w' ⟨rfl, rfl⟩)
      | (go_at_call 31; refine HQ.out.mono ?_; rintro e w' ⟨rfl, rfl⟩))
    go_ret2
    refine ⟨rfl, FIN.out _ x ?_ HX2.out ?_, T1.out⟩
    · unfold repU
      rw [if_neg (by rw [HS.out]; decide)]
    · rw [set_same HXX.out]
      exact HR2.out
  · rw [if_neg s1]
    by_cases s0 : x.st = 0
    · rw [s0] at d4
      by_cases hlt : a < x.at_ + s.tmo
      · rw [if_pos ⟨s0, hlt⟩]
        have HS := Lib.hid s0
        have HXX := Lib.hid hx
        have HLT := Lib.hid hlt
        clear s1 s0
        go_enter Try.func16, Try.ntmps16
        go_wp2_with (first
          | (go_at_call 32; refine HI.out.mono ?_; rintro e w' ⟨rfl, rfl⟩)
          | (go_at_call 31; refine HQ.out.mono ?_; rintro e w' ⟨rfl, rfl⟩))
        clear d0 d2 d3 d4 l1 f1 c1
        generalize w.setCell ⟨p, 1, none⟩ (.int .i64 a) = W1 at HX2 HR2 HL T1 ⊢
        have L0 := fun n : Cls (UpC W1) => (HL.out.1.call n.2).c 0 _ rfl
        have L2 := fun n : Cls (UpC W1) => (HL.out.1.call n.2).c 2 _ rfl
        have L3 := fun n : Cls (UpC W1) => (Below.cell n.2 (p := ⟨g, i * 5 + 3, none⟩) HL.out.2.2).trans (HL.out.2.1 3 _ rfl)
        have L4 := fun n : Cls (UpC W1) => (Below.cell n.2 (p := ⟨g, i * 5 + 4, none⟩) HL.out.2.2).trans (HL.out.2.1 4 _ rfl)
        rw [HS.out] at L4
        clear hx
        rename_i K0 hKK
        refine wp_region_reg (UpC W1) 27 rfl (by kernel_rfl) ?_
        have T : UpC W1 W1.drew := (Below.refl _ _).drew
        haveI : Nonempty (Cls (UpC W1)) := ⟨⟨_, T⟩⟩
        refine reg_seg (f := 0) (by kernel_rfl) [0, 1, 2, 3, 4, 5, 6, 7, 8, 9, 10, 11, 12, 13, 14, 15, 16, 17, 18, 19, 20, 21, 22, 23, 24, 25, 26] _ _ _ T (by kernel_rfl) ?_
        simp only [pickL, List.filterMap_cons, List.filterMap_nil, List.getElem?_toArray, List.getElem?_cons_zero, List.getElem?_cons_succ]
        show wpQuiet _ _ _ _ [_, _, _, _, _, _, _, _, _, _, _, _, _, _, _, _, _, _, _, _, _, _, _, _, _, _, _] _
        repeat (go_big_quiet_step (fail))
        refine wpQuiet_nil ?_
        refine reg_end (by kernel_rfl) ?_
        refine hKK _ _ ?_
        have TQ := Lib.hid (T1.out.call T hBw)
        have XQ := HX2.out.call T
        have RQ := HR2.out.call T
        clear T L0 L2 L3 L4
        generalize W1.drew = wq at TQ XQ RQ ⊢
        obtain ⟨_, eA, _, lq, cq, fq⟩ := item_at RQ HXX.out
        injection eA with eA
        injection eA with eA
        subst eA
        have q2 := XQ.c 2 _ rfl
        have q4 := cq 4 _ rfl
        rw [HS.out] at q4
        have XQ1 := XQ.setL RQ (by decide) (i * 5 + 4) (.int .i64 1)
        have RQ1 := RQ.set_ (i * 5 + 4) (.int .i64 1)
        rw [setM imR 5 imR5 s.its i x { x with st := 1 } 4 (.int .i64 1) HXX.out (by decide) rfl] at RQ1
        have TQ1 := TQ.out.setL RQ rfl (i * 5 + 4) (.int .i64 1)
        have hx1 : (s.its.set i { x with st := 1 })[i]? = some { x with st := 1 } := by rw [List.getElem?_set, if_pos rfl, if_pos hil]
        have hcR := RQ1.cells (by omega)
        obtain ⟨_, eA, _, lq1, cq1, fq1⟩ := hcR
        injection eA with eA
        injection eA with eA
        subst eA
        have q12 := XQ1.c 2 _ rfl
        have q14 := cq1 (i * 5 + 2) (.string x.reply) (by rw [atM imR 5 imR5 _ i _ 2 hx1 (by decide)]; rfl)
        have XQ2 := XQ1.setL RQ1 (by decide) (i * 5 + 2) (.string rep)
        have RQ2 := RQ1.set_ (i * 5 + 2) (.string rep)
        rw [setM imR 5 imR5 _ i _ { x with st := 1, reply := rep } 2 (.string rep) hx1 (by decide) rfl, List.set_set] at RQ2
        have TQ2 := Lib.hid (TQ1.setL RQ1 rfl (i * 5 + 2) (.string rep))
        have HXQ2 := Lib.hid XQ2
        have HRQ2 := Lib.hid RQ2
        clear XQ XQ1 XQ2 RQ RQ1 RQ2 TQ TQ1 hx1 cq cq1
        go_wp2_with fail
        go_ret2
        refine ⟨rfl, FIN.out _ { x with st := 1, reply := rep } ?_ HXQ2.out HRQ2.out, TQ2.out⟩
        unfold repU
        rw [if_pos HS.out, if_pos HLT.out]
      · rw [if_neg (fun e => hlt e.2)]
        have HS := Lib.hid s0
        have HXX := Lib.hid hx
        have HLT := Lib.hid hlt
        clear s1 s0
        go_enter Try.func16, Try.ntmps16
        go_wp2_with (first
          | (go_at_call 32; refine HI.out.mono ?_; rintro e w' ⟨rfl, rfl⟩)
          | (go_at_call 31; refine HQ.out.mono ?_; rintro e w' ⟨rfl, rfl⟩))
        clear d0 d2 d3 d4 l1 f1 c1
        generalize w.setCell ⟨p, 1, none⟩ (.int .i64 a) = W1 at HX2 HR2 HL T1 ⊢
        have L0 := fun n : Cls (UpC W1) => (HL.out.1.call n.2).c 0 _ rfl
        have L2 := fun n : Cls (UpC W1) => (HL.out.1.call n.2).c 2 _ rfl
        have L3 := fun n : Cls (UpC W1) => (Below.cell n.2 (p := ⟨g, i * 5 + 3, none⟩) HL.out.2.2).trans (HL.out.2.1 3 _ rfl)
        have L4 := fun n : Cls (UpC W1) => (Below.cell n.2 (p := ⟨g, i * 5 + 4, none⟩) HL.out.2.2).trans (HL.out.2.1 4 _ rfl)
        rw [HS.out] at L4
        clear hx
        rename_i K0 hKK
        refine wp_region_reg (UpC W1) 27 rfl (by kernel_rfl) ?_
        have T : UpC W1 W1.drew := (Below.refl _ _).drew
        haveI : Nonempty (Cls (UpC W1)) := ⟨⟨_, T⟩⟩
        refine reg_seg (f := 0) (by kernel_rfl) [0, 1, 2, 3, 4, 5, 6, 7, 8, 9, 10, 11, 12, 13, 14, 15, 16, 17, 18, 19, 20, 21, 22, 23, 24, 25, 26] _ _ _ T (by kernel_rfl) ?_
        simp only [pickL, List.filterMap_cons, List.filterMap_nil, List.getElem?_toArray, List.getElem?_cons_zero, List.getElem?_cons_succ]
        show wpQuiet _ _ _ _ [_, _, _, _, _, _, _, _, _, _, _, _, _, _, _, _, _, _, _, _, _, _, _, _, _, _, _] _
        repeat (go_big_quiet_step (fail))
        refine wpQuiet_nil ?_
        refine reg_end (by kernel_rfl) ?_
        refine hKK _ _ ?_
        have TQ := Lib.hid (T1.out.call T hBw)
        have XQ := HX2.out.call T
        have RQ := HR2.out.call T
        clear T L0 L2 L3 L4
        generalize W1.drew = wq at TQ XQ RQ ⊢
        obtain ⟨_, eA, _, lq, cq, fq⟩ := item_at RQ HXX.out
        injection eA with eA
        injection eA with eA
        subst eA
        have q2 := XQ.c 2 _ rfl
        have q4 := cq 4 _ rfl
        rw [HS.out] at q4
        have XQ1 := XQ.setL RQ (by decide) (i * 5 + 4) (.int .i64 2)
        have RQ1 := RQ.set_ (i * 5 + 4) (.int .i64 2)
        rw [setM imR 5 imR5 s.its i x { x with st := 2 } 4 (.int .i64 2) HXX.out (by decide) rfl] at RQ1
        have TQ1 := Lib.hid (TQ.out.setL RQ rfl (i * 5 + 4) (.int .i64 2))
        have HXQ1 := Lib.hid XQ1
        have HRQ1 := Lib.hid RQ1
        clear XQ XQ1 RQ RQ1 TQ cq
        go_wp2_with fail
        go_ret2
        refine ⟨rfl, FIN.out _ { x with st := 2 } ?_ HXQ1.out HRQ1.out, TQ1.out⟩
        unfold repU
        rw [if_pos HS.out, if_neg (by have := HLT.out; omega)]
    · rw [if_neg (fun e => s0 e.1)]
      have HXX := Lib.hid hx
      have HS := Lib.hid s0
      obtain ⟨v, hv⟩ : ∃ v : Int, (x.st : Int) = v := ⟨_, rfl⟩
      have n0 : (v == 0) = false := by rw [beq_eq_false_iff_ne]; omega
      have n1 : (v == 1) = false := by rw [beq_eq_false_iff_ne]; omega
      rw [hv] at d4
      have HV := Lib.hid hv
      clear s1 s0 hv
      · go_enter Try.func16, Try.ntmps16
        go_wp2_with (first
          | (go_at_call 32; refine HI.out.mono ?_; rintro e w' ⟨rfl, rfl⟩)
          | (go_at_call 31; refine HQ.out.mono ?_; rintro e w' ⟨rfl, rfl⟩))
        clear d0 d2 d3 d4 l1 f1 c1
        generalize w.setCell ⟨p, 1, none⟩ (.int .i64 a) = W1 at HX2 HR2 HL T1 ⊢
        have L0 := fun n : Cls (UpC W1) => (HL.out.1.call n.2).c 0 _ rfl
        have L2 := fun n : Cls (UpC W1) => (HL.out.1.call n.2).c 2 _ rfl
        have L3 := fun n : Cls (UpC W1) => (Below.cell n.2 (p := ⟨g, i * 5 + 3, none⟩) HL.out.2.2).trans (HL.out.2.1 3 _ rfl)
        have L4 := fun n : Cls (UpC W1) => (Below.cell n.2 (p := ⟨g, i * 5 + 4, none⟩) HL.out.2.2).trans (HL.out.2.1 4 _ rfl)
        rw [HV.out] at L4
        clear hx
        rename_i K0 hKK
        refine wp_region_reg (UpC W1) 27 rfl (by kernel_rfl) ?_
        have T : UpC W1 W1.drew := (Below.refl _ _).drew
        haveI : Nonempty (Cls (UpC W1)) := ⟨⟨_, T⟩⟩
        refine reg_seg (f := 0) (by kernel_rfl) [0, 1, 2, 3, 4, 5, 6, 7, 8, 9, 10, 11, 12, 13, 14, 15, 16, 17, 18, 19, 20, 21, 22, 23, 24, 25, 26] _ _ _ T (by kernel_rfl) ?_
        simp only [pickL, List.filterMap_cons, List.filterMap_nil, List.getElem?_toArray, List.getElem?_cons_zero, List.getElem?_cons_succ]
        show wpQuiet _ _ _ _ [_, _, _, _, _, _, _, _, _, _, _, _, _, _, _, _, _, _, _, _, _, _, _, _, _, _, _] _
        repeat (go_big_quiet_step (fail))
        refine wpQuiet_nil ?_
        refine reg_end (by kernel_rfl) ?_
        refine hKK _ _ ?_
        have TQ := Lib.hid (T1.out.call T hBw)
        have XQ := HX2.out.call T
        have RQ := HR2.out.call T
        clear T L0 L2 L3 L4
        generalize W1.drew = wq at TQ XQ RQ ⊢
        obtain ⟨_, eA, _, lq, cq, fq⟩ := item_at RQ HXX.out
        injection eA with eA
        injection eA with eA
        subst eA
        have q2 := XQ.c 2 _ rfl
        have q4 := cq 4 _ rfl
        rw [HV.out] at q4
        have HXQ := Lib.hid XQ
        have HRQ := Lib.hid RQ
        clear XQ RQ cq
        go_wp2_with fail
        go_ret2
        refine ⟨rfl, FIN.out _ x ?_ HXQ.out ?_, TQ.out⟩
        · unfold repU
          rw [if_neg HS.out]
        · rw [set_same HXX.out]
          exact HRQ.out
theorem qreply_any (o : s.Ok) (hBw : B ≤ w.heap.size) (r : QRep w B p s) :
    Calls Try.prog 16 #[.pointer (some ⟨p, 0, none⟩), .int .i64 a, .string key, .string rep] w (QRepRet B p s a key rep w) := by
  cases hf : fnd key s.its with
  | none =>
    refine (qreply_6 B p s a key rep w hf r).mono fun e w' ⟨h1, h2⟩ => ⟨by unfold repN repE; rw [hf]; exact h1, ?_, Turn.of_below h2 hBw⟩
    unfold repS
    rw [hf]
    exact r.call h2
  | some x =>
    by_cases h : okT s a
    · have n1 : ¬ ¬ okT s a := fun e => e h
      by_cases ht : 4000 < rep.size
      · refine (qreply_3 B p s a key rep w x hf h ht r).mono fun e w' ⟨h1, h2⟩ => ⟨by unfold repN repE; rw [hf]; simp only [if_neg n1, if_pos ht]; exact h1, ?_, Turn.of_below h2 hBw⟩
        unfold repS
        rw [hf]
        simp only [if_neg n1, if_pos ht]
        exact r.call h2
      · refine (qreply_at B p s a key rep w o x hf h ht hBw r).mono fun e w' ⟨h1, h2, h3⟩ => ⟨by unfold repN repE; rw [hf]; simp only [if_neg n1, if_neg ht]; exact h1, ?_, h3⟩
        unfold repS
        rw [hf]
        simp only [if_neg n1, if_neg ht]
        exact h2
    · refine (qreply_14 B p s a key rep w x hf h r).mono fun e w' ⟨h1, h2⟩ => ⟨by unfold repN repE; rw [hf]; simp only [if_pos h]; exact h1, ?_, Turn.of_below h2 hBw⟩
      unfold repS
      rw [hf]
      simp only [if_pos h]
      exact r.call h2
end
end Go.Proofs.Ytgacpkbpbckgiaa
