/-
  Timer: walks over the chapter's remove and put. Condition: the state is one that the calls make.
-/
import Derived.Test.YtmkcpgdjbbcigaaWq
namespace Go.Proofs.Ytmkcpgdjbbcigaa
open Go.RowKit
set_option linter.unusedVariables false

theorem entR : ElemT Try.prog 53 65 (.agg #[.string ⟨#[]⟩, .int .i64 0]) 2 24 := ⟨Try.underlying53, by kernel_rfl, rfl, by decide⟩
theorem take_one {l : List Ti} {k : Nat} : ∀ u ∈ (l.flatMap tiC).take k, u.oneCell' = true := fun u hu => flat_one u (List.mem_of_mem_take hu)
/-- The start of a row, read. -/
theorem RDn.take_ {w : World} {base : Nat} {e : TypeId} {size n c : Nat} {g : Nat} {xs : List Value} (h : rowL w base e size (some ⟨g, 0, none⟩) n c xs) {k : Nat} (hk : k ≤ n) : RDn w (some ⟨g, 0, none⟩) size k (xs.take (k * size)) := (h.to hk).rd
def RRemRet (B p : Nat) (s : TS) (i : Nat) (w : World) (e : Ending) (w' : World) : Prop :=
  e = .returned (.tuple #[]) ∧ RRep w' B p { s with ts := remT i 1 s.ts } ∧ Turn B [55] false w w'
set_option maxRecDepth 100000 in
set_option maxHeartbeats 1600000 in
theorem rremove_any (B p : Nat) (s : TS) (i : Nat) (hi : i < s.ts.length) (hl : s.ts.length < 1000) (w : World) (hBw : B ≤ w.heap.size) (r : RRep w B p s) :
    Calls Try.prog 39 #[.pointer (some ⟨p, 0, none⟩), .int .i64 i] w (RRemRet B p s i w) := by
  obtain ⟨hB, A, c, B0, hr⟩ := r
  obtain ⟨hnc, hcm⟩ := hr.len
  obtain ⟨g, rfl, _, _, _, _⟩ := hr.cells (by omega)
  have HR := Lib.hid hr
  have i1 : IntKind.i64.wrap ((i : Int) + 1) = i + 1 := IntWalk.i64_in _ (by omega)
  have i2 : (0 : Int) ≤ (i : Int) + 1 := by omega
  have i3 : ((i : Int) + 1).toNat = i + 1 := by omega
  have i4 : (i : Int) ≤ c := by omega
  have i5 : (i : Int) + 1 ≤ s.ts.length := by omega
  have L1 := fun n : Cls (UpC w) => (B0.call n.2).c0
  have HB0 := Lib.hid B0
  clear hr B0
  go_enter Try.func39, Try.ntmps39
  go_wp2_with fail
  refine wp_region_regE (UpC w) 20 19 rfl (by kernel_rfl) ?_
  have T : UpC w w.drew := (Below.refl _ _).drew
  haveI : Nonempty (Cls (UpC w)) := ⟨⟨_, T⟩⟩
  refine regE_seg (f := 6) (by kernel_rfl) [0, 2, 3, 4, 5, 6, 7, 9, 10, 11, 12, 13, 14, 15] _ _ _ T (by kernel_rfl) ?_
  simp only [pickL, List.filterMap_cons, List.filterMap_nil, List.getElem?_toArray, List.getElem?_cons_zero, List.getElem?_cons_succ]
  show wpQuiet _ _ _ _ [_, _, _, _, _, _, _, _, _, _, _, _, _, _] _
  repeat (go_big_quiet_step (fail))
  refine wpQuiet_nil ?_
  generalize hA2 : (if c = i + 1 then some (⟨g, 0, none⟩ : Addr) else some ⟨g, (i + 1) * 2, none⟩) = A2
  have A21 : Hid (i + 1 < s.ts.length → A2 = some ⟨g, (i + 1) * 2, none⟩) := Lib.hid (by intro h; rw [← hA2, if_neg (by omega)])
  have A22 : Hid (A2 = none → s.ts.length ≤ i + 1) := Lib.hid (by intro h; rw [← hA2] at h; split at h <;> cases h)
  clear hA2 L1
  refine regE_call 1 _ (by kernel_rfl) rfl rfl ?_
  go_simp
  have T : UpC w (w.alloc (.cells #[] 65)).drew := ((Below.refl _ _).alloc (Nat.le_refl _) _).drew
  have z1 := T.size
  have O1 := Lib.hid (show ((w.alloc (.cells #[] 65)).drew).ownsRow w.heap.size 65 2 _ 0 [] from own_empty w w.heap.size 65 2 (Nat.le_refl _))
  refine ⟨T, ?_⟩
  generalize (w.alloc (.cells #[] 65)).drew = x1 at T O1 z1 ⊢
  refine regE_call 8 _ (by kernel_rfl) rfl rfl ?_
  refine wp_concatR entR (.tmp 5) (.tmp 11) rfl rfl rfl O1.out (RDn.take_ (HR.out.call T) (k := i) (by omega)) take_one (by unfold maxLen; omega) (by omega) z1 ?_
  intro v2 x2 o2 hg2 _
  have T2 : UpC w x2 := Below.grown T hg2 z1 (fun q hq => (O1.out.lt q hq).1)
  have z2 := T2.size
  have O2 := Lib.hid o2
  clear T O1 hg2 o2 z1
  refine ⟨T2, ?_⟩
  refine regE_call 16 _ (by kernel_rfl) rfl rfl ?_
  refine wp_concatR entR (.tmp 12) (.tmp 19) rfl rfl rfl O2.out (rowL.drop (HR.out.call T2) A21.out A22.out) drop_one (by unfold maxLen; omega) (by omega) z2 ?_
  intro v3 x3 o3 hg3 _
  have T3 : UpC w x3 := Below.grown T2 hg3 z2 (fun q hq => (O2.out.lt q hq).1)
  have O3 := Lib.hid o3
  clear T2 O2 hg3 o3 z2
  obtain ⟨A3, c3, rfl⟩ := own_slice O3.out
  have B3 := HB0.out.call T3
  have e1 := B3.c0
  have f3 := B3.frozen
  have l3 := B3.lt
  have T := T3
  refine ⟨T3, ?_⟩
  go_simp
  refine regE_call 17 _ (by kernel_rfl) rfl rfl ?_
  go_simp
  refine regE_call 18 _ (by kernel_rfl) rfl rfl ?_
  go_simp
  refine regE_last _ (by kernel_rfl) rfl rfl ?_
  go_simp
  refine regE_end (by kernel_rfl) ?_
  go_end0
  have hcc : (remT i 1 s.ts).flatMap tiC = (s.ts.flatMap tiC).take (i * 2) ++ (s.ts.flatMap tiC).drop ((i + 1) * 2) := by
    unfold remT
    rw [List.flatMap_append, takeM tiC 2 tiC2, dropM tiC 2 tiC2]
  have hcl := remT_len (i := i) (m := 1) (l := s.ts) (by omega)
  refine ⟨rfl, ⟨hB, A3, c3, ?_, ?_⟩, (Turn.of_below T3 hBw).setB B3 rfl hB 0 _⟩
  · show Blk _ p 55 #[.slice A3 (remT i 1 s.ts).length c3, .int .i64 s.now]
    rw [hcl]
    simpa using B3.s0 (.slice A3 (i + (s.ts.length - (i + 1))) c3)
  · show rowL _ B 65 2 A3 (remT i 1 s.ts).length c3 ((remT i 1 s.ts).flatMap tiC)
    rw [hcl, hcc]
    have o4 := (rowL.of_own O3.out).mono hBw
    have o5 := o4.far B3 (by decide) 0 (.slice A3 (i + (s.ts.length - (i + 1))) c3)
    simpa using o5
end Go.Proofs.Ytmkcpgdjbbcigaa
