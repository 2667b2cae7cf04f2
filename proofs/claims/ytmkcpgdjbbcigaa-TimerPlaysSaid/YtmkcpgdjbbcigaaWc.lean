/-
  Timer: walk over slices.Insert. Condition: the state is one that the calls make.
-/
import Derived.Test.YtmkcpgdjbbcigaaWb
namespace Go.Proofs.Ytmkcpgdjbbcigaa
open Go.RowKit
set_option linter.unusedVariables false

def InsRet (B : Nat) (A : Option Addr) (i : Nat) (x : Ti) (l : List Ti) (w : World) (e : Ending) (w' : World) : Prop :=
  ∃ A2 c2, e = .returned (.slice A2 (l.length + 1) c2) ∧ rowL w' B 61 2 A2 (l.length + 1) c2 ((l.take i ++ x :: l.drop i).flatMap tiC) ∧ w.grownBy w' (blkOf A)
theorem ins_end (x : Ti) (l : List Ti) : (l.take l.length ++ x :: l.drop l.length).flatMap tiC = l.flatMap tiC ++ tiC x := by simp
theorem ins_mid (x : Ti) (l : List Ti) (i : Nat) : (l.take i ++ x :: l.drop i).flatMap tiC = (l.flatMap tiC).take (i * 2) ++ tiC x ++ (l.flatMap tiC).drop (i * 2) := by
  rw [List.flatMap_append, List.flatMap_cons, takeM tiC 2 tiC2, dropM tiC 2 tiC2, List.append_assoc]

set_option maxRecDepth 100000 in
set_option maxHeartbeats 1600000 in
/-- At the end. -/
theorem insert_end (B : Nat) (A : Option Addr) (c : Nat) (x : Ti) (l : List Ti) (hl : l.length < 1000) (v : Nat) (w : World) (hBw : B ≤ w.heap.size) (hr : rowL w B 61 2 A l.length c (l.flatMap tiC)) (hv : Blk w v 61 #[.string x.id, .int .i64 x.at_]) :
    Calls Try.prog 42 #[.slice A l.length c, .int .i64 l.length, .slice (some ⟨v, 0, none⟩) 1 1] w (InsRet B A l.length x l w) := by
  obtain ⟨hnc, hcm⟩ := hr.len
  have HR := Lib.hid hr
  have HV := Lib.hid (RDn.of_box hv)
  have hE := ins_end x l
  have HE := Lib.hid hE
  have i1 : (l.length : Int) ≤ c := by omega
  clear hr hv hE
  cases A with
  | none =>
    go_enter Try.func42, Try.ntmps42
    go_wp2_with (
       at_builtin
       go_must (refine wpList_appL entE _ _ rfl rfl (m := 1) (c' := 1) (ys := tiC x) rfl rfl HR.out HV.out (tiC_one x) (by unfold maxLen; omega) (by omega) hBw ?_)
       intro A2 c2 w2 hr2 hg2 hor
       have R2 := Lib.hid hr2
       have T2 := Lib.hid hg2
       clear hr2 hg2 hor)
    go_ret
    exact ⟨A2, c2, rfl, by rw [HE.out]; exact R2.out, T2.out⟩
  | some a =>
    by_cases hcl : c = l.length
    · subst hcl
      go_enter Try.func42, Try.ntmps42
      go_wp2_with (
         at_builtin
         go_must (refine wpList_appL entE _ _ rfl rfl (m := 1) (c' := 1) (ys := tiC x) rfl rfl HR.out HV.out (tiC_one x) (by unfold maxLen; omega) (by omega) hBw ?_)
         intro A2 c2 w2 hr2 hg2 hor
         have R2 := Lib.hid hr2
         have T2 := Lib.hid hg2
         clear hr2 hg2 hor)
      go_ret
      exact ⟨A2, c2, rfl, by rw [HE.out]; exact R2.out, T2.out⟩
    · skip
      go_enter Try.func42, Try.ntmps42
      go_wp2_with (
         at_builtin
         go_must (refine wpList_appL entE _ _ rfl rfl (m := 1) (c' := 1) (ys := tiC x) rfl rfl HR.out HV.out (tiC_one x) (by unfold maxLen; omega) (by omega) hBw ?_)
         intro A2 c2 w2 hr2 hg2 hor
         have R2 := Lib.hid hr2
         have T2 := Lib.hid hg2
         clear hr2 hg2 hor)
      go_ret
      exact ⟨A2, c2, rfl, by rw [HE.out]; exact R2.out, T2.out⟩

theorem entZ : (Try.prog.info? 61).map (·.size) = some 2 := by kernel_rfl
set_option maxRecDepth 100000 in
set_option maxHeartbeats 1600000 in
/-- In the middle, with room. -/
theorem insert_room (B : Nat) (g c i : Nat) (x : Ti) (l : List Ti) (hi : i < l.length) (hl : l.length < 1000) (hroom : l.length + 1 ≤ c) (v : Nat) (hvg : v ≠ g) (w : World) (hBw : B ≤ w.heap.size) (hr : rowL w B 61 2 (some ⟨g, 0, none⟩) l.length c (l.flatMap tiC)) (hv : Blk w v 61 #[.string x.id, .int .i64 x.at_]) :
    Calls Try.prog 42 #[.slice (some ⟨g, 0, none⟩) l.length c, .int .i64 i, .slice (some ⟨v, 0, none⟩) 1 1] w (InsRet B (some ⟨g, 0, none⟩) i x l w) := by
  obtain ⟨hnc, hcm⟩ := hr.len
  obtain ⟨cur, hB0, hcur, hpre⟩ : ∃ cur, Blk w g 61 cur ∧ c * 2 ≤ cur.size ∧ cur.toList.take (l.length * 2) = l.flatMap tiC := by
    rcases hr.2 with ⟨h0, _⟩ | ⟨g', cur, e1, hb, hh, _, hm, hcs, hx⟩
    · cases h0
    · injection e1 with e1
      injection e1 with e1
      subst e1
      exact ⟨cur, hh, hcs, hx⟩
  have hov : ∀ lb cb, (callFunc 44 #[.slice (some ⟨v, 0, none⟩) 1 1, .slice (some ⟨g, (i + 1) * 2, none⟩) lb cb]).run Try.prog w = .ok (.value (.bool false)) w := fun lb cb => by
    rw [run_callFunc_extern Try.func44 (by kernel_rfl) (by kernel_rfl) (by kernel_rfl) (e := Extern.SlicesOverlaps.overlaps #[48, 48] #[4]) (by kernel_rfl),
      Lib.run_overlaps_apart w 48 4 61 Try.underlying48 2 (fun w => by kernel_rfl) ⟨v, 0, none⟩ ⟨g, (i + 1) * 2, none⟩ 1 1 lb cb hvg 61 61 2 cur.size (by have := hv; unfold Blk at this; simp [World.shape?, this]) (by have := hB0; unfold Blk at this; simp [World.shape?, this]) (by omega) (hv.frozen 0) (hv.frozen 2)]
    rfl
  have HV := Lib.hid hv
  have HB0 := Lib.hid hB0
  have HR := Lib.hid hr
  have HP := Lib.hid hpre
  have HC := Lib.hid hcur
  have i1 : (i : Int) ≤ l.length := by omega
  have i2 : (l.length : Int) ≤ c := by omega
  have i3 : ¬ (i : Int) = l.length := by omega
  have i4 : ¬ (c : Int) < (l.length : Int) + 1 := by omega
  have i5 : (l.length : Int) + 1 ≤ c := by omega
  have i6 : ¬ c = i := by omega
  have i7 : ¬ c = i + 1 := by omega
  have i8 : IntKind.i64.wrap ((i : Int) + 1) = i + 1 := IntWalk.i64_in _ (by omega)
  have i9 : (i : Int) + 1 ≤ (l.length : Int) + 1 := by omega
  have w1 : IntKind.i64.wrap ((l.length : Int) + 1) = l.length + 1 := IntWalk.i64_in _ (by omega)
  have w2 : ((i : Int) + 1).toNat = i + 1 := by omega
  have w3 : ((l.length : Int) + 1).toNat = l.length + 1 := by omega
  have w4 : (0 : Int) ≤ (i : Int) + 1 := by omega
  have w5 : (0 : Int) ≤ (l.length : Int) + 1 := by omega
  have w6 : (i : Int) ≤ (l.length : Int) + 1 := by omega
  clear hr hv hB0 hpre hcur
  go_enter Try.func42, Try.ntmps42
  go_wp2_with (simp only [hov])
  rename_i K0 hKK
  refine wp_region_reg (fun x => w.grownBy x (some g)) 9 rfl (by kernel_rfl) ?_
  have T : w.grownBy w.drew (some g) := ⟨rfl, rfl, rfl, Nat.le_refl _, fun _ _ _ => rfl⟩
  haveI : Nonempty (Cls (fun x => w.grownBy x (some g))) := ⟨⟨_, T⟩⟩
  refine reg_seg (f := 1) (by kernel_rfl) [0, 1, 2, 3, 4, 5, 6, 7] _ _ _ T (by kernel_rfl) ?_
  simp only [pickL, List.filterMap_cons, List.filterMap_nil, List.getElem?_toArray, List.getElem?_cons_zero, List.getElem?_cons_succ]
  show wpQuiet _ _ _ _ [_, _, _, _, _, _, _, _] _
  repeat (go_big_quiet_step (fail))
  refine wpQuiet_nil ?_
  have hDl : ((l.drop i).flatMap tiC).length = (l.length - i) * 2 := by rw [lenM tiC 2 tiC2, List.length_drop]
  refine reg_call 8 _ (by kernel_rfl) rfl rfl ?_
  refine wp_copyN 2 (.tmp 73) (.tmp 76) 48 48 rfl 61 Try.underlying48 entZ _ _ _ _ _ _ rfl rfl g ((i + 1) * 2) cur 61 (show Blk w.drew g 61 cur from HB0.out) ((l.drop i).flatMap tiC) ?_ (by decide) (fun _ => ⟨rfl, ⟨g, i * 2, none⟩, rfl, fun j u hj => ?_⟩) ?_ flat_one ?_
  · rw [hDl]
    congr 1
    simp only [Nat.min_def]
    split <;> omega
  · rw [Addr.add_lit]
    refine HB0.out.c (i * 2 + j) u ?_
    rw [← dropM tiC 2 tiC2, List.getElem?_drop, ← HP.out, List.getElem?_take] at hj
    split at hj
    · simpa using hj
    · cases hj
  · rw [hDl]
    have := HC.out
    omega
  intro w2 X2 hg2
  have G2 : w.grownBy w2 (some g) := World.grownBy.trans T hg2
  have V2 := Lib.hid (HV.out.grown G2 (by simpa using hvg))
  have HX2 := Lib.hid X2
  have HG2 := Lib.hid G2
  refine ⟨G2, ?_⟩
  clear X2 hg2 T hov
  generalize goInt ↑((l.length + 1 - i).min (l.length - i)) = r8
  go_simp
  refine reg_end (by kernel_rfl) ?_
  refine hKK _ _ ?_
  have hXl : (tiC x).length = 2 := rfl
  have hz2 : ((splice cur.toList ((i + 1) * 2) ((l.drop i).flatMap tiC)).toArray).size = cur.size := by
    unfold splice
    have := HC.out
    simp only [List.size_toArray, List.length_append, List.length_take, List.length_drop, hDl, Array.length_toList]
    omega
  clear G2
  have hcp := run_copyN (P := Try.prog) w2 48 48 3 61 2 g (i * 2) (l.length + 1 - i) (c - i) ⟨v, 0, none⟩ 1 1 (splice cur.toList ((i + 1) * 2) ((l.drop i).flatMap tiC)).toArray 61 (tiC x) Try.underlying48 entZ HX2.out (by rw [hXl]; simp only [Nat.min_def]; split <;> omega) (fun j u hj => by rw [Addr.add_lit, Nat.zero_add]; exact V2.out.c j u (by simpa [tiC] using hj)) (by rw [hXl, hz2]; have := HC.out; omega) (tiC_one x)
  have X3 := setRow_heap w2 g (splice cur.toList ((i + 1) * 2) ((l.drop i).flatMap tiC)).toArray (splice (splice cur.toList ((i + 1) * 2) ((l.drop i).flatMap tiC)) (i * 2) (tiC x)).toArray 61 _ HX2.out
  have G3 : w2.grownBy (w2.setRow g (splice (splice cur.toList ((i + 1) * 2) ((l.drop i).flatMap tiC)) (i * 2) (tiC x)).toArray) (some g) := ⟨rfl, rfl, rfl, by simp [World.setRow], fun k hk hne => setRow_other w2 g k _ (fun e => hne (by rw [e]))⟩
  have e3 : (List.take (i * 2) (splice cur.toList ((i + 1) * 2) ((l.drop i).flatMap tiC)).toArray.toList ++ tiC x ++ List.drop (i * 2 + (tiC x).length) (splice cur.toList ((i + 1) * 2) ((l.drop i).flatMap tiC)).toArray.toList).toArray = (splice (splice cur.toList ((i + 1) * 2) ((l.drop i).flatMap tiC)) (i * 2) (tiC x)).toArray := by
    rw [List.append_assoc]
    rfl
  rw [e3] at hcp
  obtain ⟨w3, hw3⟩ : ∃ w3, w2.setRow g (splice (splice cur.toList ((i + 1) * 2) ((l.drop i).flatMap tiC)) (i * 2) (tiC x)).toArray = w3 := ⟨_, rfl⟩
  rw [hw3] at hcp X3 G3
  have HX3 : Hid (Blk w3 g 61 (splice (splice cur.toList ((i + 1) * 2) ((l.drop i).flatMap tiC)) (i * 2) (tiC x)).toArray) := Lib.hid X3
  have HG3 := Lib.hid (World.grownBy.trans HG2.out G3)
  clear X3 G3 hw3 e3
  go_wp2_with fail
  go_ret
  have hz3 : (splice (splice cur.toList ((i + 1) * 2) ((l.drop i).flatMap tiC)) (i * 2) (tiC x)).toArray.size = cur.size := by
    have := HC.out
    have h2 := hz2
    rw [List.size_toArray] at h2
    show (List.take (i * 2) (splice cur.toList ((i + 1) * 2) ((l.drop i).flatMap tiC)) ++ (tiC x ++ List.drop (i * 2 + (tiC x).length) (splice cur.toList ((i + 1) * 2) ((l.drop i).flatMap tiC)))).toArray.size = _
    simp only [List.size_toArray, List.length_append, List.length_take, List.length_drop, h2, hXl]
    omega
  have hLl : (l.flatMap tiC).length = l.length * 2 := lenM tiC 2 tiC2 l
  have hin := ins_room cur.toList (tiC x) (i * 2) (l.length * 2) (by omega) (by rw [hXl]; have := HC.out; have e : cur.toList.length = cur.size := rfl; omega)
  rw [HP.out, hXl, show i * 2 + 2 = (i + 1) * 2 by omega, dropM tiC 2 tiC2, ← dropM tiC 2 tiC2, show l.length * 2 + 2 = (l.length + 1) * 2 by omega] at hin
  have hbg : B ≤ g := by
    obtain ⟨g', e, hb, _⟩ := HR.out.cells (by omega)
    injection e with e
    injection e with e
    omega
  refine ⟨some ⟨g, 0, none⟩, c, rfl, ⟨?_, .inr ⟨g, _, rfl, hbg, HX3.out, hroom, by unfold maxLen; omega, ?_, ?_⟩⟩, HG3.out⟩
  · rw [lenM tiC 2 tiC2]
    simp
    omega
  · rw [hz3]; exact HC.out
  · rw [ins_mid]
    rw [dropM tiC 2 tiC2] at hin
    show List.take _ (splice _ _ _) = _
    rw [hin, dropM tiC 2 tiC2]
end Go.Proofs.Ytmkcpgdjbbcigaa
