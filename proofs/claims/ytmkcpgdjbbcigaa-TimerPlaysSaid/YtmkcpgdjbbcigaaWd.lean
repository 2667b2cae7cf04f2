/-
  Timer: walk over slices.Insert where the row must grow; over insert. Condition: the state is one that the calls make.
-/
import Derived.Test.YtmkcpgdjbbcigaaWc
namespace Go.Proofs.Ytmkcpgdjbbcigaa
open Go.RowKit
set_option linter.unusedVariables false

/-- 'append(s[:i], make(S, k)...)', no room. -/
theorem append_zeros (B g c i n : Nat) (l : List Ti) (hl : l.length = n) (hi : i < n) (hn : n < 1000) (hroom : c < n + 1) (w : World) (hr : rowL w B 61 2 (some ⟨g, 0, none⟩) n c (l.flatMap tiC)) :
    ∃ C cur w2, (Builtin.append_ #[48, 3] 48 #[.slice (some ⟨g, 0, none⟩) i c, .int .i64 ((n + 1 - i : Nat) : Int)]).run Try.prog w = .ok (.slice (some ⟨w.heap.size, 0, none⟩) (n + 1) C) w2 ∧ n + 1 ≤ C ∧ C ≤ maxLen ∧ Blk w2 w.heap.size 61 cur ∧ C * 2 ≤ cur.size ∧ cur.toList.take (i * 2) = (l.flatMap tiC).take (i * 2) ∧ Below w.heap.size w w2 := by
  obtain ⟨info, hinf, hz0, hz1, hz2⟩ := info_parts entE.hi
  have hlen : (l.flatMap tiC).length = n * 2 := by rw [lenM tiC 2 tiC2, hl]
  have hhold : (Builtin.firstCells info.size i (.slice (some ⟨g, 0, none⟩) i c)).run Try.prog w.drew = .ok ((l.flatMap tiC).take (i * 2)).toArray w.drew := by
    refine run_firstCells_some w.drew info.size i ⟨g, 0, none⟩ i c _ (by rw [List.length_take, hlen, hz1]; omega) (fun j v hj => ?_)
    rw [List.getElem?_take] at hj
    split at hj
    · obtain ⟨g', e, _, _, hc, _⟩ := hr.cells (by omega)
      injection e with e
      injection e with e
      subst e
      rw [Addr.add_lit, Nat.zero_add]
      exact hc j v hj
    · cases hj
  have h := Lib.run_append_grow_zeros (P := Try.prog) w 48 3 48 61 info (.agg #[.string ⟨#[]⟩, .int .i64 0]) .i64 .i64 Try.underlying48 Try.underlying3 hinf hz0 (some ⟨g, 0, none⟩) i c _ hhold (n + 1 - i) (by omega) (by omega) (by omega) (by omega) (by rw [hz2]; omega) (by rw [hz2]; exact growslice_fits (by omega) (by omega))
  rw [show i + (n + 1 - i) = n + 1 by omega] at h
  have hge := grownCap_ge w (n + 1) c 61
  have hcm : grownCap w (n + 1) c 61 ≤ maxLen := grownCap_le_maxLen w (n + 1) c 61 (by unfold maxLen; omega)
  generalize grownCap w (n + 1) c 61 = C at h hge hcm
  obtain ⟨cur, hcur⟩ : ∃ cur, ((l.flatMap tiC).take (i * 2)).toArray ++ Builtin.zeroCells (Value.agg #[.string ⟨#[]⟩, .int .i64 0]).cells (n + 1 - i) ++ Builtin.zeroCells (Value.agg #[.string ⟨#[]⟩, .int .i64 0]).cells (C - (n + 1)) = cur := ⟨_, rfl⟩
  rw [hcur] at h
  refine ⟨C, cur, _, h, hge, hcm, heap_alloc_new w.drew _, ?_, ?_, ((Below.refl _ _).drew).alloc (Nat.le_refl _) _⟩
  · rw [← hcur]
    simp only [Array.size_append, size_zeroCells, List.size_toArray, List.length_take, hlen]
    have : (Value.agg #[.string ⟨#[]⟩, .int .i64 0]).cells.size = 2 := rfl
    rw [this]
    omega
  · rw [← hcur]
    simp only [Array.toList_append]
    rw [List.append_assoc, List.take_append_of_le_length (by rw [List.length_take, hlen]; omega), List.take_take, Nat.min_self]

set_option maxRecDepth 100000 in
set_option maxHeartbeats 1600000 in
/-- In the middle, without room. -/
theorem insert_grow (B : Nat) (g c i : Nat) (x : Ti) (l : List Ti) (hi : i < l.length) (hl : l.length < 1000) (hroom : c < l.length + 1) (v : Nat) (w : World) (hBw : B ≤ w.heap.size) (hr : rowL w B 61 2 (some ⟨g, 0, none⟩) l.length c (l.flatMap tiC)) (hv : Blk w v 61 #[.string x.id, .int .i64 x.at_]) :
    Calls Try.prog 42 #[.slice (some ⟨g, 0, none⟩) l.length c, .int .i64 i, .slice (some ⟨v, 0, none⟩) 1 1] w (InsRet B (some ⟨g, 0, none⟩) i x l w) := by
  obtain ⟨hnc, hcm⟩ := hr.len
  obtain ⟨C, cur, w2, hap, hC1, hC2, hB2, hcur, hpre, hb2⟩ := append_zeros B g c i l.length l rfl hi hl hroom w hr
  have HAP := Lib.hid hap
  have HR0 := Lib.hid hr
  have HR2 := Lib.hid (hr.call hb2)
  have HV2 := Lib.hid (hv.call hb2)
  have HB2 := Lib.hid hB2
  have HP := Lib.hid hpre
  have HC := Lib.hid hcur
  have Hb2 := Lib.hid hb2
  have hXl : (tiC x).length = 2 := rfl
  have i1 : (i : Int) ≤ l.length := by omega
  have i2 : (l.length : Int) ≤ c := by omega
  have i3 : ¬ (i : Int) = l.length := by omega
  have i4 : (c : Int) < (l.length : Int) + 1 := by omega
  have i6 : ¬ c = i := by omega
  have i7 : ¬ C = i + 1 := by omega
  have j7 : ¬ C = i := by omega
  have i8 : IntKind.i64.wrap ((i : Int) + 1) = i + 1 := IntWalk.i64_in _ (by omega)
  have i9 : (i : Int) + 1 ≤ (l.length : Int) + 1 := by omega
  have j1 : IntKind.i64.wrap ((l.length : Int) + 1) = l.length + 1 := IntWalk.i64_in _ (by omega)
  have j2 : ((i : Int) + 1).toNat = i + 1 := by omega
  have j4 : (0 : Int) ≤ (i : Int) + 1 := by omega
  have j6 : (i : Int) ≤ (l.length : Int) + 1 := by omega
  have j8 : IntKind.i64.wrap ((l.length : Int) + 1 - i) = ((l.length + 1 - i : Nat) : Int) := by rw [IntWalk.i64_in _ (by omega)]; omega
  have j9 : (i : Int) ≤ c := by omega
  have hC3 : (l.length : Int) + 1 ≤ C := by omega
  clear hr hv hB2 hpre hcur hap hb2
  generalize hG : w.heap.size = G at HAP HB2
  have HG := Lib.hid hG
  clear hG
  have X3 := setRow_heap w2 G cur (splice cur.toList (i * 2) (tiC x)).toArray 61 _ HB2.out
  have hcp := run_copyN (P := Try.prog) w2 48 48 3 61 2 G (i * 2) (l.length + 1 - i) (C - i) ⟨v, 0, none⟩ 1 1 cur 61 (tiC x) Try.underlying48 entZ HB2.out (by rw [hXl]; simp only [Nat.min_def]; split <;> omega) (fun j u hj => by rw [Addr.add_lit, Nat.zero_add]; exact HV2.out.c j u (by simpa [tiC] using hj)) (by rw [hXl]; have := HC.out; omega) (tiC_one x)
  have e3 : (List.take (i * 2) cur.toList ++ tiC x ++ List.drop (i * 2 + (tiC x).length) cur.toList).toArray = (splice cur.toList (i * 2) (tiC x)).toArray := by
    rw [List.append_assoc]
    rfl
  rw [e3] at hcp
  have G3 : w2.grownBy (w2.setRow G (splice cur.toList (i * 2) (tiC x)).toArray) (some G) := ⟨rfl, rfl, rfl, by simp [World.setRow], fun k hk hne => setRow_other w2 G k _ (fun e => hne (by rw [e]))⟩
  obtain ⟨w3, hw3⟩ : ∃ w3, w2.setRow G (splice cur.toList (i * 2) (tiC x)).toArray = w3 := ⟨_, rfl⟩
  rw [hw3] at hcp X3 G3
  have HX3 : Hid (Blk w3 G 61 (splice cur.toList (i * 2) (tiC x)).toArray) := Lib.hid X3
  have Hb3 : Hid (Below w.heap.size w w3) := Lib.hid (Hb2.out.grown G3 (by rw [HG.out]; exact Nat.le_of_lt HB2.out.lt) (fun k hk => by rw [HG.out]; injection hk with hk; omega))
  have HR3 : Hid (rowL w3 B 61 2 (some ⟨g, 0, none⟩) l.length c (l.flatMap tiC)) := Lib.hid (HR0.out.call Hb3.out)
  clear X3 G3 hw3 e3
  go_enter Try.func42, Try.ntmps42
  go_wp2_with (
     at_builtin
     go_must (refine Lib.wpList_append_run _ rfl _ _ _ _ rfl _ _ rfl rfl _ _ HAP.out ?_))
  rename_i K0 hKK
  have hDl : ((l.drop i).flatMap tiC).length = (l.length - i) * 2 := by rw [lenM tiC 2 tiC2, List.length_drop]
  have hLl : (l.flatMap tiC).length = l.length * 2 := lenM tiC 2 tiC2 l
  have hz2 : (splice cur.toList (i * 2) (tiC x)).toArray.size = cur.size := by
    unfold splice
    have := HC.out
    simp only [List.size_toArray, List.length_append, List.length_take, List.length_drop, hXl, Array.length_toList]
    omega
  refine wp_region_reg (fun x => w3.grownBy x (some G)) 9 rfl (by kernel_rfl) ?_
  have T : w3.grownBy w3.drew (some G) := ⟨rfl, rfl, rfl, Nat.le_refl _, fun _ _ _ => rfl⟩
  haveI : Nonempty (Cls (fun x => w3.grownBy x (some G))) := ⟨⟨_, T⟩⟩
  refine reg_seg (f := 1) (by kernel_rfl) [0, 1, 2, 3, 4, 5, 6, 7] _ _ _ T (by kernel_rfl) ?_
  simp only [pickL, List.filterMap_cons, List.filterMap_nil, List.getElem?_toArray, List.getElem?_cons_zero, List.getElem?_cons_succ]
  show wpQuiet _ _ _ _ [_, _, _, _, _, _, _, _] _
  repeat (go_big_quiet_step (fail))
  refine wpQuiet_nil ?_
  refine reg_call 8 _ (by kernel_rfl) rfl rfl ?_
  refine wp_copyN 2 (.tmp 50) (.tmp 53) 48 48 rfl 61 Try.underlying48 entZ _ _ _ _ _ _ rfl rfl G ((i + 1) * 2) (splice cur.toList (i * 2) (tiC x)).toArray 61 (show Blk w3.drew G 61 _ from HX3.out) ((l.drop i).flatMap tiC) ?_ (by decide) (fun _ => ⟨rfl, ⟨g, i * 2, none⟩, rfl, fun j u hj => ?_⟩) ?_ flat_one ?_
  · rw [hDl]
    congr 1
    simp only [Nat.min_def]
    split <;> omega
  · rw [Addr.add_lit]
    rw [← dropM tiC 2 tiC2, List.getElem?_drop] at hj
    obtain ⟨g', e, _, _, hc, _⟩ := HR3.out.cells (by omega)
    injection e with e
    injection e with e
    subst e
    exact hc _ _ hj
  · rw [hDl, hz2]
    have := HC.out
    omega
  intro w4 X4 hg4
  have G4 : w3.grownBy w4 (some G) := World.grownBy.trans T hg4
  have HX4 := Lib.hid X4
  have Hb4 : Hid (Below w.heap.size w w4) := Lib.hid (Hb3.out.grown G4 (by rw [HG.out]; exact Nat.le_of_lt HX3.out.lt) (fun k hk => by rw [HG.out]; injection hk with hk; omega))
  refine ⟨G4, ?_⟩
  clear X4 hg4 T
  generalize goInt ↑((l.length - i).min (l.length - i)) = r8
  go_simp
  refine reg_end (by kernel_rfl) ?_
  refine hKK _ _ ?_
  clear G4
  go_wp2_with fail
  go_ret
  have hz3 : (splice (splice cur.toList (i * 2) (tiC x)) ((i + 1) * 2) ((l.drop i).flatMap tiC)).toArray.size = cur.size := by
    have := HC.out
    have h2 := hz2
    rw [List.size_toArray] at h2
    show (List.take ((i + 1) * 2) (splice cur.toList (i * 2) (tiC x)) ++ (((l.drop i).flatMap tiC) ++ List.drop ((i + 1) * 2 + ((l.drop i).flatMap tiC).length) (splice cur.toList (i * 2) (tiC x)))).toArray.size = _
    simp only [List.size_toArray, List.length_append, List.length_take, List.length_drop, h2, hDl]
    omega
  have hin := ins_grow cur.toList (l.flatMap tiC) (tiC x) (i * 2) (l.length * 2) (by omega) hLl (by rw [hXl]; have := HC.out; have e : cur.toList.length = cur.size := rfl; omega) HP.out
  rw [hXl, show i * 2 + 2 = (i + 1) * 2 by omega, dropM tiC 2 tiC2, show l.length * 2 + 2 = (l.length + 1) * 2 by omega] at hin
  refine ⟨some ⟨G, 0, none⟩, C, rfl, ⟨?_, .inr ⟨G, _, rfl, by rw [← HG.out]; exact hBw, HX4.out, by omega, hC2, ?_, ?_⟩⟩, ⟨Hb4.out.os, Hb4.out.tape, Hb4.out.output, Hb4.out.size, fun k hk _ => Hb4.out.block k hk⟩⟩
  · rw [lenM tiC 2 tiC2]
    simp
    omega
  · rw [hz3]; exact HC.out
  · rw [ins_mid]
    show List.take _ (splice _ _ _) = _
    rw [hin, dropM tiC 2 tiC2]
end Go.Proofs.Ytmkcpgdjbbcigaa
