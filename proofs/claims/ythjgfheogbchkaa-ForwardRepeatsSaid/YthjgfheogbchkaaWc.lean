/-
  Forward: walks over Ack and Hold. Condition: the state is one that the calls make.
-/
import Derived.Test.YthjgfheogbchkaaWb
import Derived.Test.YthjgfheogbchkaaPlanE
namespace Go.Proofs.Ythjgfheogbchkaa
open Go.RowKit
set_option linter.unusedVariables false

section
variable {P : Program} {w : World} {base : Nat} {e : TypeId} {size n c : Nat} {A : Option Addr} {xs : List Value} {t : TypeId} {z : Value} {bytes : Nat}
theorem wp_appL (E : ElemT P t e z size bytes) {o : Oper} {a : Act} {K : Act → World → Prop} {Q : Exit → Act → World → Prop} (s x : Operand)
    (ho : o.op = .call { callee := .builtin .append, args := #[s, x], argTypes := #[t, t] })
    {m c' : Nat} {ys : List Value} {A' : Option Addr} (hs : a.eval s = .slice A n c) (hx : a.eval x = .slice A' m c') (h : rowL w base e size A n c xs) (hsrc : Proofs.Ythjgfheogbchkaa.RDn w A' size m ys)
    (h1 : ∀ u ∈ ys, u.oneCell' = true) (h63 : n + m ≤ maxLen) (hbytes : (n + m) * bytes ≤ 140737488355328) (hbase : base ≤ w.heap.size)
    (hK : ∀ A2 c2 w', rowL w' base e size A2 (n + m) c2 (xs ++ ys) → w.grownBy w' (blkOf A) → (A2 = A ∨ A2 = some ⟨w.heap.size, 0, none⟩) → K (a.put o.dst (.slice A2 (n + m) c2)) w') : o.wp P a w K Q := by
  obtain ⟨A2, c2, w', hrun, h2, h3, h4⟩ := run_appL (c' := c') E o.type h hsrc h1 h63 hbytes hbase
  unfold Oper.wp execOp
  simp only [ho, resolve, invoke, builtin, Sem.run_bind, Sem.run_pure, Result.andThen_ok, List.map_toArray, List.map_cons, List.map_nil, hs, hx, hrun]
  exact hK A2 c2 w' h2 h3 h4
end
theorem enC_one (x : En) : ∀ u ∈ enC x, u.oneCell' = true := by
  intro u hu
  simp [enC] at hu
  rcases hu with rfl | rfl | rfl | rfl <;> rfl
theorem flat_one {l : List En} : ∀ u ∈ l.flatMap enC, u.oneCell' = true := by
  intro u hu
  obtain ⟨x, _, hx⟩ := List.mem_flatMap.1 hu
  exact enC_one x u hx
theorem drop_one {l : List En} {k : Nat} : ∀ u ∈ (l.flatMap enC).drop k, u.oneCell' = true := fun u hu => flat_one u (List.mem_of_mem_drop hu)

theorem ack_none (B p : Nat) (q : FQ) (key : ByteArray) (hf : findK key q.ws = none) (w : World) (r : FRep w B p q) :
    Calls Try.prog 9 #[.pointer (some ⟨p, 0, none⟩), .string key] w fun e w' => e = .returned (.int .i64 6) ∧ Below w.heap.size w w' := by
  have HF := find_any B p q key w r
  rw [hf] at HF
  replace HF := Lib.hid HF
  go_enter Try.func9, Try.ntmps9
  go_wp2_with (go_at_call 15; refine HF.out.mono ?_; rintro e w' ⟨rfl, hb⟩; rw [show idxI none = -1 from rfl])
  go_ret
  exact ⟨rfl, hb⟩

def AckRet (B p : Nat) (q : FQ) (i : Nat) (w : World) (e : Ending) (w' : World) : Prop :=
  e = .returned (.int .i64 0) ∧ FRep w' B p { q with ws := q.ws.take i ++ q.ws.drop (i + 1) } ∧ Turn B [43, 46] true w w'
set_option maxHeartbeats 1600000 in
theorem ack_ok (B p : Nat) (q : FQ) (key : ByteArray) (i : Nat) (hf : findK key q.ws = some i) (hlen : q.ws.length ≤ 1000) (w : World) (hBw : B ≤ w.heap.size) (r : FRep w B p q) :
    Calls Try.prog 9 #[.pointer (some ⟨p, 0, none⟩), .string key] w (AckRet B p q i w) := by
  have HF := find_any B p q key w r
  rw [hf] at HF
  replace HF := Lib.hid HF
  have hi := findK_lt hf
  obtain ⟨hB, mb, A, c, B0, hmb, hm, hr⟩ := r
  have HM1 := Lib.hid hm
  have HR := Lib.hid hr
  obtain ⟨hnc, hcm⟩ := hr.len
  obtain ⟨g, rfl, _, _, _, _⟩ := hr.cells (by omega)
  clear hr hm
  go_enter Try.func9, Try.ntmps9
  go_wp2_with (
     go_at_call 15
     refine HF.out.mono ?_
     rintro e w1 ⟨rfl, hb⟩
     rw [show idxI (some i) = (i : Int) from rfl]
     have B1 := B0.call hb
     have R1 := Lib.hid (HR.out.call hb)
     have M1 := Lib.hid (HM1.out.call hb)
     have T1 := Lib.hid (Turn.of_below (T := [43, 46]) (m := true) hb hBw)
     have z1 := hb.size)
  have i1 : IntKind.i64.wrap ((i : Int) + 1) = i + 1 := IntWalk.i64_in _ (by omega)
  have i2 : (0 : Int) ≤ (i : Int) + 1 := by omega
  have i3 : ((i : Int) + 1).toNat = i + 1 := by omega
  have i4 : (i : Int) ≤ c := by omega
  have i5 : (i : Int) + 1 ≤ q.ws.length := by omega
  have L1 := fun n : Cls (fun x => Turn B [46] false w1 x) => blk3_c2 (B1.turn n.2 rfl)
  have hBw1 : B ≤ w1.heap.size := by omega
  refine wp_region_regE (fun x => Turn B [46] false w1 x) 19 18 rfl (by kernel_rfl) ?_
  have T : Turn B [46] false w1 w1.drew := (Turn.refl _ _ _ _).drew
  haveI : Nonempty (Cls (fun x => Turn B [46] false w1 x)) := ⟨⟨_, T⟩⟩
  refine regE_seg (f := 4) (by kernel_rfl) [0, 1, 2, 3, 4, 5, 6, 7, 8, 9, 10, 11, 12, 13, 14] _ _ _ T (by kernel_rfl) ?_
  simp only [pickL, List.filterMap_cons, List.filterMap_nil, List.getElem?_toArray, List.getElem?_cons_zero, List.getElem?_cons_succ]
  show wpQuiet _ _ _ _ [_, _, _, _, _, _, _, _, _, _, _, _, _, _, _] _
  repeat (go_big_quiet_step (fail))
  refine wpQuiet_nil ?_
  generalize hA2 : (if c = i + 1 then some (⟨g, 0, none⟩ : Addr) else some ⟨g, (i + 1) * 4, none⟩) = A2
  have A21 : Hid (i + 1 < q.ws.length → A2 = some ⟨g, (i + 1) * 4, none⟩) := Lib.hid (by intro h; rw [← hA2, if_neg (by omega)])
  have A22 : Hid (A2 = none → q.ws.length ≤ i + 1) := Lib.hid (by intro h; rw [← hA2] at h; split at h <;> cases h)
  clear hA2 L1
  rename_i K0 hKK
  have RC : rowL w1.drew B 46 4 (some ⟨g, 0, none⟩) i i ((q.ws.flatMap enC).take (i * 4)) := by
    have := R1.out.cut (k := i) (by omega)
    rw [if_neg (by simp)] at this
    exact this
  refine regE_call 15 _ (by kernel_rfl) rfl rfl ?_
  refine wp_appL entE (.tmp 20) (.tmp 27) rfl rfl rfl RC (R1.out.drop A21.out A22.out) drop_one (by unfold maxLen; omega) (by omega) hBw1 ?_
  intro A3 c3 x2 hr2 hg2 _
  have T2 : Turn B [46] false w1 x2 := T.grownL RC hg2 rfl hBw1
  have B2 := B1.turn T2 rfl
  have e2 := blk3_c2 B2
  have f2 := B2.frozen
  have l2 := B2.lt
  have R2 := Lib.hid hr2
  have M2 := Lib.hid (M1.out.turn T2)
  clear RC hr2 hg2 T
  have T := T2
  refine ⟨T2, ?_⟩
  go_simp
  refine regE_call 16 _ (by kernel_rfl) rfl rfl ?_
  go_simp
  refine regE_call 17 _ (by kernel_rfl) rfl rfl ?_
  go_simp
  refine regE_last _ (by kernel_rfl) rfl rfl ?_
  go_simp
  refine regE_end (by kernel_rfl) ?_
  refine hKK _ _ ?_
  have HT := Lib.hid T2
  clear T T2
  go_wp2_with fail
  go_ret
  have e : (q.ws.take i ++ q.ws.drop (i + 1)).length = i + (q.ws.length - (i + 1)) := by simp; omega
  refine ⟨rfl, ⟨hB, mb, A3, c3, ?_, hmb, M2.out.set_ B2 2 _, ?_⟩, (T1.out.trans (HT.out.mono (Nat.le_refl _) (fun t ht => by simp at ht ⊢; exact .inr ht) (fun h => by cases h))).setB B2 rfl hB 2 _⟩
  · rw [e]
    exact blk3_set2 B2 _
  · rw [e, List.flatMap_append, ← takeM enC 4 enC4, ← dropM enC 4 enC4]
    exact R2.out.far B2 (by decide) 2 _
end Go.Proofs.Ythjgfheogbchkaa
