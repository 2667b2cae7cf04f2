/-
  Forward: walk over Poll. Condition: the state is one that the calls make.
-/
import Derived.Test.YthjgfheogbchkaaWd
namespace Go.Proofs.Ythjgfheogbchkaa
open Go.RowKit
set_option linter.unusedVariables false

/-- Behind a turn, one that leaves all the first world's blocks alone. -/
theorem Turn.above {B : Nat} {T T' : List TypeId} {m m' : Bool} {a b c : World} (h : Turn B T m a b) (k : Turn a.heap.size T' m' b c) (hB : B ≤ a.heap.size) : Turn B T m a c :=
  ⟨k.os.trans h.os, k.tape.trans h.tape, k.output.trans h.output, Nat.le_trans h.size k.size, fun i hi => (k.low i (by omega)).trans (h.low i hi),
    fun i cs t fr hi ht => (k.low i (Array.getElem?_eq_some_iff.1 hi).1).trans (h.far i cs t fr hi ht), fun hm i es c hi => (k.low i (Array.getElem?_eq_some_iff.1 hi).1).trans (h.map hm i es c hi)⟩
theorem itE : ElemT Try.prog 29 32 (.agg #[.string ⟨#[]⟩, .string ⟨#[]⟩, .int .i64 0]) 3 40 := ⟨Try.underlying29, by kernel_rfl, rfl, by decide⟩
theorem itC_one (x : It) : ∀ u ∈ itC x, u.oneCell' = true := by
  intro u hu
  simp [itC] at hu
  rcases hu with rfl | rfl | rfl <;> rfl

/-- A row cut to its length. -/
theorem rowL.full {w : World} {base : Nat} {e : TypeId} {size n c : Nat} {A : Option Addr} {xs : List Value} (h : rowL w base e size A n c xs) : rowL w base e size A n n xs := by
  refine ⟨h.1, ?_⟩
  rcases h.2 with ⟨h1, h2, h3⟩ | ⟨g, cur, h1, h2, h3, h4, h5, h6, h7⟩
  · exact .inl ⟨h1, h2, h2⟩
  · have : n * size ≤ c * size := Nat.mul_le_mul_right _ h4
    exact .inr ⟨g, cur, h1, h2, h3, Nat.le_refl _, by omega, by omega, h7⟩
/-- A store into another row. -/
theorem rowL.setR {w : World} {base base' : Nat} {e e' : TypeId} {size size' n n' c c' g : Nat} {A : Option Addr} {xs ys : List Value} (h : rowL w base e size A n c xs) (hr : rowL w base' e' size' (some ⟨g, 0, none⟩) n' c' ys) (hne : e ≠ e') (j : Nat) (u : Value) : rowL (w.setCell ⟨g, j, none⟩ u) base e size A n c xs := by
  rcases hr.2 with ⟨h', _⟩ | ⟨g', cur, h', hbg, hh, _⟩
  · cases h'
  · injection h' with h'
    injection h' with h'
    subst h'
    exact h.far hh hne j u
/-- A queue whose numbers are small. -/
def FQ.Ok (q : FQ) : Prop := 1 ≤ q.retry ∧ q.retry ≤ 100000 ∧ q.ws.length ≤ 256 ∧ ∀ x ∈ q.ws, 0 ≤ x.tries ∧ x.tries ≤ 1000000
def PollRet (B p : Nat) (q : FQ) (at_ : Int) (w : World) (e : Ending) (w' : World) : Prop :=
  ∃ A2 c2, e = .returned (.slice A2 (pollI at_ q.ws).length c2) ∧ rowL w' w.heap.size 32 3 A2 (pollI at_ q.ws).length c2 ((pollI at_ q.ws).flatMap itC) ∧ FRep w' B p { q with ws := pollW at_ q.retry q.ws } ∧ Turn B [43, 46] true w w'

set_option maxRecDepth 100000 in
set_option maxHeartbeats 3200000 in
theorem poll_any (B p : Nat) (q : FQ) (o : q.Ok) (at_ : Int) (ht : isT at_) (w : World) (hBw : B ≤ w.heap.size) (r : FRep w B p q) :
    Calls Try.prog 10 #[.pointer (some ⟨p, 0, none⟩), .int .i64 at_] w (PollRet B p q at_ w) := by
  obtain ⟨o1, o2, o3, o4⟩ := o
  obtain ⟨hB, mb, A, c, B0, hmb, hm, hr⟩ := r
  have HM1 := Lib.hid hm
  have HR := Lib.hid hr
  have H4 := Lib.hid o4
  have c2 := blk3_c2 B0
  obtain ⟨hnc, hcm⟩ := hr.len
  have hd : decide (isT at_) = true := decide_eq_true ht
  obtain ⟨t1, t2⟩ := ht
  clear hr hm o4
  go_enter Try.func10, Try.ntmps10
  go_wp2_with (go_at_call 14; refine (isTime_any at_ _).mono ?_; rintro e w' ⟨rfl, rfl⟩; rw [hd])
  go_loopw [5, 21] (fun s i wr => ∃ k A2 c2, k ≤ q.ws.length ∧ i = .int .i64 (k : Nat) ∧ s = .slice A2 (pollI at_ (q.ws.take k)).length c2 ∧ rowL wr w.heap.size 32 3 A2 (pollI at_ (q.ws.take k)).length c2 ((pollI at_ (q.ws.take k)).flatMap itC) ∧
      Blk wr p 43 #[.int .i64 q.retry, .map (some mb), .slice A q.ws.length c] ∧ HM Try.prog 9 wr mb q.kn.length (fun s => if s ∈ q.kn then some (.bool true) else none) ∧ rowL wr B 46 4 A q.ws.length c ((midW at_ q.retry q.ws k).flatMap enC) ∧ Turn B [43, 46] true w wr) (fun _ i _ => q.ws.length - (intOf i).toNat)
  case atStart => exact ⟨0, none, 0, by omega, rfl, rfl, rowL.nil _ _ _ _, B0, HM1.out, by rw [midW_zero]; exact HR.out, Turn.refl _ _ _ _⟩
  case round =>
    obtain ⟨k, A2, C2, hk, rfl, rfl, hrow, B1, hm1, hr1, hT1⟩ := hrel
    have HI := Lib.hid hrow
    have HM2 := Lib.hid hm1
    have HR1 := Lib.hid hr1
    have HT1 := Lib.hid hT1
    have z1 := hT1.size
    clear hrow hm1 hr1 hT1
    by_cases hlt : k < q.ws.length
    · obtain ⟨g, rfl, hBg, hgs, hcell, hfr⟩ := HR1.out.cells (by omega)
      have hu : q.ws[k]? = some q.ws[k] := List.getElem?_eq_getElem hlt
      have hmid := midW_at (at_ := at_) (r := q.retry) hu
      have g2 := hcell (k * 4 + 2) (.int .i64 q.ws[k].due) (by rw [atM enC 4 enC4 _ k _ 2 hmid (by decide)]; rfl)
      have g3 := hcell (k * 4 + 3) (.int .i64 q.ws[k].tries) (by rw [atM enC 4 enC4 _ k _ 3 hmid (by decide)]; rfl)
      have f2 := hfr (k * 4 + 2)
      have f3 := hfr (k * 4 + 3)
      obtain ⟨b1, b2⟩ := H4.out _ (List.getElem_mem hlt)
      have e2 := blk3_c2 B1
      have e0 := blk3_c0 B1
      have HU := Lib.hid hu
      have HMid := Lib.hid hmid
      clear hcell hu hfr hmid
      generalize q.ws[k] = x at g2 g3 b1 b2 HU HMid
      by_cases hdue : at_ < x.due
      · have HW : Hid (midW at_ q.retry q.ws (k + 1) = midW at_ q.retry q.ws k) := Lib.hid (by
          rw [midW_succ HU.out, if_pos hdue]
          obtain ⟨hl, he⟩ := List.getElem?_eq_some_iff.1 HMid.out
          rw [← he, List.set_getElem_self])
        have HP : Hid (pollI at_ (q.ws.take (k + 1)) = pollI at_ (q.ws.take k)) := Lib.hid (by rw [pollI_succ HU.out, if_pos hdue, List.append_nil])
        go_wp2_with fail
        go_roundw
        case rel => exact ⟨k + 1, A2, C2, by omega, by go_num, by rw [HP.out], by rw [HP.out]; exact HI.out, B1, HM2.out, by rw [HW.out]; exact HR1.out, HT1.out⟩
        case measure => simp [intOf]; omega
      · have HD : Hid (¬ at_ < x.due) := Lib.hid hdue
        have hne : p ≠ g := fun e => HR1.out.blk_ne B1 (by decide) (by rw [e]; rfl)
        have hne' : g ≠ p := Ne.symm hne
        go_wp2_with fail
        have X2 := (B1.setL HR1.out (by decide) (k * 4 + 3) (.int .i64 (x.tries + 1))).setL (HR1.out.set_ _ _) (by decide) (k * 4 + 2) (.int .i64 (at_ + q.retry))
        have M2 := Lib.hid ((HM2.out.setL HR1.out (k * 4 + 3) (.int .i64 (x.tries + 1))).setL (HR1.out.set_ _ _) (k * 4 + 2) (.int .i64 (at_ + q.retry)))
        have T2 := Lib.hid ((HT1.out.setL HR1.out rfl (k * 4 + 3) (.int .i64 (x.tries + 1))).setL (HR1.out.set_ _ _) rfl (k * 4 + 2) (.int .i64 (at_ + q.retry)))
        have I2 := Lib.hid ((HI.out.setR HR1.out (by decide) (k * 4 + 3) (.int .i64 (x.tries + 1))).setR (HR1.out.set_ _ _) (by decide) (k * 4 + 2) (.int .i64 (at_ + q.retry)))
        have R2 := Lib.hid ((HR1.out.set_ (k * 4 + 3) (.int .i64 (x.tries + 1))).set_ (k * 4 + 2) (.int .i64 (at_ + q.retry)))
        have ee : (((midW at_ q.retry q.ws k).flatMap enC).set (k * 4 + 3) (.int .i64 (x.tries + 1))).set (k * 4 + 2) (.int .i64 (at_ + q.retry)) = (midW at_ q.retry q.ws (k + 1)).flatMap enC := by
          have hl := (List.getElem?_eq_some_iff.1 HMid.out).1
          rw [setM enC 4 enC4 _ k x ⟨x.key, x.text, x.due, x.tries + 1⟩ 3 _ HMid.out (by decide) rfl, setM enC 4 enC4 _ k ⟨x.key, x.text, x.due, x.tries + 1⟩ ⟨x.key, x.text, at_ + q.retry, x.tries + 1⟩ 2 _ (by rw [List.getElem?_set_self hl]) (by decide) rfl, List.set_set, midW_succ HU.out, if_neg (by have := HD.out; omega)]
        rw [ee] at R2
        clear HR1 HM2 HT1 HI B1 e2 e0 ee g2 g3 f2 f3
        generalize (wr.setCell ⟨g, k * 4 + 3, none⟩ (.int .i64 (x.tries + 1))).setCell ⟨g, k * 4 + 2, none⟩ (.int .i64 (at_ + q.retry)) = w2 at X2 M2 T2 I2 R2 ⊢
        have hW : (midW at_ q.retry q.ws (k + 1))[k]? = some ⟨x.key, x.text, at_ + q.retry, x.tries + 1⟩ := by
          rw [midW_succ HU.out, if_neg (by have := HD.out; omega), List.getElem?_set_self (by rw [midW_len]; exact hlt)]
        have HWk := Lib.hid hW
        have LL : ∀ n : Cls (fun x => Turn w.heap.size [32] false w2 x), n.val.cell? ⟨g, k * 4, none⟩ = some (.string x.key) ∧ n.val.cell? ⟨g, k * 4 + 1, none⟩ = some (.string x.text) ∧ n.val.cell? ⟨g, k * 4 + 3, none⟩ = some (.int .i64 (x.tries + 1)) := by
          intro n
          obtain ⟨g', e, _, _, hc, _⟩ := (R2.out.turn n.2 rfl).cells (by omega)
          injection e with e
          injection e with e
          subst e
          have h0 := atM enC 4 enC4 _ k _ 0 HWk.out (by decide)
          exact ⟨hc (k * 4) _ (by simpa [enC] using h0), hc (k * 4 + 1) _ (by rw [atM enC 4 enC4 _ k _ 1 HWk.out (by decide)]; rfl), hc (k * 4 + 3) _ (by rw [atM enC 4 enC4 _ k _ 3 HWk.out (by decide)]; rfl)⟩
        have L1 := fun n => (LL n).1
        have L2 := fun n => (LL n).2.1
        have L3 := fun n => (LL n).2.2
        clear LL hW
        refine wp_region_reg (fun x => Turn w.heap.size [32] false w2 x) 20 rfl (by kernel_rfl) ?_
        have T : Turn w.heap.size [32] false w2 w2.drew := (Turn.refl _ _ _ _).drew
        haveI : Nonempty (Cls (fun x => Turn w.heap.size [32] false w2 x)) := ⟨⟨_, T⟩⟩
        have hI := I2.out.len
        have hIc : ((pollI at_ (q.ws.take k)).length : Int) ≤ C2 := by omega
        refine reg_seg (f := 3) (by kernel_rfl) [0, 1, 2, 3, 4, 5, 6, 7, 8, 9, 10, 11, 12, 13, 14, 15, 16] _ _ _ T (by kernel_rfl) ?_
        simp only [pickL, List.filterMap_cons, List.filterMap_nil, List.getElem?_toArray, List.getElem?_cons_zero, List.getElem?_cons_succ]
        show wpQuiet _ _ _ _ [_, _, _, _, _, _, _, _, _, _, _, _, _, _, _, _, _] _
        repeat (go_big_quiet_step (fail))
        refine wpQuiet_nil ?_
        clear L1 L2 L3
        refine reg_call 17 _ (by kernel_rfl) rfl rfl ?_
        go_simp
        rename_i K0 hKK
        have z2 := T2.out.size
        have Tb : Turn w.heap.size [32] false w2 (w2.alloc (.cells #[.string x.key, .string x.text, .int .i64 (x.tries + 1)] 32)).drew := ((Turn.refl w.heap.size [32] false w2).alloc (.cells #[.string x.key, .string x.text, .int .i64 (x.tries + 1)] 32) z2).drew
        refine ⟨Tb, ?_⟩
        have RC := (I2.out.full).alloc (.cells #[.string x.key, .string x.text, .int .i64 (x.tries + 1)] 32)
        have hle : (pollI at_ (q.ws.take k)).length ≤ 256 := by
          have := pollI_len at_ (q.ws.take k)
          rw [List.length_take] at this
          omega
        refine reg_call 18 _ (by kernel_rfl) rfl rfl ?_
        refine wp_appL itE (.tmp 57) (.tmp 71) rfl (m := 1) (c' := 1) (ys := itC ⟨x.key, x.text, x.tries + 1⟩) rfl rfl (w := (w2.alloc (.cells #[.string x.key, .string x.text, .int .i64 (x.tries + 1)] 32)).drew) RC (RDn.of_box (Blk.new w2 32 #[.string x.key, .string x.text, .int .i64 (x.tries + 1)])) (itC_one _) (by unfold maxLen; omega) (by omega) (Nat.le_trans z2 Tb.size) ?_
        intro A3 C3 w3 hr3 hg3 _
        have T3 : Turn w.heap.size [32] false w2 w3 := Tb.grownL (show rowL (w2.alloc (.cells #[.string x.key, .string x.text, .int .i64 (x.tries + 1)] 32)).drew _ _ _ _ _ _ _ from RC) hg3 rfl z2
        have R3 := Lib.hid hr3
        clear hr3 hg3 RC T Tb
        have T := T3
        refine ⟨T3, ?_⟩
        go_simp
        refine reg_call 19 _ (by kernel_rfl) rfl rfl ?_
        go_simp
        refine reg_end (by kernel_rfl) ?_
        refine hKK _ _ ?_
        have X3 := X2.turn T3 rfl
        have M3 := Lib.hid (M2.out.turn T3)
        have R4 := Lib.hid (R2.out.turn T3 rfl)
        have T4 := Lib.hid (T2.out.above T3 hBw)
        have HP : Hid (pollI at_ (q.ws.take (k + 1)) = pollI at_ (q.ws.take k) ++ [⟨x.key, x.text, x.tries + 1⟩]) := Lib.hid (by rw [pollI_succ HU.out, if_neg (by have := HD.out; omega)])
        have HPL : Hid ((pollI at_ (q.ws.take (k + 1))).length = (pollI at_ (q.ws.take k)).length + 1) := Lib.hid (by rw [HP.out]; simp)
        clear T T3
        go_wp2_with fail
        go_roundw
        case rel =>
          refine ⟨k + 1, A3, C3, by omega, by go_num, by rw [HPL.out], ?_, X3, M3.out, R4.out, T4.out⟩
          rw [HPL.out, HP.out, flat_snoc]
          exact R3.out
        case measure => simp [intOf]; omega
    · have hkn : k = q.ws.length := by omega
      have HT : Hid (q.ws.take k = q.ws) := Lib.hid (by rw [hkn, List.take_length])
      have HW : Hid (midW at_ q.retry q.ws k = pollW at_ q.retry q.ws) := Lib.hid (by rw [hkn, midW_end])
      clear hkn
      go_wp2_with fail
      go_ret
      rw [HT.out] at HI ⊢
      rw [HW.out] at HR1
      refine ⟨A2, C2, rfl, HI.out, ⟨hB, mb, A, c, ?_, hmb, HM2.out, ?_⟩, HT1.out⟩
      · rw [pollW_len]; exact B1
      · rw [pollW_len]; exact HR1.out
end Go.Proofs.Ythjgfheogbchkaa
