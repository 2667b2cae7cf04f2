/-
  Forward: walks over Known and Put. Condition: the state is one that the calls make.
-/
import Derived.Test.YthjgfheogbchkaaWa
namespace Go.Proofs.Ythjgfheogbchkaa
open Go.RowKit
set_option linter.unusedVariables false

theorem zero4 (w : World) : (zeroValue 4).run Try.prog w = .ok (.bool false) w := by kernel_rfl
theorem eqlSome (bm : Nat) (w : World) : (binOp .eql 40 (.map (some bm)) (.map none)).run Try.prog w = .ok (.bool false) w := by kernel_rfl
def knF (l : List (List UInt8)) : List UInt8 → Option Value := fun s => if s ∈ l then some (.bool true) else none
theorem knF_get (l : List (List UInt8)) (s : List UInt8) : (knF l s).getD (.bool false) = .bool (decide (s ∈ l)) := by
  unfold knF
  split <;> simp [*]
theorem known_run {w : World} {mb n : Nat} {l : List (List UInt8)} (h : HM Try.prog 9 w mb n (knF l)) {s : ByteArray} (hs : s.size ≤ maxLen) {t : Bool} (ht : decide (s.data.toList ∈ l) = t) :
    (Instr.lookup 40 (.map (some mb)) (.string s) false).run Try.prog w = .ok (.bool t) w := by
  have := h.lookup Try.underlying9 Try.underlying40 (zero4 w) hs
  rw [this, knF_get, ht]

theorem known_any (B p : Nat) (q : FQ) (key : ByteArray) (hk : key.size ≤ maxLen) (w : World) (r : FRep w B p q) :
    Calls Try.prog 12 #[.pointer (some ⟨p, 0, none⟩), .string key] w fun e w' => e = .returned (.bool (decide (key.data.toList ∈ q.kn))) ∧ w = w' := by
  obtain ⟨hB, mb, A, c, B0, hmb, hm, hr⟩ := r
  have c1 := blk3_c1 B0
  have hl := known_run hm hk rfl
  generalize decide (key.data.toList ∈ q.kn) = t at hl ⊢
  clear hr hm
  go_enter Try.func12, Try.ntmps12
  go_wp2
  go_ret
  exact ⟨rfl, rfl⟩

theorem size_list (k : ByteArray) : k.toList.length = k.size := by rw [ByteArray.toList_eq]; simp
theorem not_empty {k : ByteArray} (h : 1 ≤ k.size) : k.toList.isEmpty = false ∧ ¬ k.toList = [] := by
  have := size_list k
  constructor
  · cases hk : k.toList with
    | nil => rw [hk] at this; simp at this; omega
    | cons x l => rfl
  · intro e
    rw [e] at this
    simp at this
    omega
theorem entE : ElemT Try.prog 41 46 (.agg #[.string ⟨#[]⟩, .string ⟨#[]⟩, .int .i64 0, .int .i64 0]) 4 48 := ⟨Try.underlying41, by kernel_rfl, rfl, by decide⟩
/-- What Put takes: a key and a text of the lengths allowed, a time. -/
def PutOk (at_ : Int) (key text : ByteArray) : Prop := 1 ≤ key.size ∧ key.size ≤ 40 ∧ text.size ≤ 4000 ∧ isT at_

theorem put_exists (B p : Nat) (q : FQ) (at_ : Int) (key text : ByteArray) (h : PutOk at_ key text) (hk : key.data.toList ∈ q.kn) (w : World) (r : FRep w B p q) :
    Calls Try.prog 7 #[.pointer (some ⟨p, 0, none⟩), .int .i64 at_, .string key, .string text] w fun e w' => e = .returned (.int .i64 7) ∧ w = w' := by
  obtain ⟨hB, mb, A, c, B0, hmb, hm, hr⟩ := r
  obtain ⟨h1, h2, h3, h4⟩ := h
  have c1 := blk3_c1 B0
  have hl := known_run (s := key) (t := true) hm (by unfold maxLen; omega) (decide_eq_true hk)
  obtain ⟨k1, k2⟩ := not_empty h1
  have k3 : ¬ (40 : Int) < (key.size : Int) := by omega
  have k4 : ¬ (4000 : Int) < (text.size : Int) := by omega
  have hd : decide (isT at_) = true := decide_eq_true h4
  clear hr hm h4 hk
  go_enter Try.func7, Try.ntmps7
  go_wp2_with (go_at_call 14; refine (isTime_any at_ _).mono ?_; rintro e w' ⟨rfl, rfl⟩; rw [hd])
  go_ret
  exact ⟨rfl, rfl⟩
theorem put_full (B p : Nat) (q : FQ) (at_ : Int) (key text : ByteArray) (h : PutOk at_ key text) (hk : key.data.toList ∉ q.kn) (hf : 256 ≤ q.ws.length) (w : World) (r : FRep w B p q) :
    Calls Try.prog 7 #[.pointer (some ⟨p, 0, none⟩), .int .i64 at_, .string key, .string text] w fun e w' => e = .returned (.int .i64 12) ∧ w = w' := by
  obtain ⟨hB, mb, A, c, B0, hmb, hm, hr⟩ := r
  obtain ⟨h1, h2, h3, h4⟩ := h
  have c1 := blk3_c1 B0
  have c2 := blk3_c2 B0
  have hl := known_run (s := key) (t := false) hm (by unfold maxLen; omega) (decide_eq_false hk)
  obtain ⟨k1, k2⟩ := not_empty h1
  have k3 : ¬ (40 : Int) < (key.size : Int) := by omega
  have k4 : ¬ (4000 : Int) < (text.size : Int) := by omega
  have k5 : (256 : Int) ≤ (q.ws.length : Int) := by omega
  have hd : decide (isT at_) = true := decide_eq_true h4
  clear hr hm h4 hk hf
  go_enter Try.func7, Try.ntmps7
  go_wp2_with (go_at_call 14; refine (isTime_any at_ _).mono ?_; rintro e w' ⟨rfl, rfl⟩; rw [hd])
  go_ret
  exact ⟨rfl, rfl⟩
theorem knF_put (l : List (List UInt8)) (k : List UInt8) : (fun x => if x = k then some (Value.bool true) else knF l x) = knF (k :: l) := by
  funext x
  unfold knF
  by_cases h : x = k
  · simp [h]
  · simp [h]
theorem flat_snoc {α : Type} (f : α → List Value) (l : List α) (x : α) : (l ++ [x]).flatMap f = l.flatMap f ++ f x := by simp

def PutRet (B p : Nat) (q : FQ) (at_ : Int) (key text : ByteArray) (w : World) (e : Ending) (w' : World) : Prop :=
  e = .returned (.int .i64 0) ∧ FRep w' B p { q with kn := key.data.toList :: q.kn, ws := q.ws ++ [⟨key, text, at_, 0⟩] } ∧ Turn B [43, 46] true w w'
set_option maxHeartbeats 800000 in
set_option maxRecDepth 100000 in
theorem put_ok (B p : Nat) (q : FQ) (at_ : Int) (key text : ByteArray) (h : PutOk at_ key text) (hk : key.data.toList ∉ q.kn) (hf : q.ws.length < 256) (hn : q.kn.length < 1000000) (w : World) (hBw : B ≤ w.heap.size) (r : FRep w B p q) :
    Calls Try.prog 7 #[.pointer (some ⟨p, 0, none⟩), .int .i64 at_, .string key, .string text] w (PutRet B p q at_ key text w) := by
  obtain ⟨hB, mb, A, c, B0, hmb, hm, hr⟩ := r
  obtain ⟨h1, h2, h3, h4⟩ := h
  have c1 := blk3_c1 B0
  have c2 := blk3_c2 B0
  have hl := known_run (s := key) (t := false) hm (by unfold maxLen; omega) (decide_eq_false hk)
  obtain ⟨k1, k2⟩ := not_empty h1
  have k3 : ¬ (40 : Int) < (key.size : Int) := by omega
  have k4 : ¬ (4000 : Int) < (text.size : Int) := by omega
  have k5 : ¬ (256 : Int) ≤ (q.ws.length : Int) := by omega
  have hd : decide (isT at_) = true := decide_eq_true h4
  have HM1 := Lib.hid hm
  have hq := eqlSome mb
  have HR := Lib.hid hr
  clear hr hm h4 hk
  go_enter Try.func7, Try.ntmps7
  go_wp2_with (first
    | (go_at_call 14; refine (isTime_any at_ _).mono ?_; rintro e w' ⟨rfl, rfl⟩; rw [hd])
    | (at_mapUpdate
       go_must (refine wpList_putH HM1.out Try.underlying9 Try.underlying40 (by unfold maxLen; omega) rfl _ _ _ rfl (s := key) (by unfold maxLen; omega) (.bool true) rfl rfl rfl ?_)
       intro w2 hm2 hg2
       have X2 := B0.mapped HM1.out hg2
       have l2 := X2.lt
       have e2 := blk3_c2 X2
       have T2 : Turn B [43, 46] true w w2 := (Turn.refl _ _ _ _).mapped HM1.out hg2 hmb hBw
       have R2 := HR.out.mapped HM1.out hg2
       have M2 := Lib.hid hm2
       have HR2 := Lib.hid R2
       have X3 := X2.alloc (.cells #[.string key, .string text, .int .i64 at_, .int .i64 0] 46)
       have z2 := T2.size
       clear R2 hm2 hg2 HM1)
    | (at_builtin
       go_must (refine wpList_appL entE _ _ rfl rfl (m := 1) (c' := 1) (ys := enC ⟨key, text, at_, 0⟩) rfl rfl (HR2.out.alloc (.cells #[.string key, .string text, .int .i64 at_, .int .i64 0] 46)) (RDn.of_box (Blk.new w2 46 #[.string key, .string text, .int .i64 at_, .int .i64 0])) (fun u hu => by simp [enC] at hu; rcases hu with rfl | rfl | rfl | rfl <;> rfl) (by unfold maxLen; omega) (by omega) (by simp; omega) ?_)
       intro A3 c3 w3 hr3 hg3 hor
       have RA := HR2.out.alloc (.cells #[.string key, .string text, .int .i64 at_, .int .i64 0] 46)
       have X4 := X3.grownL RA (by decide) hg3
       have l4 := X4.lt
       have f4 := X4.frozen
       have e4 := blk3_c2 X4
       have T4 := Lib.hid ((T2.alloc (.cells #[.string key, .string text, .int .i64 at_, .int .i64 0] 46) hBw).grownL RA hg3 rfl hBw)
       have M4 := Lib.hid ((M2.out.alloc (.cells #[.string key, .string text, .int .i64 at_, .int .i64 0] 46)).grownL RA hg3)
       have HR4 := Lib.hid hr3
       clear hr3 hg3 hor RA))
  go_ret
  refine ⟨rfl, ⟨hB, mb, A3, c3, ?_, hmb, ?_, ?_⟩, T4.out.setB X4 rfl hB 2 _⟩
  · have := blk3_set2 X4 (.slice A3 (q.ws.length + 1) c3)
    simp only [List.length_append, List.length_cons, List.length_nil]
    exact this
  · have := M4.out.set_ X4 2 (.slice A3 (q.ws.length + 1) c3)
    have e := knF_put q.kn key.data.toList
    have e2 : (fun s => if s ∈ key.data.toList :: q.kn then some (Value.bool true) else none) = knF (key.data.toList :: q.kn) := rfl
    rw [e2, ← e]
    exact this
  · have := HR4.out.far X4 (by decide) 2 (.slice A3 (q.ws.length + 1) c3)
    simp only [List.length_append, List.length_cons, List.length_nil]
    rw [flat_snoc]
    exact this
end Go.Proofs.Ythjgfheogbchkaa
