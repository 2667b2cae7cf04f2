/-
  Exchange: walks over the chapter's own Begin and Reply. Condition: the state is one that the calls make.
-/
import Derived.Test.YtgacpkbpbckgiaaRa
namespace Go.Proofs.Ytgacpkbpbckgiaa
open Go.RowKit
set_option linter.unusedVariables false

theorem itE : ElemT Try.prog 35 74 (.agg #[.string ⟨#[]⟩, .string ⟨#[]⟩, .string ⟨#[]⟩, .int .i64 0, .int .i64 0]) 5 64 := ⟨Try.underlying35, by kernel_rfl, rfl, by decide⟩
theorem imR_one (x : Im) : ∀ u ∈ imR x, u.oneCell' = true := by
  intro u hu
  simp [imR] at hu
  rcases hu with rfl | rfl | rfl | rfl | rfl <;> rfl
def QT : List TypeId := [37, 74]
theorem setI : ∀ (l : List Im) (i : Nat) (x y : Im) (j : Nat) (u : Value), l[i]? = some x → j < 5 → imR y = (imR x).set j u → (l.set i y).flatMap imR = (l.flatMap imR).set (i * 5 + j) u
  | [], _, _, _, _, _, h, _, _ => by simp at h
  | z :: l, 0, x, y, j, u, h, hj, e => by
    have hz : z = x := by simpa using h
    subst hz
    rw [List.set_cons_zero, List.flatMap_cons, List.flatMap_cons, e, Nat.zero_mul, Nat.zero_add, List.set_append_left _ _ (by rw [imR5]; exact hj)]
  | z :: l, i + 1, x, y, j, u, h, hj, e => by
    rw [List.set_cons_succ, List.flatMap_cons, List.flatMap_cons, setI l i x y j u (by simpa using h) hj e, List.set_append_right _ _ (by rw [imR5, Nat.add_mul]; omega)]
    rw [imR5, show (i + 1) * 5 + j - 5 = i * 5 + j by omega]
theorem upd_at {key : ByteArray} {g : Im → Im} : ∀ {l : List Im} {i : Nat} {x : Im}, (l.map Im.key).Nodup → l[i]? = some x → x.key = key → upd key g l = l.set i (g x)
  | [], _, _, _, h, _ => by simp at h
  | z :: l, 0, x, hn, h, hk => by
    have hz : z = x := by simpa using h
    subst hz
    rw [List.map_cons, List.nodup_cons] at hn
    have hl : l.map (fun x => if x.key = key then g x else x) = l := by
      rw [List.map_congr_left (g := id), List.map_id]
      intro y hy
      rw [if_neg]
      · rfl
      · intro e
        exact hn.1 (List.mem_map.2 ⟨y, hy, by rw [e, hk]⟩)
    unfold upd
    rw [List.map_cons, hl, if_pos hk, List.set_cons_zero]
  | z :: l, i + 1, x, hn, h, hk => by
    rw [List.map_cons, List.nodup_cons] at hn
    have hx : l[i]? = some x := by simpa using h
    have hz : ¬ z.key = key := by
      intro e
      exact hn.1 (List.mem_map.2 ⟨x, List.mem_of_getElem? hx, by rw [e, hk]⟩)
    have := upd_at (g := g) hn.2 hx hk
    unfold upd at this ⊢
    rw [List.map_cons, this, if_neg hz, List.set_cons_succ]

def QBegRet (B p : Nat) (s : XS) (a : Int) (key txt : ByteArray) (w : World) (e : Ending) (w' : World) : Prop :=
  e = .returned (.int .i64 (begE s a key txt)) ∧ QRep w' B p (begS s a key txt) ∧ Turn B QT false w w'
section
variable (B p : Nat) (s : XS) (a : Int) (key txt : ByteArray) (w : World)
theorem qbegin_14 (h : ¬ okT s a) (r : QRep w B p s) : Calls Try.prog 14 #[.pointer (some ⟨p, 0, none⟩), .int .i64 a, .string key, .string txt] w fun e w' => e = .returned (.int .i64 14) ∧ Below w.heap.size w w' := by
  have HQ := qtime_any B p s w a r
  rw [decide_eq_false h] at HQ
  replace HQ := Lib.hid HQ
  clear h r
  go_enter Try.func14, Try.ntmps14
  go_wp2_with (go_at_call 31; refine HQ.out.mono ?_; rintro e w' ⟨rfl, rfl⟩)
  go_ret
  exact ⟨rfl, Below.refl _ _⟩
theorem qbegin_5 (h : okT s a) (hk : key.size < 1 ∨ 40 < key.size) (r : QRep w B p s) : Calls Try.prog 14 #[.pointer (some ⟨p, 0, none⟩), .int .i64 a, .string key, .string txt] w fun e w' => e = .returned (.int .i64 5) ∧ Below w.heap.size w w' := by
  have HQ := qtime_any B p s w a r
  rw [decide_eq_true h] at HQ
  replace HQ := Lib.hid HQ
  clear h r
  by_cases k1 : (key.size : Int) < 1
  · clear hk
    go_enter Try.func14, Try.ntmps14
    go_wp2_with (go_at_call 31; refine HQ.out.mono ?_; rintro e w' ⟨rfl, rfl⟩)
    go_ret
    exact ⟨rfl, Below.refl _ _⟩
  · have k2 : 40 < (key.size : Int) := by omega
    clear hk
    go_enter Try.func14, Try.ntmps14
    go_wp2_with (go_at_call 31; refine HQ.out.mono ?_; rintro e w' ⟨rfl, rfl⟩)
    go_ret
    exact ⟨rfl, Below.refl _ _⟩
theorem qbegin_3 (h : okT s a) (hk : 1 ≤ key.size ∧ key.size ≤ 40) (ht : 4000 < txt.size) (r : QRep w B p s) : Calls Try.prog 14 #[.pointer (some ⟨p, 0, none⟩), .int .i64 a, .string key, .string txt] w fun e w' => e = .returned (.int .i64 3) ∧ Below w.heap.size w w' := by
  have HQ := qtime_any B p s w a r
  rw [decide_eq_true h] at HQ
  replace HQ := Lib.hid HQ
  have k1 : ¬ (key.size : Int) < 1 := by omega
  have k2 : ¬ 40 < (key.size : Int) := by omega
  have k3 : 4000 < (txt.size : Int) := by omega
  clear h r hk ht
  go_enter Try.func14, Try.ntmps14
  go_wp2_with (go_at_call 31; refine HQ.out.mono ?_; rintro e w' ⟨rfl, rfl⟩)
  go_ret
  exact ⟨rfl, Below.refl _ _⟩
theorem qbegin_7 (h : okT s a) (hk : 1 ≤ key.size ∧ key.size ≤ 40) (ht : ¬ 4000 < txt.size) (x : Im) (hf : fnd key s.its = some x) (r : QRep w B p s) : Calls Try.prog 14 #[.pointer (some ⟨p, 0, none⟩), .int .i64 a, .string key, .string txt] w fun e w' => e = .returned (.int .i64 7) ∧ Below w.heap.size w w' := by
  have HQ := qtime_any B p s w a r
  rw [decide_eq_true h] at HQ
  replace HQ := Lib.hid HQ
  have k1 : ¬ (key.size : Int) < 1 := by omega
  have k2 : ¬ 40 < (key.size : Int) := by omega
  have k3 : ¬ 4000 < (txt.size : Int) := by omega
  obtain ⟨i, e1, e2, e3⟩ := fnd_at hf
  have HI := Lib.hid (qindex_some B p s w key i x e1 e2 e3 r)
  clear h hk ht hf r e1 e2 e3
  go_enter Try.func14, Try.ntmps14
  go_wp2_with (first
    | (go_at_call 31; refine HQ.out.mono ?_; rintro e w' ⟨rfl, rfl⟩)
    | (go_at_call 32; refine HI.out.mono ?_; rintro e w' ⟨rfl, rfl⟩))
  go_ret
  exact ⟨rfl, Below.refl _ _⟩
set_option maxRecDepth 100000 in
theorem qbegin_12 (h : okT s a) (hk : 1 ≤ key.size ∧ key.size ≤ 40) (ht : ¬ 4000 < txt.size) (hf : fnd key s.its = none) (hl : s.its.length ≤ 100000) (hw : 256 ≤ (waiL s.its).length) (r : QRep w B p s) : Calls Try.prog 14 #[.pointer (some ⟨p, 0, none⟩), .int .i64 a, .string key, .string txt] w fun e w' => e = .returned (.int .i64 12) ∧ Below w.heap.size w w' := by
  have HQ := qtime_any B p s w a r
  rw [decide_eq_true h] at HQ
  replace HQ := Lib.hid HQ
  have HW := Lib.hid (qwaiting_any B p s w hl r)
  have HI := Lib.hid (qindex_none B p s w key hf r)
  have k1 : ¬ (key.size : Int) < 1 := by omega
  have k2 : ¬ 40 < (key.size : Int) := by omega
  have k3 : ¬ 4000 < (txt.size : Int) := by omega
  have k4 : (256 : Int) ≤ (waiL s.its).length := by omega
  clear h hk ht hf hw r
  go_enter Try.func14, Try.ntmps14
  go_wp2_with (first
    | (go_at_call 31; refine HQ.out.mono ?_; rintro e w' ⟨rfl, rfl⟩)
    | (go_at_call 32; refine HI.out.mono ?_; rintro e w' ⟨rfl, rfl⟩)
    | (go_at_call 27; refine HW.out.mono ?_; rintro e w1 ⟨A1, c1, rfl, W1, b1⟩; have HB1 := Lib.hid b1; clear W1 b1))
  go_ret
  exact ⟨rfl, HB1.out⟩
set_option maxRecDepth 100000 in
set_option maxHeartbeats 1600000 in
theorem qbegin_0 (o : s.Ok) (h : okT s a) (hk : 1 ≤ key.size ∧ key.size ≤ 40) (ht : ¬ 4000 < txt.size) (hf : fnd key s.its = none) (hl : s.its.length ≤ 100000) (hw : ¬ 256 ≤ (waiL s.its).length) (hBw : B ≤ w.heap.size) (r : QRep w B p s) :
    Calls Try.prog 14 #[.pointer (some ⟨p, 0, none⟩), .int .i64 a, .string key, .string txt] w fun e w' => e = .returned (.int .i64 0) ∧ QRep w' B p ⟨s.tmo, a, s.its ++ [⟨key, txt, ⟨#[]⟩, a, 0⟩]⟩ ∧ Turn B QT false w w' := by
  have HQ := qtime_any B p s w a r
  rw [decide_eq_true h] at HQ
  replace HQ := Lib.hid HQ
  have HW := Lib.hid (qwaiting_any B p s w hl r)
  have HI := Lib.hid (qindex_none B p s w key hf r)
  have k1 : ¬ (key.size : Int) < 1 := by omega
  have k2 : ¬ 40 < (key.size : Int) := by omega
  have k3 : ¬ 4000 < (txt.size : Int) := by omega
  have k4 : ¬ (256 : Int) ≤ (waiL s.its).length := by omega
  obtain ⟨hB, A, c, B0, hr⟩ := r
  have HR := Lib.hid hr
  have HB0 := Lib.hid B0
  clear h hk ht B0 hr hf hw o
  go_enter Try.func14, Try.ntmps14
  go_wp2_with (first
    | (go_at_call 31; refine HQ.out.mono ?_; rintro e w' ⟨rfl, rfl⟩)
    | (go_at_call 32; refine HI.out.mono ?_; rintro e w' ⟨rfl, rfl⟩)
    | (go_at_call 27
       refine HW.out.mono ?_
       rintro e w1 ⟨A1, c1, rfl, W1, b1⟩
       have R1 := HR.out.call b1
       have X1 := HB0.out.call b1
       have T1 := Lib.hid (Turn.of_below (T := QT) (m := false) b1 hBw)
       have l1 := X1.lt
       have f1 := X1.frozen
       have d1 := X1.c 1 _ rfl
       have X2 : Blk (w1.setCell ⟨p, 1, none⟩ (.int .i64 a)) p 37 #[.int .i64 s.tmo, .int .i64 a, .slice A s.its.length c] := by simpa using X1.set_ 1 (.int .i64 a)
       have R2 := Lib.hid (R1.far X1 (by decide) 1 (.int .i64 a))
       have T2 := Lib.hid (T1.out.setB X1 rfl hB 1 (.int .i64 a))
       have zz := Nat.le_trans hBw T2.out.size
       have d2 := X2.c 2 _ rfl
       have HX2 := Lib.hid X2
       have BX : Hid (Blk ((w1.setCell ⟨p, 1, none⟩ (.int .i64 a)).alloc (.cells #[.string key, .string txt, .string ⟨#[]⟩, .int .i64 a, .int .i64 0] 74)) w1.heap.size 74 #[.string key, .string txt, .string ⟨#[]⟩, .int .i64 a, .int .i64 0]) := Lib.hid (by
         have := Blk.new (w1.setCell ⟨p, 1, none⟩ (.int .i64 a)) 74 #[.string key, .string txt, .string ⟨#[]⟩, .int .i64 a, .int .i64 0]
         simpa using this)
       clear W1 b1 R1 X2 T1 X1)
    | (at_builtin
       go_must (refine wpList_appL itE _ _ rfl rfl (m := 1) (c' := 1) (ys := [.string key, .string txt, .string ⟨#[]⟩, .int .i64 a, .int .i64 0]) rfl rfl (R2.out.alloc (.cells #[.string key, .string txt, .string ⟨#[]⟩, .int .i64 a, .int .i64 0] 74)) (RDn.of_box BX.out) (imR_one ⟨key, txt, ⟨#[]⟩, a, 0⟩) (by unfold maxLen; omega) (by omega) (by simp at zz ⊢; omega) ?_)
       intro A3 c3 w3 hr3 hg3 hor
       have RA := R2.out.alloc (.cells #[.string key, .string txt, .string ⟨#[]⟩, .int .i64 a, .int .i64 0] 74)
       have X3 := (HX2.out.alloc (.cells #[.string key, .string txt, .string ⟨#[]⟩, .int .i64 a, .int .i64 0] 74)).grownL RA (by decide) hg3
       have T3 := Lib.hid ((T2.out.alloc (.cells #[.string key, .string txt, .string ⟨#[]⟩, .int .i64 a, .int .i64 0] 74) hBw).grownL RA hg3 rfl hBw)
       have e2 := X3.c 2 _ rfl
       have l3 := X3.lt
       have f3 := X3.frozen
       have HX3 := Lib.hid X3
       have HR3 := Lib.hid hr3
       clear hr3 hg3 hor RA X3 d1 d2 l1 f1))
  go_ret
  refine ⟨rfl, ⟨hB, A3, c3, ?_, ?_⟩, T3.out.setB HX3.out rfl hB 2 _⟩
  · show Blk _ p 37 #[.int .i64 s.tmo, .int .i64 a, .slice A3 (s.its ++ [(⟨key, txt, ⟨#[]⟩, a, 0⟩ : Im)]).length c3]
    rw [List.length_append]
    simpa using HX3.out.set_ 2 (.slice A3 (s.its.length + 1) c3)
  · show rowL _ B 74 5 A3 (s.its ++ [(⟨key, txt, ⟨#[]⟩, a, 0⟩ : Im)]).length c3 ((s.its ++ [(⟨key, txt, ⟨#[]⟩, a, 0⟩ : Im)]).flatMap imR)
    rw [List.length_append, List.flatMap_append]
    have := HR3.out.far HX3.out (by decide) 2 (.slice A3 (s.its.length + 1) c3)
    simpa [imR] using this
theorem qbegin_any (o : s.Ok) (hl : s.its.length ≤ 100000) (hBw : B ≤ w.heap.size) (r : QRep w B p s) :
    Calls Try.prog 14 #[.pointer (some ⟨p, 0, none⟩), .int .i64 a, .string key, .string txt] w (QBegRet B p s a key txt w) := by
  have no : ∀ n : Int, n ≠ 0 → begE s a key txt = n → ∀ e w', (e = .returned (.int .i64 n) ∧ Below w.heap.size w w') → QBegRet B p s a key txt w e w' := fun n hn he e w' ⟨h1, h2⟩ =>
    ⟨by rw [he]; exact h1, by unfold begS; rw [he, if_neg hn]; exact r.call h2, Turn.of_below h2 hBw⟩
  by_cases h : okT s a
  · have n1 : ¬ ¬ okT s a := fun e => e h
    by_cases hk : key.size < 1 ∨ 40 < key.size
    · exact (qbegin_5 B p s a key txt w h hk r).mono (no 5 (by decide) (by unfold begE; rw [if_neg n1, if_pos hk]))
    · have hk' : 1 ≤ key.size ∧ key.size ≤ 40 := by omega
      by_cases ht : 4000 < txt.size
      · exact (qbegin_3 B p s a key txt w h hk' ht r).mono (no 3 (by decide) (by unfold begE; rw [if_neg n1, if_neg hk, if_pos ht]))
      · cases hf : fnd key s.its with
        | some x => exact (qbegin_7 B p s a key txt w h hk' ht x hf r).mono (no 7 (by decide) (by unfold begE; rw [if_neg n1, if_neg hk, if_neg ht, hf]; rfl))
        | none =>
          have n2 : ¬ (fnd key s.its).isSome = true := by rw [hf]; decide
          by_cases hw : 256 ≤ (waiL s.its).length
          · exact (qbegin_12 B p s a key txt w h hk' ht hf hl hw r).mono (no 12 (by decide) (by unfold begE; rw [if_neg n1, if_neg hk, if_neg ht, if_neg n2, if_pos hw]))
          · have he : begE s a key txt = 0 := by unfold begE; rw [if_neg n1, if_neg hk, if_neg ht, if_neg n2, if_neg hw]
            refine (qbegin_0 B p s a key txt w o h hk' ht hf hl hw hBw r).mono fun e w' ⟨e1, e2, e3⟩ => ⟨by rw [he]; exact e1, ?_, e3⟩
            unfold begS
            rw [if_pos he]
            exact e2
  · exact (qbegin_14 B p s a key txt w h r).mono (no 14 (by decide) (by unfold begE; rw [if_pos h]))
end
end Go.Proofs.Ytgacpkbpbckgiaa
