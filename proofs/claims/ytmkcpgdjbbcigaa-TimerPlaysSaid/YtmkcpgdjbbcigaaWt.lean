/-
  Timer: the chapter's order is the program's; walks over the chapter's Set, Move, Cancel and At. Condition: the state is one that the calls make.
-/
import Derived.Test.YtmkcpgdjbbcigaaWs
namespace Go.Proofs.Ytmkcpgdjbbcigaa
open Go.RowKit
set_option linter.unusedVariables false

/-- A set as the calls leave it: in the order of the times, at most 256 timers. -/
def TS.Ok (s : TS) : Prop := s.ts.Pairwise (fun x y => x.at_ ≤ y.at_) ∧ s.ts.length ≤ 256
theorem dueN_in {u : Int} : ∀ {l : List Ti} {x : Ti}, x ∈ l.take (dueN u l) → ¬ u < x.at_
  | [], _, h => by simp at h
  | y :: l, x, h => by
    unfold dueN at h
    split at h
    · simp at h
    · rename_i hlt
      rw [List.take_succ_cons] at h
      rcases List.mem_cons.1 h with rfl | h
      · exact hlt
      · exact dueN_in h
theorem dueN_out {u : Int} : ∀ {l : List Ti} {x : Ti}, l.Pairwise (fun x y => x.at_ ≤ y.at_) → x ∈ l.drop (dueN u l) → u < x.at_
  | [], _, _, h => by simp at h
  | y :: l, x, hs, h => by
    unfold dueN at h
    split at h
    · rename_i hlt
      rcases List.mem_cons.1 h with rfl | h
      · exact hlt
      · have := List.rel_of_pairwise_cons hs h
        omega
    · rw [List.drop_succ_cons] at h
      exact dueN_out (List.Pairwise.of_cons hs) h
theorem insR_eq {x : Ti} {l : List Ti} (hs : l.Pairwise (fun x y => x.at_ ≤ y.at_)) : insR x l = insT x l := by
  have h := insT_split (x := x) (L1 := l.take (dueN x.at_ l)) (L2 := l.drop (dueN x.at_ l)) (fun y hy => dueN_in hy) (fun y hy => dueN_out hs hy)
  rw [List.take_append_drop] at h
  exact h.symm
theorem insT_sorted {x : Ti} {l : List Ti} (hs : l.Pairwise (fun x y => x.at_ ≤ y.at_)) : (insT x l).Pairwise (fun x y => x.at_ ≤ y.at_) := by
  rw [← insR_eq hs]
  unfold insR
  have h0 : (l.take (dueN x.at_ l) ++ l.drop (dueN x.at_ l)).Pairwise (fun x y : Ti => x.at_ ≤ y.at_) := by rw [List.take_append_drop]; exact hs
  obtain ⟨h1, h2, h3⟩ := List.pairwise_append.1 h0
  refine List.pairwise_append.2 ⟨h1, List.pairwise_cons.2 ⟨fun y hy => by have := dueN_out hs hy; omega, h2⟩, fun a ha b hb => ?_⟩
  rcases List.mem_cons.1 hb with rfl | hb
  · have := dueN_in ha
    omega
  · exact h3 a ha b hb
theorem remT_sub (i m : Nat) (l : List Ti) : (remT i m l).Sublist l := by
  unfold remT
  have h : (l.take i ++ l.drop (i + m)).Sublist (l.take i ++ l.drop i) := (List.Sublist.refl _).append (by
    rw [← List.drop_drop]
    exact List.drop_sublist _ _)
  rwa [List.take_append_drop] at h
theorem TS.Ok.new : (⟨0, []⟩ : TS).Ok := ⟨List.Pairwise.nil, by simp⟩
theorem TS.Ok.rem {s : TS} (o : s.Ok) (i m : Nat) : ({ s with ts := remT i m s.ts } : TS).Ok := ⟨o.1.sublist (remT_sub i m s.ts), Nat.le_trans (remT_sub i m s.ts).length_le o.2⟩
theorem TS.Ok.set_ {s : TS} (o : s.Ok) (key : ByteArray) (a : Int) : (setS s key a).Ok := by
  unfold setS
  split
  · rename_i h
    refine ⟨insT_sorted o.1, ?_⟩
    show (insT _ s.ts).length ≤ 256
    rw [insT_len]
    unfold setE at h
    split at h
    · cases h
    · split at h
      · cases h
      · split at h
        · cases h
        · split at h
          · cases h
          · omega
  · exact o
theorem TS.Ok.move {s : TS} (o : s.Ok) (x : Ti) {i : Nat} (hi : i < s.ts.length) : ({ s with ts := insT x (remT i 1 s.ts) } : TS).Ok := by
  refine ⟨insT_sorted (o.rem i 1).1, ?_⟩
  show (insT x (remT i 1 s.ts)).length ≤ 256
  rw [insT_len, remT_len (by omega)]
  have := o.2
  omega
theorem TS.Ok.due {s : TS} (o : s.Ok) (u : Int) : (dueS s u).Ok := by
  unfold dueS
  split
  · exact o
  · exact ⟨o.1.sublist (List.drop_sublist _ _), Nat.le_trans (List.drop_sublist _ _).length_le o.2⟩

def RSetRet (B p : Nat) (s : TS) (key : ByteArray) (a : Int) (w : World) (e : Ending) (w' : World) : Prop :=
  e = .returned (.int .i64 (setE s key a)) ∧ RRep w' B p (setS s key a) ∧ Turn B [55] false w w'
section
variable (B p : Nat) (s : TS) (key : ByteArray) (a : Int) (hk : key.size ≤ 9223372036854775807) (w : World)
theorem rset_5 (h : identOk key = false) (hk : key.size ≤ 9223372036854775807) : Calls Try.prog 13 #[.pointer (some ⟨p, 0, none⟩), .string key, .int .i64 a] w fun e w' => e = .returned (.int .i64 5) ∧ Below w.heap.size w w' := by
  go_enter Try.func13, Try.ntmps13
  go_wp2_with (go_at_call 35; refine (rident_ok key hk _).mono ?_; rintro e w' ⟨rfl, rfl⟩; rw [h])
  go_ret
  exact ⟨rfl, Below.refl _ _⟩
theorem rset_14 (hk : key.size ≤ 9223372036854775807) (h : identOk key = true) (h2 : ¬ posT s.now a) (r : RRep w B p s) : Calls Try.prog 13 #[.pointer (some ⟨p, 0, none⟩), .string key, .int .i64 a] w fun e w' => e = .returned (.int .i64 14) ∧ Below w.heap.size w w' := by
  obtain ⟨hB, A, c, B0, hr⟩ := r
  have c1 := B0.c1
  clear hr
  unfold posT at h2
  by_cases h3 : s.now ≤ a
  · have h4 : 1099511627776 < a := by omega
    have h5 : ¬ a < s.now := by omega
    clear h2
    go_enter Try.func13, Try.ntmps13
    go_wp2_with (go_at_call 35; refine (rident_ok key hk _).mono ?_; rintro e w' ⟨rfl, rfl⟩; rw [h])
    go_ret
    exact ⟨rfl, Below.refl _ _⟩
  · have h5 : a < s.now := by omega
    clear h2 h3
    go_enter Try.func13, Try.ntmps13
    go_wp2_with (go_at_call 35; refine (rident_ok key hk _).mono ?_; rintro e w' ⟨rfl, rfl⟩; rw [h])
    go_ret
    exact ⟨rfl, Below.refl _ _⟩
theorem rset_7 (hk : key.size ≤ 9223372036854775807) (h : identOk key = true) (h2 : posT s.now a) (i : Nat) (hf : findK key s.ts = some i) (r : RRep w B p s) : Calls Try.prog 13 #[.pointer (some ⟨p, 0, none⟩), .string key, .int .i64 a] w fun e w' => e = .returned (.int .i64 7) ∧ Below w.heap.size w w' := by
  have HF := rfind_any B p s key w r
  rw [hf] at HF
  replace HF := Lib.hid HF
  obtain ⟨hB, A, c, B0, hr⟩ := r
  have c1 := B0.c1
  obtain ⟨h3, h4⟩ := h2
  have h5 : ¬ a < s.now := by omega
  have h6 : ¬ 1099511627776 < a := by omega
  clear hr hf
  go_enter Try.func13, Try.ntmps13
  go_wp2_with (first
    | (go_at_call 35; refine (rident_ok key hk _).mono ?_; rintro e w' ⟨rfl, rfl⟩; rw [h])
    | (go_at_call 36; refine HF.out.mono ?_; rintro e w1 ⟨rfl, rfl⟩; rw [show idxI (some i) = (i : Int) from rfl]))
  go_ret
  exact ⟨rfl, Below.refl _ _⟩
theorem rset_12 (hk : key.size ≤ 9223372036854775807) (h : identOk key = true) (h2 : posT s.now a) (hf : findK key s.ts = none) (hl : 256 ≤ s.ts.length) (r : RRep w B p s) : Calls Try.prog 13 #[.pointer (some ⟨p, 0, none⟩), .string key, .int .i64 a] w fun e w' => e = .returned (.int .i64 12) ∧ Below w.heap.size w w' := by
  have HF := rfind_any B p s key w r
  rw [hf] at HF
  replace HF := Lib.hid HF
  obtain ⟨hB, A, c, B0, hr⟩ := r
  have c1 := B0.c1
  have c0 := B0.c0
  obtain ⟨h3, h4⟩ := h2
  have h5 : ¬ a < s.now := by omega
  have h6 : ¬ 1099511627776 < a := by omega
  have h7 : (256 : Int) ≤ s.ts.length := by omega
  clear hr hf
  go_enter Try.func13, Try.ntmps13
  go_wp2_with (first
    | (go_at_call 35; refine (rident_ok key hk _).mono ?_; rintro e w' ⟨rfl, rfl⟩; rw [h])
    | (go_at_call 36; refine HF.out.mono ?_; rintro e w1 ⟨rfl, rfl⟩; rw [show idxI none = -1 from rfl]))
  go_ret
  exact ⟨rfl, Below.refl _ _⟩
set_option maxRecDepth 100000 in
theorem rset_0 (hk : key.size ≤ 9223372036854775807) (h : identOk key = true) (h2 : posT s.now a) (hf : findK key s.ts = none) (hl : s.ts.length < 256) (o : s.Ok) (hBw : B ≤ w.heap.size) (r : RRep w B p s) :
    Calls Try.prog 13 #[.pointer (some ⟨p, 0, none⟩), .string key, .int .i64 a] w fun e w' => e = .returned (.int .i64 0) ∧ RRep w' B p { s with ts := insT ⟨key, a⟩ s.ts } ∧ Turn B [55] false w w' := by
  have HF := rfind_any B p s key w r
  rw [hf] at HF
  replace HF := Lib.hid HF
  have HP := rput_any B p s ⟨key, a⟩ (by omega) w hBw r
  unfold RPutRet at HP
  rw [insR_eq o.1] at HP
  replace HP := Lib.hid HP
  obtain ⟨hB, A, c, B0, hr⟩ := r
  have c1 := B0.c1
  have c0 := B0.c0
  obtain ⟨h3, h4⟩ := h2
  have h5 : ¬ a < s.now := by omega
  have h6 : ¬ 1099511627776 < a := by omega
  have h7 : ¬ (256 : Int) ≤ s.ts.length := by omega
  clear hr hf
  go_enter Try.func13, Try.ntmps13
  go_wp2_with (first
    | (go_at_call 35; refine (rident_ok key hk _).mono ?_; rintro e w' ⟨rfl, rfl⟩; rw [h])
    | (go_at_call 36; refine HF.out.mono ?_; rintro e w1 ⟨rfl, rfl⟩; rw [show idxI none = -1 from rfl])
    | (go_at_call 37; refine HP.out.mono ?_; rintro e w2 ⟨rfl, R2, T2⟩))
  go_ret
  exact ⟨rfl, R2, T2⟩
end
theorem rset_any (B p : Nat) (s : TS) (key : ByteArray) (a : Int) (hk : key.size ≤ 9223372036854775807) (o : s.Ok) (w : World) (hBw : B ≤ w.heap.size) (r : RRep w B p s) :
    Calls Try.prog 13 #[.pointer (some ⟨p, 0, none⟩), .string key, .int .i64 a] w (RSetRet B p s key a w) := by
  have no : ∀ n : Int, n ≠ 0 → setE s key a = n → ∀ e w', (e = .returned (.int .i64 n) ∧ Below w.heap.size w w') → RSetRet B p s key a w e w' := fun n hn he e w' ⟨h1, h2⟩ =>
    ⟨by rw [he]; exact h1, by unfold setS; rw [he, if_neg hn]; exact r.call h2, Turn.of_below h2 hBw⟩
  cases h : identOk key with
  | false => exact (rset_5 p key a w h hk).mono (no 5 (by decide) (by unfold setE; rw [if_pos h]))
  | true =>
    have n1 : ¬ identOk key = false := by rw [h]; decide
    by_cases h2 : posT s.now a
    · have n2 : ¬ ¬ posT s.now a := fun e => e h2
      cases h3 : findK key s.ts with
      | some i => exact (rset_7 B p s key a w hk h h2 i h3 r).mono (no 7 (by decide) (by unfold setE; rw [if_neg n1, if_neg n2, h3]; rfl))
      | none =>
        have n3 : ¬ (findK key s.ts).isSome = true := by rw [h3]; decide
        by_cases h4 : 256 ≤ s.ts.length
        · exact (rset_12 B p s key a w hk h h2 h3 h4 r).mono (no 12 (by decide) (by unfold setE; rw [if_neg n1, if_neg n2, if_neg n3, if_pos h4]))
        · have he : setE s key a = 0 := by unfold setE; rw [if_neg n1, if_neg n2, if_neg n3, if_neg h4]
          refine (rset_0 B p s key a w hk h h2 h3 (by omega) o hBw r).mono fun e w' ⟨e1, e2, e3⟩ => ⟨by rw [he]; exact e1, ?_, e3⟩
          unfold setS
          rw [if_pos he]
          exact e2
    · exact (rset_14 B p s key a w hk h h2 r).mono (no 14 (by decide) (by unfold setE; rw [if_neg n1, if_pos h2]))
end Go.Proofs.Ytmkcpgdjbbcigaa
