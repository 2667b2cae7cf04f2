/-
  Timer: Move, Cancel, At and Next in one form each; walks over the chapter's. Condition: the state is one that the calls make.
-/
import Derived.Test.YtmkcpgdjbbcigaaWt
namespace Go.Proofs.Ytmkcpgdjbbcigaa
open Go.RowKit
set_option linter.unusedVariables false

def canE (s : TS) (key : ByteArray) : Int := match findK key s.ts with | none => 6 | some _ => 0
def canS (s : TS) (key : ByteArray) : TS := match findK key s.ts with | none => s | some i => { s with ts := remT i 1 s.ts }
def movE (s : TS) (key : ByteArray) (a : Int) : Int := match findK key s.ts with | none => 6 | some _ => if posT s.now a then 0 else 14
def movS (s : TS) (key : ByteArray) (a : Int) : TS := match findK key s.ts with | none => s | some i => if posT s.now a then { s with ts := insT ⟨key, a⟩ (remT i 1 s.ts) } else s
def atN (s : TS) (key : ByteArray) : Int := match findK key s.ts with | none => 0 | some i => (s.ts.getD i ⟨⟨#[]⟩, 0⟩).at_
def atB (s : TS) (key : ByteArray) : Bool := (findK key s.ts).isSome
def nexN (s : TS) : Int := match s.ts with | [] => 0 | x :: _ => x.at_
def nexB (s : TS) : Bool := match s.ts with | [] => false | _ :: _ => true
theorem TS.Ok.can {s : TS} (o : s.Ok) (key : ByteArray) : (canS s key).Ok := by
  unfold canS
  split
  · exact o
  · exact o.rem _ _
theorem TS.Ok.mov {s : TS} (o : s.Ok) (key : ByteArray) (a : Int) : (movS s key a).Ok := by
  unfold movS
  split
  · exact o
  · rename_i i h
    split
    · exact o.move _ (findK_lt h)
    · exact o

section
variable (B p : Nat) (s : TS) (key : ByteArray) (a : Int) (w : World)
theorem can_any (o : s.Ok) (hBw : B ≤ w.heap.size) (r : TRep w B p s) : Calls Try.prog 16 #[.pointer (some ⟨p, 0, none⟩), .string key] w fun e w' => e = .returned (.int .i64 (canE s key)) ∧ TRep w' B p (canS s key) ∧ Turn B [52, 61] false w w' := by
  unfold canE canS
  cases h : findK key s.ts with
  | none => exact (cancel_none B p s key h w r).mono fun e w' ⟨h1, h2⟩ => ⟨h1, r.call h2, Turn.of_below h2 hBw⟩
  | some i => exact cancel_ok B p s key i h w hBw r
theorem mov_any (o : s.Ok) (hBw : B ≤ w.heap.size) (r : TRep w B p s) : Calls Try.prog 14 #[.pointer (some ⟨p, 0, none⟩), .string key, .int .i64 a] w fun e w' => e = .returned (.int .i64 (movE s key a)) ∧ TRep w' B p (movS s key a) ∧ Turn B [52, 61] false w w' := by
  unfold movE movS
  cases h : findK key s.ts with
  | none => exact (move_none B p s key a h w r).mono fun e w' ⟨h1, h2⟩ => ⟨h1, r.call h2, Turn.of_below h2 hBw⟩
  | some i =>
    by_cases h2 : posT s.now a
    · simp only [if_pos h2]
      exact move_ok B p s ⟨key, a⟩ i h (by have := o.2; omega) h2 w hBw r
    · simp only [if_neg h2]
      exact (move_14 B p s key a i h h2 w r).mono fun e w' ⟨h1, h2⟩ => ⟨h1, r.call h2, Turn.of_below h2 hBw⟩
theorem at_any (r : TRep w B p s) : Calls Try.prog 21 #[.pointer (some ⟨p, 0, none⟩), .string key] w fun e w' => e = .returned (.tuple #[.int .i64 (atN s key), .bool (atB s key)]) ∧ Below w.heap.size w w' := by
  unfold atN atB
  cases h : findK key s.ts with
  | none => exact at_none B p s key h w r
  | some i =>
    have hi := findK_lt h
    have hx : s.ts[i]? = some (s.ts[i]) := List.getElem?_eq_getElem hi
    have hg : s.ts.getD i ⟨⟨#[]⟩, 0⟩ = s.ts[i] := by simp [List.getD, hx]
    simp only [hg]
    exact at_some B p s key i _ h hx w r
theorem next_any (r : TRep w B p s) : Calls Try.prog 23 #[.pointer (some ⟨p, 0, none⟩)] w fun e w' => e = .returned (.tuple #[.int .i64 (nexN s), .bool (nexB s)]) ∧ w = w' := by
  unfold nexN nexB
  cases h : s.ts with
  | nil => exact next_none B p s (by rw [h]; rfl) w r
  | cons x l => exact next_some B p s x (by rw [h]; rfl) w r
theorem rnext_any (r : RRep w B p s) : Calls Try.prog 24 #[.pointer (some ⟨p, 0, none⟩)] w fun e w' => e = .returned (.tuple #[.int .i64 (nexN s), .bool (nexB s)]) ∧ w = w' := by
  unfold nexN nexB
  cases h : s.ts with
  | nil => exact rnext_none B p s (by rw [h]; rfl) w r
  | cons x l => exact rnext_some B p s x (by rw [h]; rfl) w r

theorem rcan_none (hf : findK key s.ts = none) (r : RRep w B p s) : Calls Try.prog 17 #[.pointer (some ⟨p, 0, none⟩), .string key] w fun e w' => e = .returned (.int .i64 6) ∧ w = w' := by
  have HF := rfind_any B p s key w r
  rw [hf] at HF
  replace HF := Lib.hid HF
  go_enter Try.func17, Try.ntmps17
  go_wp2_with (go_at_call 36; refine HF.out.mono ?_; rintro e w' ⟨rfl, rfl⟩; rw [show idxI none = -1 from rfl])
  go_ret
  exact ⟨rfl, rfl⟩
theorem rcan_ok (i : Nat) (hf : findK key s.ts = some i) (o : s.Ok) (hBw : B ≤ w.heap.size) (r : RRep w B p s) : Calls Try.prog 17 #[.pointer (some ⟨p, 0, none⟩), .string key] w fun e w' => e = .returned (.int .i64 0) ∧ RRep w' B p { s with ts := remT i 1 s.ts } ∧ Turn B [55] false w w' := by
  have HF := rfind_any B p s key w r
  rw [hf] at HF
  replace HF := Lib.hid HF
  have HD := Lib.hid (rremove_any B p s i (findK_lt hf) (by have := o.2; omega) w hBw r)
  go_enter Try.func17, Try.ntmps17
  go_wp2_with (first
    | (go_at_call 36; refine HF.out.mono ?_; rintro e w' ⟨rfl, rfl⟩; rw [show idxI (some i) = (i : Int) from rfl])
    | (go_at_call 39; refine HD.out.mono ?_; rintro e w2 ⟨rfl, R2, T2⟩))
  go_ret
  exact ⟨rfl, R2, T2⟩
theorem rcan_any (o : s.Ok) (hBw : B ≤ w.heap.size) (r : RRep w B p s) : Calls Try.prog 17 #[.pointer (some ⟨p, 0, none⟩), .string key] w fun e w' => e = .returned (.int .i64 (canE s key)) ∧ RRep w' B p (canS s key) ∧ Turn B [55] false w w' := by
  unfold canE canS
  cases h : findK key s.ts with
  | none => exact (rcan_none B p s key w h r).mono fun e w' ⟨h1, h2⟩ => ⟨h1, h2 ▸ r, h2 ▸ Turn.refl _ _ _ _⟩
  | some i => exact rcan_ok B p s key w i h o hBw r
theorem rmov_none (hf : findK key s.ts = none) (r : RRep w B p s) : Calls Try.prog 15 #[.pointer (some ⟨p, 0, none⟩), .string key, .int .i64 a] w fun e w' => e = .returned (.int .i64 6) ∧ w = w' := by
  have HF := rfind_any B p s key w r
  rw [hf] at HF
  replace HF := Lib.hid HF
  go_enter Try.func15, Try.ntmps15
  go_wp2_with (go_at_call 36; refine HF.out.mono ?_; rintro e w' ⟨rfl, rfl⟩; rw [show idxI none = -1 from rfl])
  go_ret
  exact ⟨rfl, rfl⟩
theorem rmov_14 (i : Nat) (hf : findK key s.ts = some i) (h2 : ¬ posT s.now a) (r : RRep w B p s) : Calls Try.prog 15 #[.pointer (some ⟨p, 0, none⟩), .string key, .int .i64 a] w fun e w' => e = .returned (.int .i64 14) ∧ w = w' := by
  have HF := rfind_any B p s key w r
  rw [hf] at HF
  replace HF := Lib.hid HF
  obtain ⟨hB, A, c, B0, hr⟩ := r
  have c1 := B0.c1
  clear hr
  unfold posT at h2
  by_cases h3 : s.now ≤ a
  · have h4 : 1099511627776 < a := by omega
    have h5 : ¬ a < s.now := by omega
    clear h2
    go_enter Try.func15, Try.ntmps15
    go_wp2_with (go_at_call 36; refine HF.out.mono ?_; rintro e w' ⟨rfl, rfl⟩; rw [show idxI (some i) = (i : Int) from rfl])
    go_ret
    exact ⟨rfl, rfl⟩
  · have h5 : a < s.now := by omega
    clear h2 h3
    go_enter Try.func15, Try.ntmps15
    go_wp2_with (go_at_call 36; refine HF.out.mono ?_; rintro e w' ⟨rfl, rfl⟩; rw [show idxI (some i) = (i : Int) from rfl])
    go_ret
    exact ⟨rfl, rfl⟩
theorem rmov_ok (i : Nat) (hf : findK key s.ts = some i) (h2 : posT s.now a) (o : s.Ok) (hBw : B ≤ w.heap.size) (r : RRep w B p s) :
    Calls Try.prog 15 #[.pointer (some ⟨p, 0, none⟩), .string key, .int .i64 a] w fun e w' => e = .returned (.int .i64 0) ∧ RRep w' B p { s with ts := insT ⟨key, a⟩ (remT i 1 s.ts) } ∧ Turn B [55] false w w' := by
  have HF := rfind_any B p s key w r
  rw [hf] at HF
  replace HF := Lib.hid HF
  have hi := findK_lt hf
  have HD := Lib.hid (rremove_any B p s i hi (by have := o.2; omega) w hBw r)
  have HO := Lib.hid o
  have hl := o.2
  obtain ⟨hB, A, c, B0, hr⟩ := r
  have c1 := B0.c1
  obtain ⟨h3, h4⟩ := h2
  have h5 : ¬ a < s.now := by omega
  have h6 : ¬ 1099511627776 < a := by omega
  clear hr hf o
  go_enter Try.func15, Try.ntmps15
  go_wp2_with (first
    | (go_at_call 36; refine HF.out.mono ?_; rintro e w' ⟨rfl, rfl⟩; rw [show idxI (some i) = (i : Int) from rfl])
    | (go_at_call 39
       refine HD.out.mono ?_
       rintro e w2 ⟨rfl, R2, T2⟩
       have hl2 : ({ s with ts := remT i 1 s.ts } : TS).ts.length < 1000 := by
         show (remT i 1 s.ts).length < 1000
         rw [remT_len hi]
         omega
       have HP := rput_any B p { s with ts := remT i 1 s.ts } ⟨key, a⟩ hl2 w2 (Nat.le_trans hBw T2.size) R2
       unfold RPutRet at HP
       rw [insR_eq (HO.out.rem i 1).1] at HP
       replace HP := Lib.hid HP
       have T2' := Lib.hid T2
       clear R2 T2 hl2)
    | (go_at_call 37; refine HP.out.mono ?_; rintro e w3 ⟨rfl, R3, T3⟩))
  go_ret
  exact ⟨rfl, R3, T2'.out.trans T3⟩
theorem rmov_any (o : s.Ok) (hBw : B ≤ w.heap.size) (r : RRep w B p s) : Calls Try.prog 15 #[.pointer (some ⟨p, 0, none⟩), .string key, .int .i64 a] w fun e w' => e = .returned (.int .i64 (movE s key a)) ∧ RRep w' B p (movS s key a) ∧ Turn B [55] false w w' := by
  unfold movE movS
  cases h : findK key s.ts with
  | none => exact (rmov_none B p s key a w h r).mono fun e w' ⟨h1, h2⟩ => ⟨h1, h2 ▸ r, h2 ▸ Turn.refl _ _ _ _⟩
  | some i =>
    by_cases h2 : posT s.now a
    · simp only [if_pos h2]
      exact rmov_ok B p s key a w i h h2 o hBw r
    · simp only [if_neg h2]
      exact (rmov_14 B p s key a w i h h2 r).mono fun e w' ⟨h1, h2⟩ => ⟨h1, h2 ▸ r, h2 ▸ Turn.refl _ _ _ _⟩
theorem rat_none (hf : findK key s.ts = none) (r : RRep w B p s) : Calls Try.prog 22 #[.pointer (some ⟨p, 0, none⟩), .string key] w fun e w' => e = .returned (.tuple #[.int .i64 0, .bool false]) ∧ Below w.heap.size w w' := by
  have HF := rfind_any B p s key w r
  rw [hf] at HF
  replace HF := Lib.hid HF
  go_enter Try.func22, Try.ntmps22
  go_wp2_with (go_at_call 36; refine HF.out.mono ?_; rintro e w' ⟨rfl, rfl⟩; rw [show idxI none = -1 from rfl])
  go_ret2
  exact ⟨rfl, Below.refl _ _⟩
set_option maxHeartbeats 800000 in
theorem rat_some (i : Nat) (x : Ti) (hf : findK key s.ts = some i) (hx : s.ts[i]? = some x) (r : RRep w B p s) : Calls Try.prog 22 #[.pointer (some ⟨p, 0, none⟩), .string key] w fun e w' => e = .returned (.tuple #[.int .i64 x.at_, .bool true]) ∧ Below w.heap.size w w' := by
  have HF := rfind_any B p s key w r
  rw [hf] at HF
  replace HF := Lib.hid HF
  have HF2 := rfind_any B p s key w.drew (r.drewN 1)
  rw [hf] at HF2
  replace HF2 := Lib.hid HF2
  have hi := findK_lt hf
  obtain ⟨hB, A, c, B0, hr⟩ := r
  obtain ⟨g, rfl, _, hgl, hcell, _⟩ := hr.cells (by omega)
  have g1 := hcell (i * 2 + 1) (.int .i64 x.at_) (by rw [atM tiC 2 tiC2 _ i _ 1 hx (by decide)]; rfl)
  have e0 := fun n : Cls (UpC w) => (B0.call n.2).c0
  have e1 := fun n : Cls (UpC w) => (Below.cell n.2 (p := ⟨g, i * 2 + 1, none⟩) hgl).trans g1
  have q2 : (i : Int) < s.ts.length := by omega
  clear hcell hr hx hf g1
  go_enter Try.func22, Try.ntmps22
  go_wp2_with (go_at_call 36; refine HF.out.mono ?_; rintro e w' ⟨rfl, rfl⟩; rw [show idxI (some i) = (i : Int) from rfl])
  rename_i K0 hKK
  refine wp_region_reg (UpC w) 12 rfl (by kernel_rfl) ?_
  have T : UpC w w.drew := (Below.refl _ _).drew
  haveI : Nonempty (Cls (UpC w)) := ⟨⟨_, T⟩⟩
  refine reg_seg (f := 6) (by kernel_rfl) [0, 1, 2, 3, 4, 5] _ _ _ T (by kernel_rfl) ?_
  simp only [pickL, List.filterMap_cons, List.filterMap_nil, List.getElem?_toArray, List.getElem?_cons_zero, List.getElem?_cons_succ]
  show wpQuiet _ _ _ _ [_, _, _, _, _, _] _
  repeat (go_big_quiet_step (fail))
  refine wpQuiet_nil ?_
  refine reg_call 6 _ (by kernel_rfl) rfl rfl ?_
  go_simp
  refine HF2.out.mono ?_
  rintro e x1 ⟨rfl, rfl⟩
  refine ⟨T, ?_⟩
  rw [show idxI (some i) = (i : Int) from rfl]
  refine reg_seg (f := 0) (by kernel_rfl) [7, 8, 9, 10, 11] _ _ _ T (by kernel_rfl) ?_
  simp only [pickL, List.filterMap_cons, List.filterMap_nil, List.getElem?_toArray, List.getElem?_cons_zero, List.getElem?_cons_succ]
  show wpQuiet _ _ _ _ [_, _, _, _, _] _
  repeat (go_big_quiet_step (fail))
  refine wpQuiet_nil ?_
  refine reg_end (by kernel_rfl) ?_
  refine hKK _ _ ?_
  clear e0 e1
  go_wp2_with fail
  go_ret2
  exact ⟨rfl, T⟩
theorem rat_any (r : RRep w B p s) : Calls Try.prog 22 #[.pointer (some ⟨p, 0, none⟩), .string key] w fun e w' => e = .returned (.tuple #[.int .i64 (atN s key), .bool (atB s key)]) ∧ Below w.heap.size w w' := by
  unfold atN atB
  cases h : findK key s.ts with
  | none => exact rat_none B p s key w h r
  | some i =>
    have hi := findK_lt h
    have hx : s.ts[i]? = some (s.ts[i]) := List.getElem?_eq_getElem hi
    have hg : s.ts.getD i ⟨⟨#[]⟩, 0⟩ = s.ts[i] := by simp [List.getD, hx]
    simp only [hg]
    exact rat_some B p s key w i _ h hx r
end
end Go.Proofs.Ytmkcpgdjbbcigaa
