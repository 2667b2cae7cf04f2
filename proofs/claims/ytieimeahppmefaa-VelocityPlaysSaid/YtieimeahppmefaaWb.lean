/-
  Velocity: walks over remove and Add. Condition: the state is one that the calls make.
-/
import Derived.Test.YtieimeahppmefaaWa
import Derived.Test.YtieimeahppmefaaCopy
namespace Go.Proofs.Ytieimeahppmefaa
open Go.RowKit
set_option linter.unusedVariables false

theorem us_one {l : List Us} : ∀ v ∈ l.flatMap usC, v.oneCell' = true := by
  intro v hv
  obtain ⟨u, _, hu⟩ := List.mem_flatMap.1 hv
  simp [usC] at hu
  rcases hu with rfl | rfl | rfl <;> rfl

def Cut (s : VS) (i k : Nat) : VS := { s with us := s.us.take i ++ s.us.drop (i + k) }

theorem Cut_len {s : VS} {i k : Nat} (h : i + k ≤ s.us.length) : (Cut s i k).us.length = s.us.length - k := by
  unfold Cut
  simp only [List.length_append, List.length_take, List.length_drop]
  omega
theorem Cut_cells (s : VS) (i k : Nat) : (Cut s i k).us.flatMap usC = (s.us.flatMap usC).take (i * 3) ++ (s.us.flatMap usC).drop ((i + k) * 3) := by
  unfold Cut
  rw [List.flatMap_append, take3 usC usC3, drop3 usC usC3]
theorem blk3_set {w : World} {g : Nat} {t : TypeId} {x y z : Value} (h : Blk w g t #[x, y, z]) (u : Value) : Blk (w.setCell ⟨g, 2, none⟩ u) g t #[x, y, u] := by
  simpa using h.set_ 2 u
theorem cut_rep {B p g c i k q : Nat} {s : VS} {cur : Array Value} {w1 : World} {V : Value} (hBp : B ≤ p) (hBg : B ≤ g) (hik : i + k ≤ s.us.length) (hnc : s.us.length ≤ c) (hcm : c ≤ maxLen)
    (D0 : Blk w1 p 52 #[.int .i64 s.h, .int .i64 s.last, V]) (D1 : Blk w1 g 56 (splice cur.toList (i * 3) ((s.us.flatMap usC).drop ((i + k) * 3))).toArray)
    (hx : cur.toList.take (s.us.length * 3) = s.us.flatMap usC) (hs : cur.size = c * 3) :
    VRep ((w1.drewN q).setCell ⟨p, 2, none⟩ (.slice (some ⟨g, 0, none⟩) (s.us.length - k) c)) B p (Cut s i k) := by
  have hne : p ≠ g := D0.ne_ D1 (by decide)
  have hflat : (s.us.flatMap usC).length = s.us.length * 3 := len3 usC usC3 s.us
  refine ⟨hBp, some ⟨g, 0, none⟩, c, ?_, ?_⟩
  · rw [Cut_len hik]
    exact blk3_set (D0.drewN q) _
  · rw [Cut_len hik, Cut_cells]
    refine ⟨?_, .inr ⟨g, c, _, rfl, hBg, (D1.drewN q).far (Ne.symm hne) _, by omega, hcm, ?_, ?_⟩⟩
    · rw [List.length_append, List.length_take, List.length_drop, hflat]
      omega
    · rw [List.size_toArray, length_splice _ _ _ (by rw [List.length_drop, hflat, Array.length_toList]; omega)]
      simpa using hs
    · exact splice_take (s.us.flatMap usC) i k s.us.length 3 hik hflat cur.toList hx

set_option maxHeartbeats 800000 in
theorem remove_any (B p : Nat) (s : VS) (hl : s.us.length ≤ 1000) (i k : Nat) (hik : i + k ≤ s.us.length) (w : World) (hBw : B ≤ w.heap.size) (r : VRep w B p s) :
    Calls Try.prog 27 #[.pointer (some ⟨p, 0, none⟩), .int .i64 i, .int .i64 k] w fun e w' => e = .returned (.tuple #[]) ∧ VRep w' B p (Cut s i k) ∧ Turn B [52, 56] false w w' := by
  obtain ⟨hBp, A, c, B0, hown⟩ := r
  obtain ⟨hnc, hcm⟩ := own_len hown
  have hcm0 := hcm
  replace hcm : c ≤ 9223372036854775807 := by unfold maxLen at hcm; omega
  have hi : i ≤ s.us.length := by omega
  have hk : k ≤ s.us.length := by omega
  have HO := Lib.hid hown
  have c2 := fun n => (B0.drewN n).c 2 _ rfl
  have f2 := fun n => (B0.drewN n).frozen
  clear hown
  rcases HO.out.2 with ⟨hv, h0⟩ | ⟨g, cap, cur, hv, hb, hh, _, _, hcs, hx⟩
  · injection hv with e1 _ e3
    subst e1 e3
    obtain ⟨rfl, rfl⟩ : i = 0 ∧ k = 0 := by omega
    have hu : s.us = [] := List.eq_nil_of_length_eq_zero h0
    have H0 := Lib.hid h0
    have HU := Lib.hid hu
    rw [h0] at B0 c2
    clear hi hk hik hl hnc h0 hu
    go_enter Try.func27, Try.ntmps27
    go_wp2_with fail
    refine wp_region_quiet_tail (C := fun w' => ∃ q : Nat, w' = w.drewN q) 14 (by kernel_rfl) (by kernel_rfl) ⟨1, rfl⟩ ?_
    simp only [List.take_succ_cons, List.take_zero, List.drop_succ_cons, List.drop_zero]
    repeat (go_big_quiet_step (fail))
    refine wpQuiet_nil ?_
    rintro _ ⟨q, rfl⟩
    refine wpList_copyZ (.tmp 11) (.tmp 19) rfl 50 50 rfl 56 Try.underlying50 (by kernel_rfl) _ _ _ _ _ _ rfl rfl rfl ?_
    go_wp2_with fail
    go_frame
    refine wp_region_quiet_tail (C := fun w' => ∃ q : Nat, w' = w.drewN q) 15 (by kernel_rfl) (by kernel_rfl) ⟨q + 1, World.drewN_drewN w q 1⟩ ?_
    simp only [List.take_succ_cons, List.take_zero, List.drop_succ_cons, List.drop_zero]
    repeat (go_big_quiet_step (fail))
    refine wpQuiet_nil ?_
    rintro _ ⟨q1, rfl⟩
    go_wp2
    go_end0
    refine ⟨rfl, ?_, ((Turn.refl _ _ _ w).drewN q1).setB (B0.drewN q1) rfl hBp 2 _⟩
    have e : Cut s 0 0 = s := by unfold Cut; simp
    rw [e]
    refine ⟨hBp, none, 0, by rw [H0.out]; exact blk3_set (B0.drewN q1) _, ?_⟩
    rw [H0.out, HU.out]
    exact World.ownsRow_nil _ _ _ _
  · injection hv with e1 _ e3
    subst e1 e3
    have HX := Lib.hid hx
    have HS := Lib.hid hcs
    have HH := Lib.hid hh
    clear hx hcs hh
    go_enter Try.func27, Try.ntmps27
    go_wp2_with fail
    refine wp_region_quiet_tail (C := fun w' => ∃ q : Nat, w' = w.drewN q) 14 (by kernel_rfl) (by kernel_rfl) ⟨1, rfl⟩ ?_
    simp only [List.take_succ_cons, List.take_zero, List.drop_succ_cons, List.drop_zero]
    repeat (go_big_quiet_step (fail))
    refine wpQuiet_nil ?_
    rintro _ ⟨q, rfl⟩
    have hflat : (s.us.flatMap usC).length = s.us.length * 3 := len3 usC usC3 s.us
    have hcur : s.us.length * 3 ≤ cur.size := by have := HS.out; omega
    refine wpList_copyN 3 (.tmp 11) (.tmp 19) rfl 50 50 rfl 56 Try.underlying50 (by kernel_rfl) _ _ _ _ _ _ rfl rfl g (i * 3) cur 56 (Blk.drewN HH.out q) ((s.us.flatMap usC).drop ((i + k) * 3)) ?_ (by decide) ?_ ?_ ?_ ?_
    · have e : (s.us.length - (i + k)).min (s.us.length - i) = s.us.length - (i + k) := Nat.min_eq_left (by omega)
      rw [List.length_drop, hflat, e]
      omega
    · intro hpos
      rw [List.length_drop, hflat] at hpos
      refine ⟨by rw [if_neg (by omega)], ⟨g, (i + k) * 3, none⟩, by rw [if_neg (by omega)], fun j v hv => ?_⟩
      rw [Addr.add_lit]
      refine (Blk.drewN HH.out q).c _ v ?_
      rw [List.getElem?_drop, ← HX.out, List.getElem?_take] at hv
      split at hv
      · simpa using hv
      · cases hv
    · rw [List.length_drop, hflat]; omega
    · exact fun v hv => us_one v (List.mem_of_mem_drop hv)
    · intro w1 B1 hg1
      generalize (if c = i then some (⟨g, 0, none⟩ : Addr) else some ⟨g, i * 3, none⟩) = A1
      generalize (if c = i + k then some (⟨g, 0, none⟩ : Addr) else some ⟨g, (i + k) * 3, none⟩) = A2
      generalize (s.us.length - (i + k)).min (s.us.length - i) = m1
      have hne : p ≠ g := B0.ne_ (Blk.drewN HH.out 0) (by decide)
      have D0 := (B0.drewN q).grown hg1 (by simpa using hne)
      have T1 : Turn B [52, 56] false w w1 := (Turn.refl _ _ _ w).grownBy (c := w1) (HO.out) ⟨hg1.os, hg1.tape, hg1.output, hg1.size, hg1.block⟩ rfl hBw
      have HB := Lib.hid B1
      have H1 := Lib.hid hflat
      have H2 := Lib.hid hcur
      clear c2 f2 B0 B1 hflat hcur
      have c2 := fun n => (D0.drewN n).c 2 _ rfl
      have f2 := fun n => (D0.drewN n).frozen
      clear hg1
      have e1 : IntKind.i64.wrap ((s.us.length : Int) - k) = s.us.length - k := IntWalk.i64_in _ (by omega)
      have e2 : (0 : Int) ≤ (s.us.length : Int) - k := by omega
      have e3 : (s.us.length : Int) - k ≤ c := by omega
      have e4 : ((s.us.length : Int) - k).toNat = s.us.length - k := by omega
      go_wp2_with fail
      go_frame
      refine wp_region_quiet_tail (C := fun w' => ∃ q : Nat, w' = w1.drewN q) 15 (by kernel_rfl) (by kernel_rfl) ⟨1, rfl⟩ ?_
      simp only [List.take_succ_cons, List.take_zero, List.drop_succ_cons, List.drop_zero]
      repeat (go_big_quiet_step (fail))
      refine wpQuiet_nil ?_
      rintro _ ⟨q1, rfl⟩
      go_wp2
      go_end0
      refine ⟨rfl, cut_rep hBp hb hik hnc hcm0 D0 HB.out HX.out HS.out, ?_⟩
      exact (T1.drewN q1).setB (D0.drewN q1) rfl hBp 2 _
end Go.Proofs.Ytieimeahppmefaa
