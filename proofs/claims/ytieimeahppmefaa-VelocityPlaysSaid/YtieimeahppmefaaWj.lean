/-
  Velocity: walks over the chapter's kept and in. Condition: the state is one that the calls make.
-/
import Derived.Test.YtieimeahppmefaaWd
namespace Go.Proofs.Ytieimeahppmefaa
open Go.RowKit
set_option linter.unusedVariables false

theorem rUseE : ElemT Try.prog 59 64 (.agg #[.string ⟨#[]⟩, .int .i64 0, .int .i64 0]) 3 32 := ⟨Try.underlying59, by kernel_rfl, rfl, by decide⟩
/-- The call returns a row of its own that holds the uses L. -/
def RetU (L : List Us) (w : World) (e : Ending) (w' : World) : Prop :=
  ∃ v, e = .returned v ∧ w'.ownsRow w.heap.size 64 3 v L.length (L.flatMap usC) ∧ Below w.heap.size w w'
theorem young_take_yes {b : Int} {l : List Us} {k : Nat} (h : k < l.length) (ho : isOld b l[k] = false) : young b (l.take (k + 1)) = young b (l.take k) ++ [l[k]] := by
  rw [List.take_succ_eq_append_getElem h]
  unfold young
  rw [List.filter_append]
  simp [ho]
theorem young_take_no {b : Int} {l : List Us} {k : Nat} (h : k < l.length) (ho : isOld b l[k] = true) : young b (l.take (k + 1)) = young b (l.take k) := by
  rw [List.take_succ_eq_append_getElem h]
  unfold young
  rw [List.filter_append]
  simp [ho]
theorem flat_snoc (l : List Us) (u : Us) : (l ++ [u]).flatMap usC = l.flatMap usC ++ [.string u.key, .int .i64 u.at_, .int .i64 u.am] := by
  rw [List.flatMap_append]
  rfl

set_option maxHeartbeats 800000 in
theorem kept_any (B p : Nat) (s : VS) (o : s.Ok) (a : Int) (ha : isT a) (w : World) (r : RRep w B p s) :
    Calls Try.prog 30 #[.pointer (some ⟨p, 0, none⟩), .int .i64 a] w (RetU (young (a - s.h) s.us) w) := by
  obtain ⟨hBp, A, c, B0, hown⟩ := r
  have HO := Lib.hid hown
  have hpl := B0.lt
  have c0 := blk3_c0 B0
  have c1 := blk3_c1 B0
  have o1 := o.h1; have o2 := o.h2; have o3 := o.len
  obtain ⟨h4, h5⟩ := ha
  unfold maxTime at h5
  clear hown
  go_enter Try.func30, Try.ntmps30
  go_wp2_with fail
  go_loopw [5, 6] (fun v i wr => ∃ k : Nat, k ≤ s.us.length ∧ i = .int .i64 k ∧ wr.ownsRow w.heap.size 64 3 v (young (a - s.h) (s.us.take k)).length ((young (a - s.h) (s.us.take k)).flatMap usC) ∧ Below w.heap.size w wr) (fun _ i _ => s.us.length - (intOf i).toNat)
  case atStart => exact ⟨0, by omega, rfl, World.ownsRow_nil _ _ _ _, Below.refl _ _⟩
  case round =>
    obtain ⟨k, hk, rfl, own, hb⟩ := hrel
    have hD : ∀ n, Below w.heap.size w (wr.drewN n) := fun n => drewN_below hb n
    have d0 := fun n => ((hD n).cell (p := ⟨p, 0, none⟩) hpl).trans c0
    have d1 := fun n => ((hD n).cell (p := ⟨p, 1, none⟩) hpl).trans c1
    have d1' := (hb.cell (p := ⟨p, 1, none⟩) hpl).trans c1
    have hlen : (young (a - s.h) (s.us.take k)).length ≤ 1000 := Nat.le_trans (young_le _ _) (by rw [List.length_take]; omega)
    by_cases hlt : k < s.us.length
    · obtain ⟨g, rfl, hBg, hg, _, hcell, _⟩ := own_cells HO.out (by omega)
      have hu : s.us[k]? = some s.us[k] := List.getElem?_eq_getElem hlt
      have g0 := fun n => ((hD n).cell (p := ⟨g, k * 3, none⟩) hg).trans (hcell (k * 3) (.string s.us[k].key) (by have := at3 usC usC3 s.us k _ 0 hu (by decide); simpa [usC] using this))
      have g1 := fun n => ((hD n).cell (p := ⟨g, k * 3 + 1, none⟩) hg).trans (hcell (k * 3 + 1) (.int .i64 s.us[k].at_) (by rw [at3 usC usC3 s.us k _ 1 hu (by decide)]; rfl))
      have g2 := fun n => ((hD n).cell (p := ⟨g, k * 3 + 2, none⟩) hg).trans (hcell (k * 3 + 2) (.int .i64 s.us[k].am) (by rw [at3 usC usC3 s.us k _ 2 hu (by decide)]; rfl))
      have hz := hb.size
      have hy := young_take_yes (b := a - s.h) hlt
      have hn := young_take_no (b := a - s.h) hlt
      generalize s.us[k] = u at g0 g1 g2 hy hn
      obtain ⟨uk, ua, um⟩ := u
      simp only at g0 g1 g2
      have HY := Lib.hid hy
      have HN := Lib.hid hn
      clear hcell hu c0 c1 B0 hy hn
      by_cases ho : ua ≤ a - s.h
      · have hlt2 : ¬ a - s.h < ua := by omega
        have HW := Lib.hid (HN.out (by unfold isOld; simp [ho]))
        clear HY HN
        go_wp2_with fail
        go_quiet (fail)
        go_wp2_with fail
        go_roundw
        case rel => exact ⟨k + 1, by omega, by go_num, by rw [HW.out]; exact own, hD _⟩
        case measure => simp [intOf]; omega
      · have HW := Lib.hid (HY.out (by unfold isOld; simp [ho]))
        clear HY HN
        go_wp2_with fail
        go_quiet (fail)
        go_wp2_with (
          at_builtin
          go_must (refine wpList_push rUseE _ _ rfl rfl w.heap.size _ _ _ rfl ((World.ownsRow.alloc (w := wr.drewN _) own _)) _ #[.string uk, .int .i64 ua, .int .i64 um] (Blk.new _ 64 _) rfl rfl (fun u hu => by simp at hu; rcases hu with rfl | rfl | rfl <;> rfl) (by unfold maxLen; omega) (by omega) (by simp; omega) ?_)
          intro g2 cap w2 own2 hg2 hor)
        go_roundw
        case rel =>
          refine ⟨k + 1, by omega, by go_num, ?_, ((hD _).alloc (by exact hz) _).grown hg2 (by simp; omega) (fun q hq => (own.lt q hq).1)⟩
          rw [HW.out, flat_snoc, List.length_append]
          exact own2
        case measure => simp [intOf]; omega
    · have hkn : k = s.us.length := by omega
      have HT : Hid (s.us.take k = s.us) := Lib.hid (by rw [hkn, List.take_length])
      clear hkn
      go_wp2_with fail
      go_ret
      exact ⟨_, rfl, by rw [← HT.out]; exact own, hb⟩
end Go.Proofs.Ytieimeahppmefaa
