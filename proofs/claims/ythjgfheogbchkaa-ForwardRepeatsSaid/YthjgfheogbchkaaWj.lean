/-
  Forward: walk over the law ForwardRepeats. Condition: the gaps are a slice that lies as the language lays it.
-/
import Derived.Test.YthjgfheogbchkaaWf
namespace Go.Proofs.Ythjgfheogbchkaa
open Go.RowKit
set_option linter.unusedVariables false

abbrev ku : ByteArray := ⟨#[117]⟩
def QW (n due tr : Int) : FQ := ⟨n, [[107]], [⟨kk, tt, due, tr⟩]⟩
def QE (n : Int) : FQ := ⟨n, [[107]], []⟩
theorem QW_ok {n due tr : Int} (h1 : 1 ≤ n) (h2 : n ≤ 100000) (h3 : 0 ≤ tr) (h4 : tr ≤ 1000000) : (QW n due tr).Ok := ⟨h1, h2, by simp [QW], by intro x hx; simp [QW] at hx; subst hx; exact ⟨h3, h4⟩⟩
theorem QE_ok {n : Int} (h1 : 1 ≤ n) (h2 : n ≤ 100000) : (QE n).Ok := ⟨h1, h2, by simp [QE], by intro x hx; simp [QE] at hx⟩
theorem QW_no {n due tr t : Int} (h : t < due) : pollI t (QW n due tr).ws = [] ∧ ({ QW n due tr with ws := pollW t (QW n due tr).retry (QW n due tr).ws } : FQ) = QW n due tr := by simp [QW, pollI, pollW, h]
theorem QW_yes {n due tr t : Int} (h : ¬ t < due) : pollI t (QW n due tr).ws = [⟨kk, tt, tr + 1⟩] ∧ ({ QW n due tr with ws := pollW t (QW n due tr).retry (QW n due tr).ws } : FQ) = QW n (t + n) (tr + 1) := by simp [QW, pollI, pollW, h]
theorem QW_find (n due tr : Int) : findK kk (QW n due tr).ws = some 0 := by
  unfold QW findK
  rw [if_pos rfl]

/-- Where the queue stands before round k. -/
def RepAt (w : World) (B p : Nat) (n y now due tr : Int) (k : Nat) : Prop :=
  0 ≤ now ∧ now ≤ 255 * k ∧ 0 ≤ tr ∧ tr ≤ k ∧ ((k : Int) ≤ y → FRep w B p (QW n due tr)) ∧ (y < (k : Int) → FRep w B p (QE n))

set_option maxRecDepth 100000 in
set_option maxHeartbeats 3200000 in
theorem law_repeats (A : Option Addr) (m c : Nat) (gs : List Int) (x y : Int) (w : World) (hz : gs.length = m) (hm : m ≤ 9223372036854775807) (hg : ∀ g ∈ gs, 0 ≤ g ∧ g ≤ 255) (hr : RD w A m (gs.map (Value.int .u8))) (hx : 0 ≤ x ∧ x ≤ 255) (hy : 0 ≤ y ∧ y ≤ 255) :
    Calls Try.prog 4 #[.int .u8 x, .slice A m c, .int .u8 y] w fun e w' => e = .returned (.bool true) ∧ Below w.heap.size w w' := by
  have HR := Lib.hid hr
  have HZ := Lib.hid hz
  have HG := Lib.hid hg
  obtain ⟨x1, x2⟩ := hx
  obtain ⟨y1, y2⟩ := hy
  obtain ⟨B, hBB⟩ : ∃ B, w.heap.size = B := ⟨_, rfl⟩
  have HBB := Lib.hid hBB
  have heq := eq32
  clear hr hz hg
  obtain ⟨n, hn⟩ : ∃ n, 1 + x % 50 = n := ⟨_, rfl⟩
  have HN := Lib.hid hn
  have n1 : 1 ≤ n := by omega
  have n2 : n ≤ 50 := by omega
  clear hn
  by_cases h60 : 60 < m
  · clear hBB
    go_enter Try.func4, Try.ntmps4
    go_wp2_with fail
    rw [show 1 + x % 50 = n from HN.out]
    refine (new_ok n n1 (by omega) w).mono ?_
    rintro e w1 ⟨p, rfl, R1, b1⟩
    go_wp2_with (go_at_call 11; refine (awake_any _).mono ?_; rintro e w8 ⟨rfl, b8⟩)
    go_ret
    exact ⟨rfl, b1.trans (b8.mono b1.size)⟩
  · have h60' : m ≤ 60 := by omega
    clear h60
    go_enter Try.func4, Try.ntmps4
    go_wp2_with fail
    rw [show 1 + x % 50 = n from HN.out]
    refine (new_ok n n1 (by omega) w).mono ?_
    rintro e w1 ⟨p, rfl, R1, b1⟩
    have z1 := b1.size
    rw [hBB] at R1 z1 b1
    clear hBB
    have HP := Lib.hid (put_ok B p ⟨n, [], []⟩ 0 kk tt ⟨by decide, by decide, by decide, by decide⟩ (by simp) (by simp) (by simp) w1 z1 R1)
    clear R1
    go_wp2_with fail
    refine HP.out.mono ?_
    rintro e w2 ⟨rfl, R2, T2⟩
    replace R2 : FRep w2 B p (QW n 0 0) := R2
    have HR2 := Lib.hid R2
    have z2 := Nat.le_trans z1 T2.size
    have b2 := Lib.hid (b1.trans T2.below)
    clear R2 T2 b1
    go_wp2_with fail
    go_loopw [10, 11, 12, 13] (fun a b d i wr => ∃ (k : Nat) (now due tr : Int), k ≤ m ∧ i = .int .i64 k ∧ a = .int .i64 now ∧ b = .int .i64 due ∧ d = .int .i64 tr ∧ RepAt wr B p n y now due tr k ∧ Below B w wr) (fun _ _ _ i _ => m - (intOf i).toNat)
    case atStart => exact ⟨0, 0, 0, 0, by omega, rfl, rfl, rfl, rfl, ⟨by omega, by omega, by omega, by omega, fun _ => HR2.out, fun h => by omega⟩, b2.out⟩
    case round =>
      obtain ⟨k, now, due, tr, hk, rfl, rfl, rfl, rfl, ⟨q1, q2, q3, q4, q5, q6⟩, b⟩ := hrel
      have HB := Lib.hid b
      have zr := Nat.le_trans (Nat.le_of_eq HBB.out.symm) b.size
      have H5 := Lib.hid q5
      have H6 := Lib.hid q6
      clear q5 q6 b
      by_cases hlt : k < m
      · have hkl : k < gs.length := by rw [HZ.out]; exact hlt
        obtain ⟨bb, off, rfl, hbl, hcell⟩ := HR.out.2 (by omega)
        have HC : Hid (∀ wx, Below B w wx → wx.cell? ⟨bb, off + k, none⟩ = some (.int .u8 gs[k])) := Lib.hid (fun wx hb => (hb.cell (p := ⟨bb, off + k, none⟩) (by rw [← HBB.out]; exact hbl)).trans (hcell k (.int .u8 gs[k]) (by simp [hkl])))
        obtain ⟨v1, v2⟩ := HG.out _ (List.getElem_mem hkl)
        clear hcell
        generalize gs[k] = v at HC v1 v2
        have tnow : isT (now + v) := ⟨by omega, by omega⟩
        by_cases hky : (k : Int) < y
        · have R := Lib.hid (H5.out (by omega))
          have hc := HC.out wr HB.out
          have OK := QW_ok (n := n) (due := due) (tr := tr) n1 (by omega) q3 (by omega)
          have HPo := Lib.hid (poll_any B p (QW n due tr) OK (now + v) tnow wr zr R.out)
          have hge : ¬ y ≤ (k : Int) := by omega
          have hne : ¬ (k : Int) = y := by omega
          by_cases hdue : now + v < due
          · have hq := QW_no (n := n) (tr := tr) hdue
            have HQ := Lib.hid hq
            clear hq OK
            go_wp2_with fail
            refine HPo.out.mono ?_
            rintro e w3 ⟨A3, c3, rfl, W3, R3, T3⟩
            rw [HQ.out.2] at R3
            rw [HQ.out.1]
            have HR3 := Lib.hid R3
            have b3 := Lib.hid (HB.out.trans T3.below)
            clear R3 W3 T3 hc
            go_wp2_with fail
            go_roundw
            case rel => exact ⟨k + 1, now + v, due, tr, by omega, by go_num, rfl, rfl, rfl, ⟨by omega, by push_cast; omega, by omega, by push_cast; omega, fun _ => HR3.out, fun h => by push_cast at h; omega⟩, b3.out⟩
            case measure => simp [intOf]; omega
          · have hq := QW_yes (n := n) (tr := tr) hdue
            have HQ := Lib.hid hq
            clear hq OK
            go_wp2_with fail
            refine HPo.out.mono ?_
            rintro e w3 ⟨A3, c3, rfl, W3, R3, T3⟩
            rw [HQ.out.2] at R3
            rw [HQ.out.1] at W3 ⊢
            have HR3 := Lib.hid R3
            have b3 := Lib.hid (HB.out.trans T3.below)
            obtain ⟨g, rfl, h3⟩ := row_first W3 (by simp)
            obtain ⟨h30, h31, h32⟩ := h3.out
            clear R3 W3 T3 hc h3
            go_wp2_with fail
            go_roundw
            case rel => exact ⟨k + 1, now + v, now + v + n, tr + 1, by omega, by go_num, rfl, rfl, rfl, ⟨by omega, by push_cast; omega, by omega, by push_cast; omega, fun _ => HR3.out, fun h => by push_cast at h; omega⟩, b3.out⟩
            case measure => simp [intOf]; omega
        · by_cases hke : (k : Int) = y
          · subst hke
            have R := H5.out (by omega)
            have HA := Lib.hid (ack_ok B p (QW n due tr) kk 0 (QW_find n due tr) (by simp [QW]) wr zr R)
            clear R
            go_wp2_with fail
            refine HA.out.mono ?_
            rintro e w2 ⟨rfl, R2, T2⟩
            replace R2 : FRep w2 B p (QE n) := R2
            have b2' := HB.out.trans T2.below
            have hc := HC.out w2 b2'
            have z2' := Nat.le_trans zr T2.size
            have HPo := Lib.hid (poll_any B p (QE n) (QE_ok n1 (by omega)) (now + v) tnow w2 z2' R2)
            have B2 := Lib.hid b2'
            clear R2 T2 b2'
            go_wp2_with fail
            refine HPo.out.mono ?_
            rintro e w3 ⟨A3, c3, rfl, W3, R3, T3⟩
            replace R3 : FRep w3 B p (QE n) := R3
            rw [show (pollI (now + v) (QE n).ws).length = 0 from rfl]
            have HR3 := Lib.hid R3
            have b3 := Lib.hid (B2.out.trans T3.below)
            clear R3 W3 T3 hc
            go_wp2_with fail
            go_roundw
            case rel => exact ⟨k + 1, now + v, due, tr, by omega, by go_num, rfl, rfl, rfl, ⟨by omega, by push_cast; omega, by omega, by push_cast; omega, fun h => by push_cast at h; omega, fun _ => HR3.out⟩, b3.out⟩
            case measure => simp [intOf]; omega
          · have R := Lib.hid (H6.out (by omega))
            have hc := HC.out wr HB.out
            have HPo := Lib.hid (poll_any B p (QE n) (QE_ok n1 (by omega)) (now + v) tnow wr zr R.out)
            have hge : y ≤ (k : Int) := by omega
            go_wp2_with fail
            refine HPo.out.mono ?_
            rintro e w3 ⟨A3, c3, rfl, W3, R3, T3⟩
            replace R3 : FRep w3 B p (QE n) := R3
            rw [show (pollI (now + v) (QE n).ws).length = 0 from rfl]
            have HR3 := Lib.hid R3
            have b3 := Lib.hid (HB.out.trans T3.below)
            clear R3 W3 T3 hc
            go_wp2_with fail
            go_roundw
            case rel => exact ⟨k + 1, now + v, due, tr, by omega, by go_num, rfl, rfl, rfl, ⟨by omega, by push_cast; omega, by omega, by push_cast; omega, fun h => by push_cast at h; omega, fun _ => HR3.out⟩, b3.out⟩
            case measure => simp [intOf]; omega
      · obtain ⟨q, R, hkn⟩ : ∃ q, FRep wr B p q ∧ q.kn = [[107]] := by
          by_cases h : (k : Int) ≤ y
          · exact ⟨_, H5.out h, rfl⟩
          · exact ⟨_, H6.out (by omega), rfl⟩
        have HK := Lib.hid hkn
        have HRR := Lib.hid R
        clear R hkn
        have hd : decide (kk.data.toList ∈ q.kn) = true := by rw [HK.out]; decide
        go_wp2_with fail
        refine (known_any B p q kk (by decide) wr HRR.out).mono ?_
        rintro e w3 ⟨rfl, rfl⟩
        rw [hd]
        go_wp2_with fail
        refine (put_exists B p q 0 kk ku ⟨by decide, by decide, by decide, by decide⟩ (by rw [HK.out]; decide) wr HRR.out).mono ?_
        rintro e w3 ⟨rfl, rfl⟩
        go_wp2_with fail
        refine (awake_any wr).mono ?_
        rintro e w8 ⟨rfl, b8⟩
        go_wp2_with fail
        go_ret
        rw [HBB.out]
        exact ⟨rfl, HB.out.trans (b8.mono zr)⟩
end Go.Proofs.Ythjgfheogbchkaa
