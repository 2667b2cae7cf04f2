/-
  Exchange: walk over the law ExchangeKeeps. Condition: the later replies are a slice of strings that lies as the language lays it.
-/
import Derived.Test.YtgacpkbpbckgiaaWk
namespace Go.Proofs.Ytgacpkbpbckgiaa
open Go.RowKit
set_option linter.unusedVariables false

abbrev kk : ByteArray := ⟨#[107]⟩
def K1 (q : ByteArray) : XS := ⟨10, 3, [⟨kk, q, ke, 3, 0⟩]⟩
def KN (q r : ByteArray) (t : Int) : XS := ⟨10, t, [⟨kk, q, r, 3, 1⟩]⟩
theorem fnd_hd (k t r : ByteArray) (a : Int) (st : Nat) (l : List Im) : fnd k (⟨k, t, r, a, st⟩ :: l) = some ⟨k, t, r, a, st⟩ := by
  unfold fnd
  rw [List.find?_cons]
  simp
section
variable (q r x : ByteArray) (t a : Int)
theorem k_beg (hq : q.size ≤ 4000) : begE ⟨10, 0, []⟩ 3 kk q = 0 ∧ begS ⟨10, 0, []⟩ 3 kk q = K1 q := by
  have h1 : ¬ 4000 < q.size := by omega
  have he : begE ⟨10, 0, []⟩ 3 kk q = 0 := by
    unfold begE
    rw [if_neg (by decide), if_neg (by decide), if_neg h1, if_neg (by simp [fnd]), if_neg (by simp [waiL])]
  refine ⟨he, ?_⟩
  unfold begS
  rw [if_pos he]
  rfl
theorem k_rep (hr : r.size ≤ 4000) : repN (K1 q) 12 kk r = 1 ∧ repE (K1 q) 12 kk r = 0 ∧ repS (K1 q) 12 kk r = KN q r 12 := by
  have h1 : ¬ 4000 < r.size := by omega
  have hf : fnd kk (K1 q).its = some ⟨kk, q, ke, 3, 0⟩ := fnd_hd _ _ _ _ _ _
  have ho : ¬ ¬ okT (K1 q) 12 := not_not_intro ⟨by show (3 : Int) ≤ 12; decide, by decide⟩
  refine ⟨?_, ?_, ?_⟩
  · unfold repN
    rw [hf]
    simp only [if_neg ho, if_neg h1]
    rfl
  · unfold repE
    rw [hf]
    simp only [if_neg ho, if_neg h1]
  · unfold repS
    rw [hf]
    simp only [if_neg ho, if_neg h1]
    unfold upd repU K1 KN
    simp
theorem kn_ok (h : 12 ≤ t) (h2 : t ≤ 1000) : (KN q r t).Ok := ⟨by simp [KN], by simp [KN], by show 0 ≤ t; omega, by show t ≤ _; omega, fun x hx => by simp [KN] at hx; subst hx; exact ⟨by show (0 : Int) ≤ 3; decide, by show (3 : Int) ≤ t; omega⟩, List.pairwise_singleton _ _, by simp [KN], fun x hx => by simp [KN] at hx; subst hx; show (1 : Nat) ≤ 3; decide, fun x hx => by simp [KN] at hx; subst hx; show 1 ≤ kk.size ∧ kk.size ≤ 40; decide⟩
theorem kn_okT (h : t ≤ a) (h2 : a ≤ 1000) : ¬ ¬ okT (KN q r t) a := not_not_intro ⟨h, by omega⟩
theorem kn_rep (h : t ≤ a) (h2 : a ≤ 1000) (hx : ¬ 4000 < x.size) : repN (KN q r t) a kk x = 3 ∧ repE (KN q r t) a kk x = 0 ∧ repS (KN q r t) a kk x = KN q r a := by
  have hf : fnd kk (KN q r t).its = some ⟨kk, q, r, 3, 1⟩ := fnd_hd _ _ _ _ _ _
  have ho := kn_okT q r t a h h2
  refine ⟨?_, ?_, ?_⟩
  · unfold repN
    rw [hf]
    simp only [if_neg ho, if_neg hx]
    rfl
  · unfold repE
    rw [hf]
    simp only [if_neg ho, if_neg hx]
  · unfold repS
    rw [hf]
    simp only [if_neg ho, if_neg hx]
    unfold upd repU KN
    simp
theorem kn_long (h : t ≤ a) (h2 : a ≤ 1000) (hx : 4000 < x.size) : repN (KN q r t) a kk x = 0 ∧ repE (KN q r t) a kk x = 3 ∧ repS (KN q r t) a kk x = KN q r t := by
  have hf : fnd kk (KN q r t).its = some ⟨kk, q, r, 3, 1⟩ := fnd_hd _ _ _ _ _ _
  have ho := kn_okT q r t a h h2
  refine ⟨?_, ?_, ?_⟩
  · unfold repN
    rw [hf]
    simp only [if_neg ho, if_pos hx]
  · unfold repE
    rw [hf]
    simp only [if_neg ho, if_pos hx]
  · unfold repS
    rw [hf]
    simp only [if_neg ho, if_pos hx]
theorem kn_los (h : t ≤ a) (h2 : a ≤ 1000) : losL (KN q r t) a = [] ∧ losS (KN q r t) a = KN q r a := by
  have ho := kn_okT q r t a h h2
  unfold losL losS
  rw [if_neg ho, if_neg ho]
  exact ⟨rfl, rfl⟩
theorem kn_beg (h : t ≤ 1000) : ∃ n, begE (KN q r t) t kk x = n ∧ n ≠ 0 ∧ begS (KN q r t) t kk x = KN q r t := by
  have ho := kn_okT q r t t (Int.le_refl _) h
  have hf : (fnd kk (KN q r t).its).isSome = true := by rw [show fnd kk (KN q r t).its = some ⟨kk, q, r, 3, 1⟩ from fnd_hd _ _ _ _ _ _]; rfl
  by_cases hx : 4000 < x.size
  · have he : begE (KN q r t) t kk x = 3 := by unfold begE; rw [if_neg ho, if_neg (by decide), if_pos hx]
    exact ⟨3, he, by decide, by unfold begS; rw [he, if_neg (by decide)]⟩
  · have he : begE (KN q r t) t kk x = 7 := by unfold begE; rw [if_neg ho, if_neg (by decide), if_neg hx, if_pos hf]
    exact ⟨7, he, by decide, by unfold begS; rw [he, if_neg (by decide)]⟩
theorem kn_res : resV (KN q r t) kk = r ∧ resE (KN q r t) kk = 0 ∧ reqV (KN q r t) kk = q ∧ reqB (KN q r t) kk = true ∧ (waiL (KN q r t).its).length = 0 := by
  have hf : fnd kk (KN q r t).its = some ⟨kk, q, r, 3, 1⟩ := fnd_hd _ _ _ _ _ _
  unfold resV resE reqV reqB
  rw [hf]
  exact ⟨rfl, rfl, rfl, rfl, rfl⟩
end

set_option maxRecDepth 100000 in
set_option maxHeartbeats 3200000 in
theorem law_keeps (q r : ByteArray) (A : Option Addr) (n c : Nat) (l : List ByteArray) (w : World) (hz : l.length = n) (hm : n ≤ 9223372036854775807) (hr : RD w A n (l.map Value.string)) :
    Calls Try.prog 5 #[.string q, .string r, .slice A n c] w fun e w' => e = .returned (.bool true) ∧ Below w.heap.size w w' := by
  have HR := Lib.hid hr
  have HZ := Lib.hid hz
  clear hr hz
  by_cases hq : 4000 < (q.size : Int)
  · go_enter Try.func5, Try.ntmps5
    go_wp2_with (go_at_call 11; refine (awake_any _).mono ?_; rintro e w' ⟨rfl, b⟩)
    go_ret
    exact ⟨rfl, b⟩
  · by_cases hr : 4000 < (r.size : Int)
    · go_enter Try.func5, Try.ntmps5
      go_wp2_with (go_at_call 11; refine (awake_any _).mono ?_; rintro e w' ⟨rfl, b⟩)
      go_ret
      exact ⟨rfl, b⟩
    · by_cases hn : 60 < (n : Int)
      · go_enter Try.func5, Try.ntmps5
        go_wp2_with (go_at_call 11; refine (awake_any _).mono ?_; rintro e w' ⟨rfl, b⟩)
        go_ret
        exact ⟨rfl, b⟩
      · have K := Lib.hid (k_beg q (by omega))
        have KR := Lib.hid (k_rep q r (by omega))
        go_enter Try.func5, Try.ntmps5
        go_wp2_with fail
        refine (new_ok 10 (by decide) (by decide) w).mono ?_
        rintro e w1 ⟨p, rfl, R1, b1⟩
        obtain ⟨B, hB⟩ : ∃ B, w.heap.size = B := ⟨_, rfl⟩
        rw [hB] at R1 b1
        have z1 : B ≤ w1.heap.size := by have := b1.size; omega
        have HB := Lib.hid hB
        have C1 := Lib.hid (begin_any B p ⟨10, 0, []⟩ 3 kk q w1 (XS.Ok.new (by decide) (by decide)) (by decide) z1 R1)
        have HB1 := Lib.hid b1
        clear R1 b1 hB
        go_wp2_with fail
        refine C1.out.mono ?_
        rintro e w2 ⟨rfl, R2, T2⟩
        rw [K.out.1]
        have o2 := K.out.2 ▸ (XS.Ok.new (t := 10) (by decide) (by decide)).beg 3 kk q
        rw [K.out.2] at R2
        have z2 := Nat.le_trans z1 T2.size
        have HB2 := Lib.hid (HB1.out.trans T2.below)
        have C2 := Lib.hid (reply_any B p (K1 q) 12 kk r w2 o2 (by simp [K1]) (by decide) z2 R2)
        clear R2 T2 C1 o2
        go_wp2_with fail
        refine C2.out.mono ?_
        rintro e w3 ⟨rfl, R3, T3⟩
        rw [KR.out.1, KR.out.2.1]
        rw [KR.out.2.2] at R3
        have z3 := Nat.le_trans z2 T3.size
        have HB3 := Lib.hid (HB2.out.trans T3.below)
        have HR3 := Lib.hid R3
        clear R3 T3 C2
        go_wp2_with fail
        go_loopw [11] (fun i wr => ∃ (k : Nat) (t : Int), k ≤ n ∧ i = .int .i64 k ∧ 12 ≤ t ∧ t ≤ 12 + 5 * k ∧ PRep wr B p (KN q r t) ∧ B ≤ wr.heap.size ∧ Below B w wr) (fun i _ => n - (intOf i).toNat)
        case atStart => exact ⟨0, 12, by omega, rfl, by omega, by omega, HR3.out, z3, HB3.out⟩
        case round =>
          obtain ⟨k, t, hk, rfl, t1, t2, R4, z4, b4⟩ := hrel
          have HR4 := Lib.hid R4
          have HB4 := Lib.hid b4
          clear R4 b4
          by_cases hlt : k < n
          · obtain ⟨bb, off, rfl, hbl, hcell⟩ := HR.out.2 (by omega)
            have hx : l[k]? = some (l[k]'(by rw [HZ.out]; exact hlt)) := List.getElem?_eq_getElem _
            have hv := hcell k (.string (l[k]'(by rw [HZ.out]; exact hlt))) (by rw [List.getElem?_map, hx]; rfl)
            have HC : Hid (∀ wx, Below B w wx → wx.cell? ⟨bb, off + k, none⟩ = some (.string (l[k]'(by rw [HZ.out]; exact hlt)))) := Lib.hid (fun wx hb => (Below.cell hb (p := ⟨bb, off + k, none⟩) (by rw [← HB.out]; exact hbl)).trans hv)
            clear hcell hx hv
            generalize (l[k]'(by rw [HZ.out]; exact hlt)) = x at HC
            have hc := HC.out wr HB4.out
            have OK4 := kn_ok q r t t1 (by omega)
            have C4 := Lib.hid (reply_any B p (KN q r t) (12 + 5 * (k : Int)) kk x wr OK4 (by simp [KN]) (by decide) z4 HR4.out)
            have i1 : IntKind.i64.wrap (5 * (k : Int)) = 5 * k := IntWalk.i64_in _ (by omega)
            have i2 : IntKind.i64.wrap (12 + 5 * (k : Int)) = 12 + 5 * k := IntWalk.i64_in _ (by omega)
            clear OK4
            by_cases hx4 : 4000 < (x.size : Int)
            · have F4 := Lib.hid (kn_long q r x t (12 + 5 * (k : Int)) t2 (by omega) (by omega))
              go_wp2_with fail
              refine C4.out.mono ?_
              rintro e w5 ⟨rfl, R5, T5⟩
              rw [F4.out.1, F4.out.2.1]
              rw [F4.out.2.2] at R5
              have z5 := Nat.le_trans z4 T5.size
              have HB5 := Lib.hid (HB4.out.trans T5.below)
              have hc5 := HC.out w5 HB5.out
              have F5 := Lib.hid (kn_los q r t (12 + 5 * (k : Int)) t2 (by omega))
              have C5 := Lib.hid (lost_any B p (KN q r t) (12 + 5 * (k : Int)) w5 (by simp [KN]) z5 R5)
              clear R5 T5 C4 hc
              go_wp2_with fail
              refine C5.out.mono ?_
              rintro e w6 ⟨A6, c6, rfl, _, R6, T6⟩
              rw [F5.out.1]
              rw [F5.out.2] at R6
              have z6 := Nat.le_trans z5 T6.size
              have HB6 := Lib.hid (HB5.out.trans T6.below)
              have hc6 := HC.out w6 HB6.out
              obtain ⟨m, hm1, hm2, hm3⟩ := kn_beg q r x (12 + 5 * (k : Int)) (by omega)
              have M1 := Lib.hid hm1
              have M3 := Lib.hid hm3
              have C6 := Lib.hid (begin_any B p (KN q r (12 + 5 * (k : Int))) (12 + 5 * (k : Int)) kk x w6 (kn_ok q r _ (by omega) (by omega)) (by simp [KN]) z6 R6)
              clear R6 T6 C5 hc5 hm1 hm3
              have hm4 : (m == 0) = false := by rw [beq_eq_false_iff_ne]; exact hm2
              go_wp2_with fail
              refine C6.out.mono ?_
              rintro e w7 ⟨rfl, R7, T7⟩
              rw [M1.out]
              rw [M3.out] at R7
              have z7 := Nat.le_trans z6 T7.size
              have HB7 := Lib.hid (HB6.out.trans T7.below)
              have HR7 := Lib.hid R7
              clear R7 T7 C6 hc6
              go_wp2_with fail
              go_roundw
              case rel => exact ⟨k + 1, 12 + 5 * (k : Int), by omega, by go_num, by omega, by push_cast; omega, HR7.out, z7, HB7.out⟩
              case measure => simp [intOf]; omega
            · have F4 := Lib.hid (kn_rep q r x t (12 + 5 * (k : Int)) t2 (by omega) (by omega))
              go_wp2_with fail
              refine C4.out.mono ?_
              rintro e w5 ⟨rfl, R5, T5⟩
              rw [F4.out.1, F4.out.2.1]
              rw [F4.out.2.2] at R5
              have z5 := Nat.le_trans z4 T5.size
              have HB5 := Lib.hid (HB4.out.trans T5.below)
              have hc5 := HC.out w5 HB5.out
              have F5 := Lib.hid (kn_los q r (12 + 5 * (k : Int)) (12 + 5 * (k : Int)) (Int.le_refl _) (by omega))
              have C5 := Lib.hid (lost_any B p (KN q r (12 + 5 * (k : Int))) (12 + 5 * (k : Int)) w5 (by simp [KN]) z5 R5)
              clear R5 T5 C4 hc
              go_wp2_with fail
              refine C5.out.mono ?_
              rintro e w6 ⟨A6, c6, rfl, _, R6, T6⟩
              rw [F5.out.1]
              rw [F5.out.2] at R6
              have z6 := Nat.le_trans z5 T6.size
              have HB6 := Lib.hid (HB5.out.trans T6.below)
              have hc6 := HC.out w6 HB6.out
              obtain ⟨m, hm1, hm2, hm3⟩ := kn_beg q r x (12 + 5 * (k : Int)) (by omega)
              have M1 := Lib.hid hm1
              have M3 := Lib.hid hm3
              have C6 := Lib.hid (begin_any B p (KN q r (12 + 5 * (k : Int))) (12 + 5 * (k : Int)) kk x w6 (kn_ok q r _ (by omega) (by omega)) (by simp [KN]) z6 R6)
              clear R6 T6 C5 hc5 hm1 hm3
              have hm4 : (m == 0) = false := by rw [beq_eq_false_iff_ne]; exact hm2
              go_wp2_with fail
              refine C6.out.mono ?_
              rintro e w7 ⟨rfl, R7, T7⟩
              rw [M1.out]
              rw [M3.out] at R7
              have z7 := Nat.le_trans z6 T7.size
              have HB7 := Lib.hid (HB6.out.trans T7.below)
              have HR7 := Lib.hid R7
              clear R7 T7 C6 hc6
              go_wp2_with fail
              go_roundw
              case rel => exact ⟨k + 1, 12 + 5 * (k : Int), by omega, by go_num, by omega, by push_cast; omega, HR7.out, z7, HB7.out⟩
              case measure => simp [intOf]; omega
          · have KE := Lib.hid (kn_res q r t)
            go_wp2_with fail
            refine (result_any B p (KN q r t) wr kk (by decide) HR4.out).mono ?_
            rintro e w' ⟨rfl, rfl⟩
            rw [KE.out.1, KE.out.2.1]
            go_wp2_with fail
            refine (request_any B p (KN q r t) wr kk (by decide) HR4.out).mono ?_
            rintro e w' ⟨rfl, rfl⟩
            rw [KE.out.2.2.1, KE.out.2.2.2.1]
            go_wp2_with fail
            refine (waiting_any B p (KN q r t) (by simp [KN]) wr HR4.out).mono ?_
            rintro e w5 ⟨A5, c5, rfl, _, b5⟩
            rw [KE.out.2.2.2.2]
            have z5 := Nat.le_trans z4 b5.size
            have HB5 := Lib.hid (HB4.out.trans (b5.mono z4))
            clear b5
            go_wp2_with fail
            refine (awake_any w5).mono ?_
            rintro e w6 ⟨rfl, b6⟩
            go_wp2_with fail
            go_ret
            exact ⟨rfl, by rw [HB.out]; exact HB5.out.trans (b6.mono z5)⟩
end Go.Proofs.Ytgacpkbpbckgiaa
