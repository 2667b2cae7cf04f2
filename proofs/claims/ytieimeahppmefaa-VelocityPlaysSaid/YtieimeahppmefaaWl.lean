/-
  Velocity: walks over the chapter's Sum, Last, Forget and Add. Condition: the state is one that the calls make.
-/
import Derived.Test.YtieimeahppmefaaWk
import Derived.Test.YtieimeahppmefaaWe
namespace Go.Proofs.Ytieimeahppmefaa
open Go.RowKit
set_option linter.unusedVariables false

theorem own_mono {w : World} {base base' : Nat} {e : TypeId} {size : Nat} {v : Value} {n : Nat} {xs : List Value} (h : w.ownsRow base e size v n xs) (hb : base' ≤ base) : w.ownsRow base' e size v n xs := by
  refine ⟨h.1, ?_⟩
  rcases h.2 with h2 | ⟨g, cap, cur, hv, hg, r⟩
  · exact .inl h2
  · exact .inr ⟨g, cap, cur, hv, Nat.le_trans hb hg, r⟩
theorem RRep.drewN {w : World} {B p : Nat} {s : VS} (h : RRep w B p s) (q : Nat) : RRep (w.drewN q) B p s := h
theorem RRep.call {w w' : World} {B p : Nat} {s : VS} (h : RRep w B p s) (hb : Below w.heap.size w w') : RRep w' B p s := by
  obtain ⟨h1, A, c, h2, h3⟩ := h
  exact ⟨h1, A, c, h2.call hb, own_call h3 hb⟩
theorem sum_take {L : List Us} {k : Nat} (h : k < L.length) : sumL (L.take (k + 1)) = sumL (L.take k) + (L[k]).am := by
  rw [List.take_succ_eq_append_getElem h, sumL_snoc]

set_option maxHeartbeats 400000 in
theorem rsum_any (B p : Nat) (s : VS) (o : s.Ok) (key : ByteArray) (a win : Int) (w : World) (r : RRep w B p s) :
    Calls Try.prog 20 #[.pointer (some ⟨p, 0, none⟩), .string key, .int .i64 a, .int .i64 win] w fun e w' => e = .returned (.int .i64 (sumN s key a win)) ∧ Below w.heap.size w w' := by
  rw [← in_sum]
  have hi := in_any B p s o key a win w r
  have hall : ∀ u ∈ inL s key a win, 0 ≤ u.am ∧ u.am ≤ maxAm := by
    intro u hu
    unfold inL at hu
    split at hu
    · have := o.each u (List.mem_filter.1 hu).1
      exact ⟨this.2.2.1, this.2.2.2⟩
    · cases hu
  have hlen : (inL s key a win).length ≤ 1000 := by
    unfold inL
    split
    · exact Nat.le_trans (win_len _ _ _ _) o.len
    · simp
  generalize inL s key a win = L at hi hall hlen ⊢
  have HI := Lib.hid hi
  have HA := Lib.hid hall
  clear hi hall
  go_enter Try.func20, Try.ntmps20
  go_wp2_with (go_at_call 31; refine HI.out.mono ?_; rintro e w' ⟨v, rfl, own, hb⟩; obtain ⟨A, c, rfl⟩ := own_slice own)
  have HO := Lib.hid own
  clear own
  go_loopw [10, 11] (fun z i wr => ∃ k : Nat, k ≤ L.length ∧ i = .int .i64 k ∧ z = .int .i64 (sumL (L.take k)) ∧ wr = w') (fun _ i _ => L.length - (intOf i).toNat)
  case atStart => exact ⟨0, by omega, rfl, by simp [sumL], rfl⟩
  case round =>
    obtain ⟨k, hk, rfl, rfl, rfl⟩ := hrel
    have hs := sumL_bd (L.take k) (fun u hu => HA.out u (List.mem_of_mem_take hu))
    have h3 : (L.take k).length ≤ 1000 := by rw [List.length_take]; omega
    have h4 : ((L.take k).length : Int) * maxAm ≤ 1000 * maxAm := Int.mul_le_mul_of_nonneg_right (by omega) (by decide)
    obtain ⟨s1, s2⟩ := hs
    have s3 : sumL (L.take k) ≤ 1000 * 999999999999 := Int.le_trans s2 h4
    clear s2 h4 h3
    by_cases hlt : k < L.length
    · obtain ⟨g, rfl, hBg, hg, _, hcell, _⟩ := own_cells HO.out (by omega)
      have hu : L[k]? = some L[k] := List.getElem?_eq_getElem hlt
      have g2 := hcell (k * 3 + 2) (.int .i64 L[k].am) (by rw [at3 usC usC3 L k _ 2 hu (by decide)]; rfl)
      have hb1 := HA.out _ (List.getElem_mem hlt)
      have HS := Lib.hid (sum_take hlt)
      obtain ⟨q1, q2⟩ := hb1
      have q3 : L[k].am ≤ 999999999999 := q2
      clear hcell hu q2
      generalize L[k].am = m at g2 q1 q3 HS
      go_wp2_with fail
      go_roundw
      case rel => exact ⟨k + 1, by omega, by go_num, by rw [HS.out], trivial⟩
      case measure => simp [intOf]; omega
    · have hkn : k = L.length := by omega
      have HT : Hid (L.take k = L) := Lib.hid (by rw [hkn, List.take_length])
      clear hkn
      go_wp2_with fail
      go_ret
      exact ⟨by rw [HT.out]; rfl, hb⟩

theorem max_if (a b : Int) : (if a < b then b else a) = max a b := by split <;> omega
set_option maxHeartbeats 400000 in
theorem rlast_any (B p : Nat) (s : VS) (o : s.Ok) (key : ByteArray) (w : World) (r : RRep w B p s) :
    Calls Try.prog 23 #[.pointer (some ⟨p, 0, none⟩), .string key] w fun e w' => e = .returned (.tuple #[.int .i64 (lasN s key), .bool (lasB s key)]) ∧ w = w' := by
  obtain ⟨hBp, A, c, B0, hown⟩ := r
  have HO := Lib.hid hown
  have c1 := blk3_c1 B0
  have o3 := o.len
  have hM := maxF_is (key := key) o.asc (fun u hu => (o.each u hu).1) s.us.length (Nat.le_refl _)
  have HM : Hid (maxF key s.us s.us.length = (lasN s key, lasB s key)) := Lib.hid hM.1
  clear hown hM
  go_enter Try.func23, Try.ntmps23
  go_wp2_with fail
  go_loopw [6, 7, 8] (fun b k i wr => ∃ j : Nat, j ≤ s.us.length ∧ i = .int .i64 j ∧ b = .int .i64 (maxF key s.us j).1 ∧ k = .bool (maxF key s.us j).2 ∧ wr = w) (fun _ _ i _ => s.us.length - (intOf i).toNat)
  case atStart => exact ⟨0, by omega, rfl, rfl, rfl, rfl⟩
  case round =>
    obtain ⟨j, hj, rfl, rfl, rfl, rfl⟩ := hrel
    by_cases hlt : j < s.us.length
    · obtain ⟨g, rfl, hBg, hg, _, hcell, _⟩ := own_cells HO.out (by omega)
      have hu : s.us[j]? = some s.us[j] := List.getElem?_eq_getElem hlt
      have g0 := hcell (j * 3) (.string s.us[j].key) (by have := at3 usC usC3 s.us j _ 0 hu (by decide); simpa [usC] using this)
      have g1 := hcell (j * 3 + 1) (.int .i64 s.us[j].at_) (by rw [at3 usC usC3 s.us j _ 1 hu (by decide)]; rfl)
      have HE := Lib.hid (maxF_succ (key := key) hu)
      clear hcell hu
      generalize s.us[j] = u at g0 g1 HE
      obtain ⟨uk, ua, um⟩ := u
      simp only at g0 g1
      generalize hmj : maxF key s.us j = mj at HE ⊢
      obtain ⟨m1, m2⟩ := mj
      have HJ := Lib.hid hmj
      clear hmj
      by_cases hke : uk = key
      · subst hke
        have HF : Hid (maxF uk s.us (j + 1) = (max m1 ua, true)) := Lib.hid (by rw [HE.out, if_pos rfl])
        go_wp2_with fail
        go_roundw
        case rel => exact ⟨j + 1, by omega, by go_num, by rw [HF.out]; exact congrArg (Value.int .i64) (max_if m1 ua), by rw [HF.out], trivial⟩
        case measure => simp [intOf]; omega
      · have hkl : ¬ uk.toList = key.toList := fun h => hke (bytes_inj h)
        have hkb : (uk.toList == key.toList) = false := by simpa using hkl
        have HF : Hid (maxF key s.us (j + 1) = (m1, m2)) := Lib.hid (by rw [HE.out, if_neg hke])
        go_wp2_with fail
        go_roundw
        case rel => exact ⟨j + 1, by omega, by go_num, by rw [HF.out], by rw [HF.out], trivial⟩
        case measure => simp [intOf]; omega
    · have hjn : j = s.us.length := by omega
      have HT : Hid (maxF key s.us j = (lasN s key, lasB s key)) := Lib.hid (by rw [hjn]; exact HM.out)
      clear hjn
      go_wp2_with fail
      go_ret2
      exact ⟨by rw [HT.out]; rfl, rfl⟩

/-- What a call of the chapter's Forget leaves. -/
def RForRet (B p : Nat) (s : VS) (a : Int) (w : World) (e : Ending) (w' : World) : Prop :=
  e = .returned (.int .i64 (forN s a)) ∧ RRep w' B p (forS s a) ∧ Turn B [61, 64] false w w'
theorem rfor_any (B p : Nat) (s : VS) (o : s.Ok) (a : Int) (w : World) (hBw : B ≤ w.heap.size) (r : RRep w B p s) :
    Calls Try.prog 22 #[.pointer (some ⟨p, 0, none⟩), .int .i64 a] w (RForRet B p s a w) := by
  by_cases ht : isT a
  · have hk := kept_any B p s o a ht w r
    have hle := young_le (a - s.h) s.us
    obtain ⟨hBp, A, c, B0, hown⟩ := r
    have c1 := blk3_c1 B0
    have o3 := o.len
    have hd : decide (isT a) = true := decide_eq_true ht
    have HK := Lib.hid hk
    clear hk hown
    go_enter Try.func22, Try.ntmps22
    go_wp2_with (first
      | (go_at_call 29; refine (time_any a _).mono ?_; rintro e w' ⟨rfl, rfl⟩; rw [hd])
      | (go_at_call 30
         refine HK.out.mono ?_
         rintro e w2 ⟨v, rfl, own, hb⟩
         obtain ⟨A2, c2, rfl⟩ := own_slice own
         have B2 := B0.call hb
         have l2 := B2.lt
         have f2 := B2.frozen
         have e1 := blk3_c1 B2
         have HO := Lib.hid own
         clear own))
    go_ret
    have hS : forS s a = { s with us := young (a - s.h) s.us } := by unfold forS; rw [if_pos ht]
    refine ⟨?_, ?_, (Turn.of_below hb hBw).setB B2 rfl hBp 1 _⟩
    · unfold forN
      rw [if_pos ht]
      exact congrArg (fun z => Ending.returned (.int .i64 z)) (show (s.us.length : Int) - (young (a - s.h) s.us).length = ((s.us.length - (young (a - s.h) s.us).length : Nat) : Int) by omega)
    · rw [hS]
      exact ⟨hBp, A2, c2, blk3_set1 B2 _, own_far (own_mono HO.out (by omega)) (own_blk_ne HO.out B2 (by decide)) _⟩
  · have hd : decide (isT a) = false := decide_eq_false ht
    go_enter Try.func22, Try.ntmps22
    go_wp2_with (go_at_call 29; refine (time_any a _).mono ?_; rintro e w' ⟨rfl, rfl⟩; rw [hd])
    go_ret
    unfold RForRet forN forS
    rw [if_neg ht, if_neg ht]
    exact ⟨rfl, r, Turn.refl _ _ _ _⟩
end Go.Proofs.Ytieimeahppmefaa
