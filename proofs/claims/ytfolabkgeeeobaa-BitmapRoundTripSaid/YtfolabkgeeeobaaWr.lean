/-
  Walk over the chapter's Decode. Condition: at most 1000 bytes.
-/
import Derived.Test.YtfolabkgeeeobaaWq
namespace Go.Proofs.Ytfolabkgeeeobaa
open Go.RowKit

theorem rd1 {s : ByteArray} : vN (s.extract 0 16).data.toList 0 = v1 s := by
  unfold v1
  rw [toList_extract]
  simp
theorem rd2 {s : ByteArray} : vN (s.extract 16 32).data.toList 0 = v2 s := by
  unfold v2
  rw [toList_extract]

set_option maxRecDepth 100000 in
set_option maxHeartbeats 800000 in
theorem rdec_any (s : ByteArray) (w : World) (hm : s.size ≤ 1000) (x y n e : Int) (h : Dec s x y n e) :
    Calls Try.prog 17 #[.string s] w (DecRet x y n e w) := by
  have hb0 : ∀ q, Below w.heap.size w ((w.alloc (.cells #[.int .u64 0, .int .u64 0] 26)).drewN q) := fun q => drewN_below ((Below.refl _ _).alloc (Nat.le_refl _) _) q
  have D := fun q => (Blk.new w 26 #[.int .u64 0, .int .u64 0]).drewN q
  have d0 := fun q => (D q).c0
  have d1 := fun q => (D q).c1
  have df := fun q => (D q).frozen
  clear D
  rcases h with ⟨h1, rfl, rfl, rfl, rfl⟩ | ⟨h1, h2, rfl, rfl, rfl, rfl⟩ | ⟨a, h1, h2, h3, rfl, rfl, rfl, rfl⟩ | ⟨a, h1, h4, h2, h3, h5, rfl, rfl, rfl, rfl⟩ | ⟨a, h1, h2, h3, h5, h4, rfl, rfl, rfl, rfl⟩ | ⟨a, h1, h2, h3, h5, h4, rfl, rfl, rfl, rfl⟩ | ⟨a, b, h1, h2, h3, h5, h4, h6, h7, rfl, rfl, rfl, rfl⟩
  · go_enter Try.func17, Try.ntmps17
    go_wp2
    simp [bodyPost, results, Try.results17, go_sem, DecRet]
    exact hb0 0
  · have hl : 16 ≤ (s.size : Int) := by omega
    have HV := Lib.hid (show rdRes (vN (s.extract 0 16).data.toList 0) = (0, false) by rw [rd1, h2]; rfl)
    go_enter Try.func17, Try.ntmps17
    go_wp2_with ((go_at_call 34; refine (read_any (s.extract 0 16) _ (by simp; omega)).mono ?_; rintro en w1 ⟨rfl, q, rfl⟩; rw [HV.out]))
    simp [bodyPost, results, Try.results17, go_sem, DecRet, d0, d1]
    repeat' (first | exact hb0 _ | refine Below.setCell ?_ (by simp) _ | refine drewN_below ?_ _)
  · have hl : 16 ≤ (s.size : Int) := by omega
    have HV := Lib.hid (show rdRes (vN (s.extract 0 16).data.toList 0) = ((a : Int), true) by rw [rd1, h2]; rfl)
    have ht := and_top a (by omega)
    rw [if_pos h3] at ht
    go_enter Try.func17, Try.ntmps17
    go_wp2_with (first | (go_at_call 34; refine (read_any (s.extract 0 16) _ (by simp; omega)).mono ?_; rintro en w1 ⟨rfl, q, rfl⟩; rw [HV.out]) | (go_at_call 31; refine (bit1_any _).mono ?_; rintro en w2 ⟨rfl, rfl⟩))
    simp [bodyPost, results, Try.results17, go_sem, DecRet, d0, d1]
    repeat' (first | exact hb0 _ | refine Below.setCell ?_ (by simp) _ | refine drewN_below ?_ _)
  · have hl : 16 ≤ (s.size : Int) := by omega
    have hl2 : (s.size : Int) < 32 := by omega
    have HV := Lib.hid (show rdRes (vN (s.extract 0 16).data.toList 0) = ((a : Int), true) by rw [rd1, h2]; rfl)
    have ht := and_top a (by omega)
    rw [if_neg (by omega)] at ht
    go_enter Try.func17, Try.ntmps17
    go_wp2_with (first | (go_at_call 34; refine (read_any (s.extract 0 16) _ (by simp; omega)).mono ?_; rintro en w1 ⟨rfl, q, rfl⟩; rw [HV.out]) | (go_at_call 31; refine (bit1_any _).mono ?_; rintro en w2 ⟨rfl, rfl⟩))
    simp [bodyPost, results, Try.results17, go_sem, DecRet, d0, d1]
    repeat' (first | exact hb0 _ | refine Below.setCell ?_ (by simp) _ | refine drewN_below ?_ _)
  · have hl : 16 ≤ (s.size : Int) := by omega
    have hl2 : 32 ≤ (s.size : Int) := by omega
    have HV := Lib.hid (show rdRes (vN (s.extract 0 16).data.toList 0) = ((a : Int), true) by rw [rd1, h2]; rfl)
    have HV2 := Lib.hid (show rdRes (vN (s.extract 16 32).data.toList 0) = (0, false) by rw [rd2, h4]; rfl)
    have ht := and_top a (by omega)
    rw [if_neg (by omega)] at ht
    go_enter Try.func17, Try.ntmps17
    go_wp2_with (first | (go_at_call 34; first | (have K := HV; clear HV; refine (read_any (s.extract 0 16) _ (by simp; omega)).mono ?_; rintro en w1 ⟨rfl, q, rfl⟩; rw [K.out]) | (refine (read_any (s.extract 16 32) _ (by simp; omega)).mono ?_; rintro en w1 ⟨rfl, q2, rfl⟩; rw [HV2.out])) | (go_at_call 31; refine (bit1_any _).mono ?_; rintro en w2 ⟨rfl, rfl⟩))
    simp [bodyPost, results, Try.results17, go_sem, DecRet, d0, d1]
    repeat' (first | exact hb0 _ | refine Below.setCell ?_ (by simp) _ | refine drewN_below ?_ _)
  · have hl : 16 ≤ (s.size : Int) := by omega
    have hl2 : 32 ≤ (s.size : Int) := by omega
    have HV := Lib.hid (show rdRes (vN (s.extract 0 16).data.toList 0) = ((a : Int), true) by rw [rd1, h2]; rfl)
    have HV2 := Lib.hid (show rdRes (vN (s.extract 16 32).data.toList 0) = (0, true) by rw [rd2, h4]; rfl)
    have ht := and_top a (by omega)
    rw [if_neg (by omega)] at ht
    go_enter Try.func17, Try.ntmps17
    go_wp2_with (first | (go_at_call 34; first | (have K := HV; clear HV; refine (read_any (s.extract 0 16) _ (by simp; omega)).mono ?_; rintro en w1 ⟨rfl, q, rfl⟩; rw [K.out]) | (refine (read_any (s.extract 16 32) _ (by simp; omega)).mono ?_; rintro en w1 ⟨rfl, q2, rfl⟩; rw [HV2.out])) | (go_at_call 31; refine (bit1_any _).mono ?_; rintro en w2 ⟨rfl, rfl⟩))
    simp [bodyPost, results, Try.results17, go_sem, DecRet, d0, d1]
    repeat' (first | exact hb0 _ | refine Below.setCell ?_ (by simp) _ | refine drewN_below ?_ _)
  · have hl : 16 ≤ (s.size : Int) := by omega
    have hl2 : 32 ≤ (s.size : Int) := by omega
    have HV := Lib.hid (show rdRes (vN (s.extract 0 16).data.toList 0) = ((a : Int), true) by rw [rd1, h2]; rfl)
    have HV2 := Lib.hid (show rdRes (vN (s.extract 16 32).data.toList 0) = ((b : Int), true) by rw [rd2, h4]; rfl)
    have ht := and_top a (by omega)
    rw [if_neg (by omega)] at ht
    have hbz : ((b : Int) == 0) = false := by simp; omega
    have hcl : (a : Int) - 9223372036854775808 = ((a - 9223372036854775808 : Nat) : Int) := by omega
    rw [← hcl]
    clear h6 hcl
    go_enter Try.func17, Try.ntmps17
    go_wp2_with (first | (go_at_call 34; first | (have K := HV; clear HV; refine (read_any (s.extract 0 16) _ (by simp; omega)).mono ?_; rintro en w1 ⟨rfl, q, rfl⟩; rw [K.out]) | (refine (read_any (s.extract 16 32) _ (by simp; omega)).mono ?_; rintro en w1 ⟨rfl, q2, rfl⟩; rw [HV2.out])) | (go_at_call 31; refine (bit1_any _).mono ?_; rintro en w2 ⟨rfl, rfl⟩))
    simp [bodyPost, results, Try.results17, go_sem, DecRet, d0, d1]
    repeat' (first | exact hb0 _ | refine Below.setCell ?_ (by simp) _ | refine drewN_below ?_ _)
end Go.Proofs.Ytfolabkgeeeobaa
