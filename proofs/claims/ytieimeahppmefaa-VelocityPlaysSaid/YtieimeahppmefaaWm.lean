/-
  Velocity: walk over the chapter's Add. Condition: the state is one that the calls make.
-/
import Derived.Test.YtieimeahppmefaaWl
namespace Go.Proofs.Ytieimeahppmefaa
open Go.RowKit
set_option linter.unusedVariables false

/-- What a call of the chapter's Add leaves. -/
def RAddRet (B p : Nat) (s : VS) (key : ByteArray) (a am : Int) (w : World) (e : Ending) (w' : World) : Prop :=
  e = .returned (.int .i64 (addE s key a am)) ∧ RRep w' B p (addS s key a am) ∧ Turn B [61, 64] false w w'
theorem raddRet_no {B p : Nat} {s : VS} {key : ByteArray} {a am : Int} {w w' : World} {e : Ending} {n : Int} (hn : n ≠ 0) (he : addE s key a am = n) (h1 : e = .returned (.int .i64 n)) (h2 : RRep w' B p s) (h3 : Turn B [61, 64] false w w') : RAddRet B p s key a am w e w' := by
  unfold RAddRet addS
  rw [he, if_neg hn]
  exact ⟨h1, h2, h3⟩
theorem size_list (k : ByteArray) : k.toList.length = k.size := by rw [ByteArray.toList_eq]; simp
theorem not_empty {k : ByteArray} (h : 1 ≤ k.size) : k.toList.isEmpty = false ∧ ¬ k.toList = [] := by
  have := size_list k
  constructor
  · cases hk : k.toList with
    | nil => rw [hk] at this; simp at this; omega
    | cons x l => rfl
  · intro e
    rw [e] at this
    simp at this
    omega
theorem is_empty {k : ByteArray} (h : k.size < 1) : k = ⟨#[]⟩ := by
  refine ByteArray.ext ?_
  have : k.data.size = 0 := by have : k.data.size = k.size := rfl; omega
  exact Array.eq_empty_of_size_eq_zero this

set_option maxHeartbeats 400000 in
theorem radd_5 (B p : Nat) (s : VS) (key : ByteArray) (a am : Int) (w : World) (r : RRep w B p s) (h : key.size < 1 ∨ 40 < key.size) :
    Calls Try.prog 17 #[.pointer (some ⟨p, 0, none⟩), .string key, .int .i64 a, .int .i64 am] w (RAddRet B p s key a am w) := by
  rcases h with h | h
  · obtain rfl := is_empty h
    go_enter Try.func17, Try.ntmps17
    go_wp2_with fail
    go_ret
    exact raddRet_no (by decide) (addE_5 (.inl h)) rfl r (Turn.refl _ _ _ _)
  · have h2 : (40 : Int) < (key.size : Int) := by omega
    obtain ⟨k1, k2⟩ := not_empty (k := key) (by omega)
    go_enter Try.func17, Try.ntmps17
    go_wp2_with fail
    go_ret
    exact raddRet_no (by decide) (addE_5 (.inr h)) rfl r (Turn.refl _ _ _ _)

set_option maxHeartbeats 400000 in
theorem radd_14 (B p : Nat) (s : VS) (key : ByteArray) (a am : Int) (w : World) (r : RRep w B p s) (h : 1 ≤ key.size ∧ key.size ≤ 40) (h2 : ¬ isT a ∨ a < s.last) :
    Calls Try.prog 17 #[.pointer (some ⟨p, 0, none⟩), .string key, .int .i64 a, .int .i64 am] w (RAddRet B p s key a am w) := by
  have r' := r
  obtain ⟨hBp, A, c, B0, hown⟩ := r'
  have c2 := blk3_c2 B0
  obtain ⟨k1, k3⟩ := not_empty (k := key) h.1
  have k2 : ¬ (40 : Int) < (key.size : Int) := by omega
  by_cases ht : isT a
  · have hlt : a < s.last := h2.resolve_left (fun h => h ht)
    have hd : decide (isT a) = true := decide_eq_true ht
    go_enter Try.func17, Try.ntmps17
    go_wp2_with (go_at_call 29; refine (time_any a _).mono ?_; rintro e w' ⟨rfl, rfl⟩; rw [hd])
    go_ret
    exact raddRet_no (by decide) (addE_14 h h2) rfl r (Turn.refl _ _ _ _)
  · have hd : decide (isT a) = false := decide_eq_false ht
    go_enter Try.func17, Try.ntmps17
    go_wp2_with (go_at_call 29; refine (time_any a _).mono ?_; rintro e w' ⟨rfl, rfl⟩; rw [hd])
    go_ret
    exact raddRet_no (by decide) (addE_14 h h2) rfl r (Turn.refl _ _ _ _)

set_option maxHeartbeats 400000 in
theorem radd_4 (B p : Nat) (s : VS) (key : ByteArray) (a am : Int) (w : World) (r : RRep w B p s) (h : 1 ≤ key.size ∧ key.size ≤ 40) (h2 : isT a ∧ s.last ≤ a) (h3 : am < 0 ∨ maxAm < am) :
    Calls Try.prog 17 #[.pointer (some ⟨p, 0, none⟩), .string key, .int .i64 a, .int .i64 am] w (RAddRet B p s key a am w) := by
  have r' := r
  obtain ⟨hBp, A, c, B0, hown⟩ := r'
  have c2 := blk3_c2 B0
  obtain ⟨k1, k5⟩ := not_empty (k := key) h.1
  have k2 : ¬ (40 : Int) < (key.size : Int) := by omega
  have k3 : ¬ a < s.last := by omega
  have hd : decide (isT a) = true := decide_eq_true h2.1
  have h4 := h3
  unfold maxAm at h4
  rcases h4 with h4 | h4
  · go_enter Try.func17, Try.ntmps17
    go_wp2_with (go_at_call 29; refine (time_any a _).mono ?_; rintro e w' ⟨rfl, rfl⟩; rw [hd])
    go_ret
    exact raddRet_no (by decide) (addE_4 h h2 h3) rfl r (Turn.refl _ _ _ _)
  · have k4 : ¬ am < 0 := by omega
    go_enter Try.func17, Try.ntmps17
    go_wp2_with (go_at_call 29; refine (time_any a _).mono ?_; rintro e w' ⟨rfl, rfl⟩; rw [hd])
    go_ret
    exact raddRet_no (by decide) (addE_4 h h2 h3) rfl r (Turn.refl _ _ _ _)

set_option maxHeartbeats 400000 in
theorem radd_12 (B p : Nat) (s : VS) (o : s.Ok) (key : ByteArray) (a am : Int) (w : World) (hBw : B ≤ w.heap.size) (r : RRep w B p s) (h : 1 ≤ key.size ∧ key.size ≤ 40) (h2 : isT a ∧ s.last ≤ a) (h3 : 0 ≤ am ∧ am ≤ maxAm) (h4 : 1000 ≤ (young (a - s.h) s.us).length) :
    Calls Try.prog 17 #[.pointer (some ⟨p, 0, none⟩), .string key, .int .i64 a, .int .i64 am] w (RAddRet B p s key a am w) := by
  have r' := r
  obtain ⟨hBp, A, c, B0, hown⟩ := r'
  have c2 := blk3_c2 B0
  obtain ⟨k1, k8⟩ := not_empty (k := key) h.1
  have k2 : ¬ (40 : Int) < (key.size : Int) := by omega
  have k3 : ¬ a < s.last := by omega
  have hd : decide (isT a) = true := decide_eq_true h2.1
  obtain ⟨k4, k5⟩ := h3
  have k5' : am ≤ 999999999999 := by unfold maxAm at k5; exact k5
  have hf : (1000 : Int) ≤ (young (a - s.h) s.us).length := by omega
  have HE := Lib.hid (addE_12 h h2 ⟨k4, k5⟩ h4)
  have HK := Lib.hid (kept_any B p s o a h2.1 w r)
  go_enter Try.func17, Try.ntmps17
  go_wp2_with (first
    | (go_at_call 29; refine (time_any a _).mono ?_; rintro e w' ⟨rfl, rfl⟩; rw [hd])
    | (go_at_call 30; refine HK.out.mono ?_; rintro e w2 ⟨v, rfl, own, hb⟩; obtain ⟨A2, C2, rfl⟩ := own_slice own))
  go_ret
  exact raddRet_no (by decide) HE.out rfl (RRep.call r hb) (Turn.of_below hb hBw)

set_option maxHeartbeats 800000 in
set_option maxRecDepth 100000 in
theorem radd_0 (B p : Nat) (s : VS) (o : s.Ok) (key : ByteArray) (a am : Int) (w : World) (hBw : B ≤ w.heap.size) (r : RRep w B p s) (h : 1 ≤ key.size ∧ key.size ≤ 40) (h2 : isT a ∧ s.last ≤ a) (h3 : 0 ≤ am ∧ am ≤ maxAm) (h4 : (young (a - s.h) s.us).length < 1000) :
    Calls Try.prog 17 #[.pointer (some ⟨p, 0, none⟩), .string key, .int .i64 a, .int .i64 am] w (RAddRet B p s key a am w) := by
  have r' := r
  obtain ⟨hBp, A, c, B0, hown⟩ := r'
  have c2 := blk3_c2 B0
  obtain ⟨k1, k8⟩ := not_empty (k := key) h.1
  have k2 : ¬ (40 : Int) < (key.size : Int) := by omega
  have k3 : ¬ a < s.last := by omega
  have hd : decide (isT a) = true := decide_eq_true h2.1
  obtain ⟨k4, k5⟩ := h3
  have k5' : am ≤ 999999999999 := by unfold maxAm at k5; exact k5
  have hf : ¬ (1000 : Int) ≤ (young (a - s.h) s.us).length := by omega
  have HE := Lib.hid (addE_0 h h2 ⟨k4, k5⟩ h4)
  have HK := Lib.hid (kept_any B p s o a h2.1 w r)
  go_enter Try.func17, Try.ntmps17
  go_wp2_with (first
    | (go_at_call 29; refine (time_any a _).mono ?_; rintro e w' ⟨rfl, rfl⟩; rw [hd])
    | (go_at_call 30
       have K := HK
       clear HK
       refine K.out.mono ?_
       rintro e w2 ⟨v, rfl, own, hb⟩
       obtain ⟨A2, C2, rfl⟩ := own_slice own
       have r2 := RRep.call r hb
       have KK := Lib.hid (kept_any B p s o a h2.1 w2 r2)
       have B2 := B0.call hb))
  refine KK.out.mono ?_
  rintro e w3 ⟨v, rfl, own3, hb3⟩
  have B3 := B2.call hb3
  have l3 := B3.lt
  have z3 : B ≤ w3.heap.size := Nat.le_trans hBw (Nat.le_trans hb.size hb3.size)
  have own4 := (own_mono own3 (Nat.le_trans hBw hb.size)).alloc (.cells #[.string key, .int .i64 a, .int .i64 am] 64)
  have X3 := B3.alloc (.cells #[.string key, .int .i64 a, .int .i64 am] 64)
  go_wp2_with (
     at_builtin
     go_must (refine wpList_push rUseE _ _ rfl rfl B _ _ _ rfl own4 _ #[.string key, .int .i64 a, .int .i64 am] (Blk.new w3 64 _) rfl rfl (fun u hu => by simp at hu; rcases hu with rfl | rfl | rfl <;> rfl) (by unfold maxLen; omega) (by omega) (by simp; omega) ?_)
     intro g cap w4 own5 hg4 hor
     have X4 := X3.grown hg4 (own_blk_ne own4 X3 (by decide)).symm
     have T4 : Turn B [61, 64] false w w4 := ((((Turn.of_below hb hBw).call hb3 hBw).alloc _ hBw).grownBy own4 hg4 rfl hBw)
     have l4 := X4.lt
     have f4 := X4.frozen
     have e2 := blk3_c2 X4
     have e1 := blk3_c1 X4
     have HO3 := Lib.hid own5
     clear own own3 own4 own5 hg4 hor c2)
  go_ret
  have hS : addS s key a am = { s with last := a, us := young (a - s.h) s.us ++ [⟨key, a, am⟩] } := by unfold addS; rw [if_pos HE.out]
  refine ⟨by rw [HE.out]; rfl, ?_, (T4.setB X4 rfl hBp 1 _).setB (blk3_set1 X4 _) rfl hBp 2 _⟩
  rw [hS]
  refine ⟨hBp, some ⟨g, 0, none⟩, cap, ?_, ?_⟩
  · have := blk3_set (blk3_set1 X4 (.slice (some ⟨g, 0, none⟩) ((young (a - s.h) s.us).length + 1) cap)) (.int .i64 a)
    simp only [List.length_append, List.length_cons, List.length_nil]
    exact this
  · have h5 := own_far (p := ⟨p, 2, none⟩) (own_far (p := ⟨p, 1, none⟩) HO3.out (own_blk_ne HO3.out X4 (by decide)) (.slice (some ⟨g, 0, none⟩) ((young (a - s.h) s.us).length + 1) cap)) (own_blk_ne HO3.out X4 (by decide)) (.int .i64 a)
    simp only [List.length_append, List.length_cons, List.length_nil]
    rw [flat_snoc]
    exact h5
theorem radd_any (B p : Nat) (s : VS) (o : s.Ok) (key : ByteArray) (a am : Int) (w : World) (hBw : B ≤ w.heap.size) (r : RRep w B p s) :
    Calls Try.prog 17 #[.pointer (some ⟨p, 0, none⟩), .string key, .int .i64 a, .int .i64 am] w (RAddRet B p s key a am w) := by
  by_cases h : key.size < 1 ∨ 40 < key.size
  · exact radd_5 B p s key a am w r h
  · have h' : 1 ≤ key.size ∧ key.size ≤ 40 := by omega
    by_cases h2 : ¬ isT a ∨ a < s.last
    · exact radd_14 B p s key a am w r h' h2
    · have h2' : isT a ∧ s.last ≤ a := ⟨by by_cases g : isT a; exact g; exact absurd (.inl g) h2, by by_cases g : s.last ≤ a; exact g; exact absurd (.inr (by omega)) h2⟩
      by_cases h3 : am < 0 ∨ maxAm < am
      · exact radd_4 B p s key a am w r h' h2' h3
      · by_cases h4 : 1000 ≤ (young (a - s.h) s.us).length
        · exact radd_12 B p s o key a am w hBw r h' h2' (by omega) h4
        · exact radd_0 B p s o key a am w hBw r h' h2' (by omega) (by omega)
end Go.Proofs.Ytieimeahppmefaa
