/-
  Velocity: walk over Add. Condition: the state is one that the calls make.
-/
import Derived.Test.YtieimeahppmefaaWb
namespace Go.Proofs.Ytieimeahppmefaa
open Go.RowKit
set_option linter.unusedVariables false

theorem VRep.drewN {w : World} {B p : Nat} {s : VS} (h : VRep w B p s) (q : Nat) : VRep (w.drewN q) B p s := h
theorem useE : ElemT Try.prog 50 56 (.agg #[.string ⟨#[]⟩, .int .i64 0, .int .i64 0]) 3 32 := ⟨Try.underlying50, by kernel_rfl, rfl, by decide⟩
theorem blk3_c0 {w : World} {g : Nat} {t : TypeId} {x y z : Value} (h : Blk w g t #[x, y, z]) : w.cell? ⟨g, 0, none⟩ = some x := h.c 0 _ rfl
theorem blk3_c1 {w : World} {g : Nat} {t : TypeId} {x y z : Value} (h : Blk w g t #[x, y, z]) : w.cell? ⟨g, 1, none⟩ = some y := h.c 1 _ rfl
theorem blk3_c2 {w : World} {g : Nat} {t : TypeId} {x y z : Value} (h : Blk w g t #[x, y, z]) : w.cell? ⟨g, 2, none⟩ = some z := h.c 2 _ rfl
theorem blk3_set1 {w : World} {g : Nat} {t : TypeId} {x y z : Value} (h : Blk w g t #[x, y, z]) (u : Value) : Blk (w.setCell ⟨g, 1, none⟩ u) g t #[x, u, z] := by
  simpa using h.set_ 1 u

/-- What a call of Add leaves. -/
def AddRet (B p : Nat) (s : VS) (key : ByteArray) (a am : Int) (w : World) (e : Ending) (w' : World) : Prop :=
  e = .returned (.int .i64 (addE s key a am)) ∧ VRep w' B p (addS s key a am) ∧ Turn B [52, 56] false w w'
theorem addRet_no {B p : Nat} {s : VS} {key : ByteArray} {a am : Int} {w w' : World} {e : Ending} {n : Int} (hn : n ≠ 0) (he : addE s key a am = n) (h1 : e = .returned (.int .i64 n)) (h2 : VRep w' B p s) (h3 : Turn B [52, 56] false w w') : AddRet B p s key a am w e w' := by
  unfold AddRet addS
  rw [he, if_neg hn]
  exact ⟨h1, h2, h3⟩
theorem addE_5 {s : VS} {key : ByteArray} {a am : Int} (h : key.size < 1 ∨ 40 < key.size) : addE s key a am = 5 := by
  unfold addE
  rw [if_pos h]
theorem addE_14 {s : VS} {key : ByteArray} {a am : Int} (h : 1 ≤ key.size ∧ key.size ≤ 40) (h2 : ¬ isT a ∨ a < s.last) : addE s key a am = 14 := by
  unfold addE
  rw [if_neg (by omega), if_pos h2]
theorem addE_4 {s : VS} {key : ByteArray} {a am : Int} (h : 1 ≤ key.size ∧ key.size ≤ 40) (h2 : isT a ∧ s.last ≤ a) (h3 : am < 0 ∨ maxAm < am) : addE s key a am = 4 := by
  unfold addE
  rw [if_neg (by omega), if_neg (by intro h; rcases h with h | h; exact h h2.1; omega), if_pos h3]
theorem addE_12 {s : VS} {key : ByteArray} {a am : Int} (h : 1 ≤ key.size ∧ key.size ≤ 40) (h2 : isT a ∧ s.last ≤ a) (h3 : 0 ≤ am ∧ am ≤ maxAm) (h4 : 1000 ≤ (young (a - s.h) s.us).length) : addE s key a am = 12 := by
  unfold addE
  rw [if_neg (by omega), if_neg (by intro h; rcases h with h | h; exact h h2.1; omega), if_neg (by omega), if_pos h4]
theorem addE_0 {s : VS} {key : ByteArray} {a am : Int} (h : 1 ≤ key.size ∧ key.size ≤ 40) (h2 : isT a ∧ s.last ≤ a) (h3 : 0 ≤ am ∧ am ≤ maxAm) (h4 : (young (a - s.h) s.us).length < 1000) : addE s key a am = 0 := by
  unfold addE
  rw [if_neg (by omega), if_neg (by intro h; rcases h with h | h; exact h h2.1; omega), if_neg (by omega), if_neg (by omega)]

set_option maxHeartbeats 400000 in
theorem add_5 (B p : Nat) (s : VS) (key : ByteArray) (a am : Int) (w : World) (r : VRep w B p s) (h : key.size < 1 ∨ 40 < key.size) :
    Calls Try.prog 9 #[.pointer (some ⟨p, 0, none⟩), .string key, .int .i64 a, .int .i64 am] w (AddRet B p s key a am w) := by
  rcases h with h | h
  · have h' : (key.size : Int) < 1 := by omega
    go_enter Try.func9, Try.ntmps9
    go_wp2_with fail
    go_ret
    exact addRet_no (by decide) (addE_5 (.inl h)) rfl r (Turn.refl _ _ _ _)
  · have h' : ¬ (key.size : Int) < 1 := by omega
    have h2 : (40 : Int) < (key.size : Int) := by omega
    go_enter Try.func9, Try.ntmps9
    go_wp2_with fail
    go_ret
    exact addRet_no (by decide) (addE_5 (.inr h)) rfl r (Turn.refl _ _ _ _)

set_option maxHeartbeats 400000 in
theorem add_14 (B p : Nat) (s : VS) (key : ByteArray) (a am : Int) (w : World) (r : VRep w B p s) (h : 1 ≤ key.size ∧ key.size ≤ 40) (h2 : ¬ isT a ∨ a < s.last) :
    Calls Try.prog 9 #[.pointer (some ⟨p, 0, none⟩), .string key, .int .i64 a, .int .i64 am] w (AddRet B p s key a am w) := by
  have r' := r
  obtain ⟨hBp, A, c, B0, hown⟩ := r'
  have c1 := blk3_c1 B0
  have k1 : ¬ (key.size : Int) < 1 := by omega
  have k2 : ¬ (40 : Int) < (key.size : Int) := by omega
  by_cases ht : isT a
  · have hlt : a < s.last := h2.resolve_left (fun h => h ht)
    go_enter Try.func9, Try.ntmps9
    go_wp2_with (go_at_call 25; refine (isTime_yes _ _ ht).mono ?_; rintro e w' ⟨rfl, rfl⟩)
    go_ret
    exact addRet_no (by decide) (addE_14 h h2) rfl r (Turn.refl _ _ _ _)
  · go_enter Try.func9, Try.ntmps9
    go_wp2_with (go_at_call 25; refine (isTime_no _ _ ht).mono ?_; rintro e w' ⟨rfl, rfl⟩)
    go_ret
    exact addRet_no (by decide) (addE_14 h h2) rfl r (Turn.refl _ _ _ _)

set_option maxHeartbeats 400000 in
theorem add_4 (B p : Nat) (s : VS) (key : ByteArray) (a am : Int) (w : World) (r : VRep w B p s) (h : 1 ≤ key.size ∧ key.size ≤ 40) (h2 : isT a ∧ s.last ≤ a) (h3 : am < 0 ∨ maxAm < am) :
    Calls Try.prog 9 #[.pointer (some ⟨p, 0, none⟩), .string key, .int .i64 a, .int .i64 am] w (AddRet B p s key a am w) := by
  have r' := r
  obtain ⟨hBp, A, c, B0, hown⟩ := r'
  have c1 := blk3_c1 B0
  have k1 : ¬ (key.size : Int) < 1 := by omega
  have k2 : ¬ (40 : Int) < (key.size : Int) := by omega
  have k3 : ¬ a < s.last := by omega
  have h4 := h3
  unfold maxAm at h4
  rcases h4 with h4 | h4
  · go_enter Try.func9, Try.ntmps9
    go_wp2_with (go_at_call 25; refine (isTime_yes _ _ h2.1).mono ?_; rintro e w' ⟨rfl, rfl⟩)
    go_ret
    exact addRet_no (by decide) (addE_4 h h2 h3) rfl r (Turn.refl _ _ _ _)
  · have k4 : ¬ am < 0 := by omega
    go_enter Try.func9, Try.ntmps9
    go_wp2_with (go_at_call 25; refine (isTime_yes _ _ h2.1).mono ?_; rintro e w' ⟨rfl, rfl⟩)
    go_ret
    exact addRet_no (by decide) (addE_4 h h2 h3) rfl r (Turn.refl _ _ _ _)

set_option maxHeartbeats 400000 in
theorem add_12 (B p : Nat) (s : VS) (o : s.Ok) (key : ByteArray) (a am : Int) (w : World) (r : VRep w B p s) (h : 1 ≤ key.size ∧ key.size ≤ 40) (h2 : isT a ∧ s.last ≤ a) (h3 : 0 ≤ am ∧ am ≤ maxAm) (h4 : 1000 ≤ (young (a - s.h) s.us).length) :
    Calls Try.prog 9 #[.pointer (some ⟨p, 0, none⟩), .string key, .int .i64 a, .int .i64 am] w (AddRet B p s key a am w) := by
  have r' := r
  obtain ⟨hBp, A, c, B0, hown⟩ := r'
  have c1 := blk3_c1 B0
  have c2 := fun n => blk3_c2 (B0.drewN n)
  have k1 : ¬ (key.size : Int) < 1 := by omega
  have k2 : ¬ (40 : Int) < (key.size : Int) := by omega
  have k3 : ¬ a < s.last := by omega
  obtain ⟨k4, k5⟩ := h3
  have k5' : am ≤ 999999999999 := by unfold maxAm at k5; exact k5
  have hO := old_any B p s o a h2.1 w r
  have hm := young_len (b := a - s.h) o.asc
  have hm2 := old_len (a - s.h) s.us
  generalize (oldL (a - s.h) s.us).length = m at hO hm hm2
  have o3 := o.len
  have hf : (1000 : Int) ≤ (s.us.length : Int) - m := by omega
  have HE := Lib.hid (addE_12 h h2 ⟨k4, k5⟩ h4)
  have HC := Lib.hid hO
  clear hO hm
  go_enter Try.func9, Try.ntmps9
  go_wp2_with (first | (go_at_call 25; refine (isTime_yes _ _ h2.1).mono ?_; rintro e w' ⟨rfl, rfl⟩) | (go_at_call 26; refine HC.out.mono ?_; rintro e w' ⟨rfl, q, rfl⟩))
  go_ret
  exact addRet_no (by decide) HE.out rfl (r.drewN _) ((Turn.refl _ _ _ _).drewN _)

theorem remove_0 (B p : Nat) (s : VS) (hl : s.us.length ≤ 1000) (k : Nat) (hk : k ≤ s.us.length) (w : World) (hBw : B ≤ w.heap.size) (r : VRep w B p s) :
    Calls Try.prog 27 #[.pointer (some ⟨p, 0, none⟩), .int .i64 0, .int .i64 k] w fun e w' => e = .returned (.tuple #[]) ∧ VRep w' B p (Cut s 0 k) ∧ Turn B [52, 56] false w w' :=
  remove_any B p s hl 0 k (by omega) w hBw r

set_option maxHeartbeats 800000 in
theorem add_0 (B p : Nat) (s : VS) (o : s.Ok) (key : ByteArray) (a am : Int) (w : World) (hBw : B ≤ w.heap.size) (r : VRep w B p s) (h : 1 ≤ key.size ∧ key.size ≤ 40) (h2 : isT a ∧ s.last ≤ a) (h3 : 0 ≤ am ∧ am ≤ maxAm) (h4 : (young (a - s.h) s.us).length < 1000) :
    Calls Try.prog 9 #[.pointer (some ⟨p, 0, none⟩), .string key, .int .i64 a, .int .i64 am] w (AddRet B p s key a am w) := by
  have r' := r
  obtain ⟨hBp, A, c, B0, hown⟩ := r'
  have c1 := blk3_c1 B0
  have c2 := fun n => blk3_c2 (B0.drewN n)
  have k1 : ¬ (key.size : Int) < 1 := by omega
  have k2 : ¬ (40 : Int) < (key.size : Int) := by omega
  have k3 : ¬ a < s.last := by omega
  obtain ⟨k4, k5⟩ := h3
  have k5' : am ≤ 999999999999 := by unfold maxAm at k5; exact k5
  have hO := old_any B p s o a h2.1 w r
  have hm := young_len (b := a - s.h) o.asc
  have hdr := drop_old (a - s.h) s.us o.asc
  have hm2 := old_len (a - s.h) s.us
  generalize (oldL (a - s.h) s.us).length = m at hO hm hm2 hdr
  have o3 := o.len
  have hf : ¬ (1000 : Int) ≤ (s.us.length : Int) - m := by omega
  have HE := Lib.hid (addE_0 h h2 ⟨k4, k5⟩ h4)
  have HC := Lib.hid hO
  have HD := Lib.hid hdr
  have HM := Lib.hid hm
  clear hO hm hdr hown
  go_enter Try.func9, Try.ntmps9
  go_wp2_with (first
    | (go_at_call 25; refine (isTime_yes _ _ h2.1).mono ?_; rintro e w' ⟨rfl, rfl⟩)
    | (go_at_call 26; refine HC.out.mono ?_; rintro e w' ⟨rfl, q, rfl⟩))
  refine (remove_0 B p s o3 m hm2 (w.drewN q) hBw (r.drewN q)).mono ?_
  rintro e w2 ⟨rfl, ⟨_, A2, C2, B2, own2⟩, T2⟩
  clear c1 c2
  have d2 := blk3_c2 B2
  have l2 := B2.lt
  have z2 : B ≤ w2.heap.size := Nat.le_trans hBw T2.size
  have own3 := own2.alloc (.cells #[.string key, .int .i64 a, .int .i64 am] 56)
  have X2 := (B2.alloc (.cells #[.string key, .int .i64 a, .int .i64 am] 56))
  have hcl : (Cut s 0 m).us.length < 1000 := by rw [Cut_len (by omega)]; have := HM.out; omega
  go_wp2_with (
     at_builtin
     refine wpList_push useE _ _ rfl rfl B _ _ _ rfl own3 _ #[.string key, .int .i64 a, .int .i64 am] (Blk.new w2 56 _) rfl rfl (fun u hu => by simp at hu; rcases hu with rfl | rfl | rfl <;> rfl) (by unfold maxLen; omega) (by omega) (by simp; omega) ?_
     intro g cap w3 own4 hg4 hor
     have X3 := X2.grown hg4 (own_blk_ne own3 X2 (by decide)).symm
     have T3 : Turn B [52, 56] false w w3 := (((((Turn.refl B [52, 56] false w).drewN q).trans T2).alloc _ hBw).grownBy own3 hg4 rfl hBw)
     have l3 := X3.lt
     have f3 := X3.frozen
     have e2 := blk3_c2 X3
     have e1 := blk3_c1 X3
     have HO3 := Lib.hid own4
     clear d2 own2 own3 own4 hg4 hor)
  go_ret
  have hus : (Cut s 0 m).us = young (a - s.h) s.us := by rw [← HD.out]; unfold Cut; simp
  have hS : addS s key a am = { s with last := a, us := young (a - s.h) s.us ++ [⟨key, a, am⟩] } := by unfold addS; rw [if_pos HE.out]
  refine ⟨by rw [HE.out]; rfl, ?_, (T3.setB X3 rfl hBp 2 _).setB (blk3_set X3 _) rfl hBp 1 _⟩
  rw [hS]
  refine ⟨hBp, some ⟨g, 0, none⟩, cap, ?_, ?_⟩
  · have := blk3_set1 (blk3_set X3 (.slice (some ⟨g, 0, none⟩) ((Cut s 0 m).us.length + 1) cap)) (.int .i64 a)
    rw [hus] at this ⊢
    simp only [List.length_append, List.length_cons, List.length_nil]
    exact this
  · have h5 := own_far (p := ⟨p, 1, none⟩) (own_far (p := ⟨p, 2, none⟩) HO3.out (own_blk_ne HO3.out X3 (by decide)) (.slice (some ⟨g, 0, none⟩) ((Cut s 0 m).us.length + 1) cap)) (own_blk_ne HO3.out X3 (by decide)) (.int .i64 a)
    rw [hus] at h5 ⊢
    simp only [List.length_append, List.length_cons, List.length_nil, List.flatMap_append, List.flatMap_cons, List.flatMap_nil, List.append_nil]
    exact h5

theorem add_any (B p : Nat) (s : VS) (o : s.Ok) (key : ByteArray) (a am : Int) (w : World) (hBw : B ≤ w.heap.size) (r : VRep w B p s) :
    Calls Try.prog 9 #[.pointer (some ⟨p, 0, none⟩), .string key, .int .i64 a, .int .i64 am] w (AddRet B p s key a am w) := by
  by_cases h : key.size < 1 ∨ 40 < key.size
  · exact add_5 B p s key a am w r h
  · have h' : 1 ≤ key.size ∧ key.size ≤ 40 := by omega
    by_cases h2 : ¬ isT a ∨ a < s.last
    · exact add_14 B p s key a am w r h' h2
    · have h2' : isT a ∧ s.last ≤ a := ⟨by by_cases g : isT a; exact g; exact absurd (.inl g) h2, by by_cases g : s.last ≤ a; exact g; exact absurd (.inr (by omega)) h2⟩
      by_cases h3 : am < 0 ∨ maxAm < am
      · exact add_4 B p s key a am w r h' h2' h3
      · by_cases h4 : 1000 ≤ (young (a - s.h) s.us).length
        · exact add_12 B p s o key a am w r h' h2' (by omega) h4
        · exact add_0 B p s o key a am w hBw r h' h2' (by omega) (by omega)
theorem add_nil (key : ByteArray) (a am : Int) (w : World) :
    Calls Try.prog 9 #[.pointer none, .string key, .int .i64 a, .int .i64 am] w fun e w' => e = .returned (.int .i64 6) ∧ w = w' := by
  go_enter Try.func9, Try.ntmps9
  go_wp2_with fail
  go_ret
  exact ⟨rfl, rfl⟩
end Go.Proofs.Ytieimeahppmefaa
