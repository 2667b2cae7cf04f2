/-
  Timer: walk over the law TimerMoves. Condition: times from 0 to 255.
-/
import Derived.Test.YtmkcpgdjbbcigaaWl
namespace Go.Proofs.Ytmkcpgdjbbcigaa
open Go.RowKit
set_option linter.unusedVariables false

theorem findK_eq {key : ByteArray} {x : Ti} {l : List Ti} (h : x.id.toList = key.toList) : findK key (x :: l) = some 0 := by unfold findK; rw [if_pos h]
theorem findK_ne {key : ByteArray} {x : Ti} {l : List Ti} (h : ¬ x.id.toList = key.toList) : findK key (x :: l) = (findK key l).map (· + 1) := by rw [findK, if_neg h]
theorem findK_hd (k : ByteArray) (a : Int) (l : List Ti) : findK k (⟨k, a⟩ :: l) = some 0 := findK_eq rfl
theorem findK_nil {key : ByteArray} : findK key [] = none := rfl
theorem set_yes {s : TS} {key : ByteArray} {a : Int} (h1 : identOk key = true) (h2 : posT s.now a) (h3 : findK key s.ts = none) (h4 : s.ts.length < 256) :
    setE s key a = 0 ∧ setS s key a = { s with ts := insT ⟨key, a⟩ s.ts } := by
  have he : setE s key a = 0 := by
    unfold setE
    rw [if_neg (by rw [h1]; decide), if_neg (by simpa using h2), h3, if_neg (by simp), if_neg (by omega)]
  refine ⟨he, ?_⟩
  unfold setS
  rw [if_pos he]
theorem nab : ¬ ka.toList = kb.toList := by decide +kernel
theorem nac : ¬ ka.toList = kc.toList := by decide +kernel
theorem nba : ¬ kb.toList = ka.toList := by decide +kernel
theorem nbc : ¬ kb.toList = kc.toList := by decide +kernel
theorem nca : ¬ kc.toList = ka.toList := by decide +kernel
theorem ncb : ¬ kc.toList = kb.toList := by decide +kernel
theorem ida : identOk ka = true := by decide +kernel
theorem idb : identOk kb = true := by decide +kernel
theorem idc : identOk kc = true := by decide +kernel
def M1 (f : Int) : TS := ⟨0, [⟨ka, f⟩]⟩
def M2 (f t : Int) : TS := ⟨0, if t < f then [⟨kb, t⟩, ⟨ka, f⟩] else [⟨ka, f⟩, ⟨kb, t⟩]⟩
def M3 (f t : Int) : TS := ⟨0, if t < f then [⟨kb, t⟩, ⟨kc, t⟩, ⟨ka, f⟩] else [⟨ka, f⟩, ⟨kb, t⟩, ⟨kc, t⟩]⟩
def M4 (t : Int) : TS := ⟨0, [⟨kb, t⟩, ⟨kc, t⟩, ⟨ka, t⟩]⟩
def M5 (t : Int) : TS := ⟨0, [⟨kc, t⟩, ⟨ka, t⟩]⟩
theorem mS1 {f : Int} (hf : 0 ≤ f ∧ f ≤ 255) : setE ⟨0, []⟩ ka f = 0 ∧ setS ⟨0, []⟩ ka f = M1 f := set_yes ida ⟨hf.1, by omega⟩ rfl (by decide)
theorem mS2 {f t : Int} (ht : 0 ≤ t ∧ t ≤ 255) : setE (M1 f) kb t = 0 ∧ setS (M1 f) kb t = M2 f t := by
  obtain ⟨h1, h2⟩ := set_yes (s := M1 f) (key := kb) (a := t) idb ⟨ht.1, by omega⟩ (by unfold M1; rw [findK_ne nab]; rfl) (by simp [M1])
  refine ⟨h1, h2.trans (TS.eq_ rfl ?_)⟩
  by_cases h : t < f <;> simp [M1, insT, place, h]
theorem mS3 {f t : Int} (ht : 0 ≤ t ∧ t ≤ 255) : setE (M2 f t) kc t = 0 ∧ setS (M2 f t) kc t = M3 f t := by
  obtain ⟨h1, h2⟩ := set_yes (s := M2 f t) (key := kc) (a := t) idc ⟨ht.1, by omega⟩ (by
      unfold M2
      by_cases h : t < f <;> simp only [h, if_true, if_false]
      · rw [findK_ne nbc, findK_ne nac]; rfl
      · rw [findK_ne nac, findK_ne nbc]; rfl) (by by_cases h : t < f <;> simp [M2, h])
  refine ⟨h1, h2.trans (TS.eq_ rfl ?_)⟩
  by_cases h : t < f <;> simp [M2, insT, place, h]
theorem mS4 {f t : Int} : ∃ i, findK ka (M3 f t).ts = some i ∧ ({ M3 f t with ts := insT ⟨ka, t⟩ (remT i 1 (M3 f t).ts) } : TS) = M4 t := by
  by_cases h : t < f
  · refine ⟨2, ?_, TS.eq_ rfl ?_⟩
    · unfold M3
      simp only [h, if_true]
      rw [findK_ne nba, findK_ne nca, findK_hd]
      rfl
    · simp [M3, insT, remT, place, h]
  · refine ⟨0, ?_, TS.eq_ rfl ?_⟩
    · unfold M3
      simp only [h, if_false]
      rw [findK_hd]
    · simp [M3, insT, remT, place, h]
theorem mS5 {t : Int} (ht : 0 ≤ t ∧ t ≤ 255) : dueL (M5 t) 255 = [kc, ka] := by
  have h1 : ¬ (255 : Int) < t := by omega
  simp [M5, dueL, dueN, h1]
theorem mF4 (t : Int) : findK kb (M4 t).ts = some 0 := findK_eq rfl
theorem mR4 (t : Int) : ({ M4 t with ts := remT 0 1 (M4 t).ts } : TS) = M5 t := rfl
theorem mF5 (t : Int) : findK kb (M5 t).ts = none := by unfold M5; rw [findK_ne ncb, findK_ne nab]; rfl
theorem mF5a (t : Int) : findK ka (M5 t).ts = some 1 := by unfold M5; rw [findK_ne nca, findK_hd]; rfl
theorem M3_len (f t : Int) : (M3 f t).ts.length < 1000 := by by_cases h : t < f <;> simp [M3, h]

set_option maxRecDepth 100000 in
set_option maxHeartbeats 1600000 in
theorem law_moves (f t : Int) (hf : 0 ≤ f ∧ f ≤ 255) (ht : 0 ≤ t ∧ t ≤ 255) (w : World) : Calls Try.prog 7 #[.int .u8 f, .int .u8 t] w fun e w' => e = .returned (.bool true) ∧ Below w.heap.size w w' := by
  have F1 := mS1 hf
  have F2 := mS2 (f := f) ht
  have F3 := mS3 (f := f) ht
  obtain ⟨i, F4, F5⟩ := mS4 (f := f) (t := t)
  have F6 := mS5 ht
  have pp : posT (M3 f t).now t := ⟨ht.1, by omega⟩
  have G1 := Lib.hid F1; have G2 := Lib.hid F2; have G3 := Lib.hid F3; have G4 := Lib.hid F4; have G5 := Lib.hid F5; have G6 := Lib.hid F6; have GP := Lib.hid pp
  obtain ⟨f1, f2⟩ := hf
  obtain ⟨t1, t2⟩ := ht
  clear F1 F2 F3 F4 F5 F6 pp
  go_enter Try.func7, Try.ntmps7
  go_wp2_with fail
  refine (new_ok w).mono ?_
  rintro e w1 ⟨rfl, R1, b1⟩
  obtain ⟨p, hp⟩ : ∃ p, w.heap.size = p := ⟨_, rfl⟩
  rw [hp] at R1 b1 ⊢
  have z1 : p ≤ w1.heap.size := by have := b1.size; omega
  have HP := Lib.hid hp
  have HS1 := Lib.hid (set_any p p ⟨0, []⟩ ka f w1 z1 R1)
  clear hp
  go_wp2_with fail
  refine HS1.out.mono ?_
  rintro e w2 ⟨rfl, R2, T2⟩
  rw [G1.out.1]
  rw [G1.out.2] at R2
  have z2 := Nat.le_trans z1 T2.size
  have HS2 := Lib.hid (set_any p p (M1 f) kb t w2 z2 R2)
  have b2 := Lib.hid (b1.trans T2.below)
  clear R1 R2 T2 b1 HS1
  go_wp2_with fail
  refine HS2.out.mono ?_
  rintro e w3 ⟨rfl, R3, T3⟩
  rw [G2.out.1]
  rw [G2.out.2] at R3
  have z3 := Nat.le_trans z2 T3.size
  have HS3 := Lib.hid (set_any p p (M2 f t) kc t w3 z3 R3)
  have b3 := Lib.hid (b2.out.trans T3.below)
  clear R3 T3 HS2
  go_wp2_with fail
  refine HS3.out.mono ?_
  rintro e w4 ⟨rfl, R4, T4⟩
  rw [G3.out.1]
  rw [G3.out.2] at R4
  have z4 := Nat.le_trans z3 T4.size
  have HM := Lib.hid (move_ok p p (M3 f t) ⟨ka, t⟩ i G4.out (M3_len f t) GP.out w4 z4 R4)
  have b4 := Lib.hid (b3.out.trans T4.below)
  clear R4 T4 HS3
  go_wp2_with fail
  refine HM.out.mono ?_
  rintro e w5 ⟨rfl, R5, T5⟩
  rw [G5.out] at R5
  have z5 := Nat.le_trans z4 T5.size
  have HC := Lib.hid (cancel_ok p p (M4 t) kb 0 (mF4 t) w5 z5 R5)
  have b5 := Lib.hid (b4.out.trans T5.below)
  clear R5 T5 HM
  go_wp2_with fail
  refine HC.out.mono ?_
  rintro e w6 ⟨rfl, R6, T6⟩
  rw [mR4] at R6
  have z6 := Nat.le_trans z5 T6.size
  have HC2 := Lib.hid (cancel_none p p (M5 t) kb (mF5 t) w6 R6)
  have b6 := Lib.hid (b5.out.trans T6.below)
  have HR6 := Lib.hid R6
  clear R6 T6 HC
  go_wp2_with fail
  refine HC2.out.mono ?_
  rintro e w7 ⟨rfl, q7⟩
  have R7 := HR6.out.call q7
  have z7 := Nat.le_trans z6 q7.size
  have HM2 := Lib.hid (move_none p p (M5 t) kb 300 (mF5 t) w7 R7)
  have b7 := Lib.hid (b6.out.trans (q7.mono z6))
  have HR7 := Lib.hid R7
  clear R7 q7 HC2
  go_wp2_with fail
  refine HM2.out.mono ?_
  rintro e w8 ⟨rfl, q8⟩
  have R8 := HR7.out.call q8
  have z8 := Nat.le_trans z7 q8.size
  have HA := Lib.hid (at_some p p (M5 t) ka 1 ⟨ka, t⟩ (mF5a t) rfl w8 R8)
  have b8 := Lib.hid (b7.out.trans (q8.mono z7))
  have HR8 := Lib.hid R8
  clear R8 q8 HM2
  go_wp2_with fail
  refine HA.out.mono ?_
  rintro e w9 ⟨rfl, q9⟩
  have R9 := HR8.out.call q9
  have z9 := Nat.le_trans z8 q9.size
  have HD := Lib.hid (due_any p p (M5 t) 255 (by simp [M5]) w9 z9 R9)
  have b9 := Lib.hid (b8.out.trans (q9.mono z8))
  clear R9 q9 HA
  go_wp2_with fail
  refine HD.out.mono ?_
  rintro e w10 ⟨A6, c6, rfl, W6, R10, T10⟩
  rw [G6.out] at W6 ⊢
  have z10 := Nat.le_trans z9 T10.size
  have b10 := Lib.hid (b9.out.trans T10.below)
  have HW := Lib.hid W6
  clear R10 T10 HD W6
  go_wp2_with fail
  have WA := HW.out.alloc (.cells #[.string kc, .string ka] 9)
  have BA : RD (w10.alloc (.cells #[.string kc, .string ka] 9)) (some ⟨w10.heap.size, 0, none⟩) 2 ([kc, ka].map Value.string) := RD.of_blk (Blk.new w10 9 #[.string kc, .string ka])
  have HQ := same_ok A6 2 c6 [kc, ka] _ 2 2 [kc, ka] (by decide) _ (RD.of_rowL WA) BA
  rw [show decide ([kc, ka] = [kc, ka]) = true from rfl] at HQ
  refine HQ.mono ?_
  rintro e w11 ⟨rfl, q11⟩
  have b11 : Below w10.heap.size w10 w11 := ((Below.refl w10.heap.size w10).alloc (Nat.le_refl _) (.cells #[.string kc, .string ka] 9)).trans (q11.mono (by simp))
  have z11 := Nat.le_trans z10 b11.size
  have HB11 := Lib.hid (b10.out.trans (b11.mono z10))
  clear WA BA HQ q11 b11
  go_wp2_with (go_at_call 9; refine (awake_any _).mono ?_; rintro e w12 ⟨rfl, b12⟩)
  go_ret
  exact ⟨rfl, by rw [HP.out]; exact HB11.out.trans (b12.mono z11)⟩
end Go.Proofs.Ytmkcpgdjbbcigaa
