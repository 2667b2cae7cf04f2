/-
  Timer: walks over name and awake. Condition: the number of the name is below 1000.
-/
import Derived.Test.YtmkcpgdjbbcigaaWk
namespace Go.Proofs.Ytmkcpgdjbbcigaa
open Go.RowKit
set_option linter.unusedVariables false

def dg (n : Nat) : UInt8 := UInt8.ofNat (48 + n)
def nameL (i : Nat) : List UInt8 := [116, dg (i / 100), dg (i / 10 % 10), dg (i % 10)]
def nameB (i : Nat) : ByteArray := ⟨(nameL i).toArray⟩
theorem dg_nat {n : Nat} (h : n < 10) : ((dg n).toNat : Int) = 48 + n := by
  unfold dg
  rw [UInt8.toNat_ofNat']
  omega
theorem dg_inj {a b : Nat} (ha : a < 10) (hb : b < 10) (h : dg a = dg b) : a = b := by
  have h1 := dg_nat ha
  have h2 := dg_nat hb
  rw [h, h2] at h1
  omega
theorem nameL_inj {i j : Nat} (hi : i < 1000) (hj : j < 1000) (h : nameL i = nameL j) : i = j := by
  unfold nameL at h
  simp at h
  obtain ⟨h1, h2, h3⟩ := h
  have := dg_inj (by omega) (by omega) h1
  have := dg_inj (by omega) (by omega) h2
  have := dg_inj (by omega) (by omega) h3
  omega
theorem nameB_data (i : Nat) : (nameB i).data.toList = nameL i := by simp [nameB]
theorem nameB_toList (i : Nat) : (nameB i).toList = nameL i := by rw [ByteArray.toList_eq, nameB_data]
theorem nameB_inj {i j : Nat} (hi : i < 1000) (hj : j < 1000) (h : nameB i = nameB j) : i = j := nameL_inj hi hj (by rw [← nameB_data, ← nameB_data, h])
theorem okc_dg {n : Nat} (h : n < 10) : okc (dg n) = true := by
  have := dg_nat h
  rw [okc_iff]
  omega
theorem identOk_name {i : Nat} (hi : i < 1000) : identOk (nameB i) = true := by
  unfold identOk
  have h : (nameB i).size = 4 := by simp [nameB, nameL, ByteArray.size]
  rw [h, nameB_data]
  unfold nameL
  simp only [List.all_cons, List.all_nil, okc_dg (n := i / 100) (by omega), okc_dg (n := i / 10 % 10) (by omega), okc_dg (n := i % 10) (by omega)]
  decide

theorem name_any (i : Nat) (hi : i < 1000) (w : World) : Calls Try.prog 29 #[.int .i64 i] w fun e w' => e = .returned (.string (nameB i)) ∧ Below w.heap.size w w' := by
  have B0 := Blk.new w 5 #[.int .u8 116, .int .u8 (48 + (i : Int) / 100), .int .u8 (48 + (i : Int) / 10 % 10), .int .u8 (48 + (i : Int) % 10)]
  have hcv : (convert 43 9 (.slice (some ⟨w.heap.size, 0, none⟩) 4 4)).run Try.prog (w.alloc (.cells #[.int .u8 116, .int .u8 (48 + (i : Int) / 100), .int .u8 (48 + (i : Int) / 10 % 10), .int .u8 (48 + (i : Int) % 10)] 5)) = .ok (.string (nameB i)) (w.alloc (.cells #[.int .u8 116, .int .u8 (48 + (i : Int) / 100), .int .u8 (48 + (i : Int) / 10 % 10), .int .u8 (48 + (i : Int) % 10)] 5)) := by
    have h := run_convert_bytes_back (P := Try.prog) (w.alloc (.cells #[.int .u8 116, .int .u8 (48 + (i : Int) / 100), .int .u8 (48 + (i : Int) / 10 % 10), .int .u8 (48 + (i : Int) % 10)] 5)) 43 9 5 ⟨w.heap.size, 0, none⟩ 4 (nameL i) Try.underlying43 Try.underlying5 Try.underlying9 (fun j hj => by
      rw [Addr.add_lit, Nat.zero_add]
      refine B0.c j _ ?_
      have d1 := dg_nat (n := i / 100) (by omega)
      have d2 := dg_nat (n := i / 10 % 10) (by omega)
      have d3 := dg_nat (n := i % 10) (by omega)
      match j, hj with
      | 0, _ => rfl
      | 1, _ => show some _ = some (Value.int .u8 ((dg (i / 100)).toNat : Int)); rw [d1]; rfl
      | 2, _ => show some _ = some (Value.int .u8 ((dg (i / 10 % 10)).toNat : Int)); rw [d2]; rfl
      | 3, _ => show some _ = some (Value.int .u8 ((dg (i % 10)).toNat : Int)); rw [d3]; rfl
      | j + 4, h => simp [nameL] at h; omega)
    exact h
  clear B0
  go_enter Try.func29, Try.ntmps29
  go_wp2
  go_ret
  exact ⟨rfl, (Below.refl _ _).alloc (Nat.le_refl _) _⟩

theorem TS.eq_ {s : TS} {n : Int} {l : List Ti} (h1 : s.now = n) (h2 : s.ts = l) : s = ⟨n, l⟩ := by
  cases s
  simp only at h1 h2
  rw [h1, h2]
abbrev ka : ByteArray := ⟨#[97]⟩
abbrev kb : ByteArray := ⟨#[98]⟩
abbrev kc : ByteArray := ⟨#[99]⟩
abbrev kd : ByteArray := ⟨#[100]⟩
def A1 : TS := ⟨0, [⟨ka, 10⟩]⟩
def A2 : TS := ⟨0, [⟨kb, 5⟩, ⟨ka, 10⟩]⟩
def A3 : TS := ⟨0, [⟨kb, 5⟩, ⟨ka, 10⟩, ⟨kc, 10⟩]⟩
def A4 : TS := ⟨0, [⟨kb, 5⟩, ⟨kc, 10⟩, ⟨ka, 10⟩]⟩
def A5 : TS := ⟨10, []⟩
theorem aS1 : setE ⟨0, []⟩ ka 10 = 0 ∧ setS ⟨0, []⟩ ka 10 = A1 := ⟨by decide +kernel, TS.eq_ (by decide +kernel) (by decide +kernel)⟩
theorem aS2 : setE A1 kb 5 = 0 ∧ setS A1 kb 5 = A2 := ⟨by decide +kernel, TS.eq_ (by decide +kernel) (by decide +kernel)⟩
theorem aS3 : setE A2 kc 10 = 0 ∧ setS A2 kc 10 = A3 := ⟨by decide +kernel, TS.eq_ (by decide +kernel) (by decide +kernel)⟩
theorem aS4 : ({ A3 with ts := insT ⟨ka, 10⟩ (remT 1 1 A3.ts) } : TS) = A4 := TS.eq_ (by decide +kernel) (by decide +kernel)
theorem aS5 : dueS A4 10 = A5 := TS.eq_ (by decide +kernel) (by decide +kernel)
theorem aL5 : dueL A4 10 = [kb, kc, ka] := by decide +kernel
theorem aS6 : setE A5 kd 9 = 14 := by decide +kernel
theorem setS_no {s : TS} {k : ByteArray} {a n : Int} (h : setE s k a = n) (hn : n ≠ 0) : setS s k a = s := by
  unfold setS
  rw [h, if_neg hn]

set_option maxRecDepth 100000 in
set_option maxHeartbeats 1600000 in
theorem awake_any (w : World) : Calls Try.prog 9 #[] w fun e w' => e = .returned (.bool true) ∧ Below w.heap.size w w' := by
  go_enter Try.func9, Try.ntmps9
  go_wp2_with fail
  refine (new_ok w).mono ?_
  rintro e w1 ⟨rfl, R1, b1⟩
  obtain ⟨p, hp⟩ : ∃ p, w.heap.size = p := ⟨_, rfl⟩
  rw [hp] at R1 b1 ⊢
  have z1 : p ≤ w1.heap.size := by have := b1.size; omega
  have HP := Lib.hid hp
  have HS1 := Lib.hid (set_any p p ⟨0, []⟩ ka 10 w1 z1 R1)
  clear hp
  go_wp2_with fail
  refine HS1.out.mono ?_
  rintro e w2 ⟨rfl, R2, T2⟩
  rw [aS1.1]
  rw [aS1.2] at R2
  have z2 := Nat.le_trans z1 T2.size
  have HS2 := Lib.hid (set_any p p A1 kb 5 w2 z2 R2)
  have b2 := Lib.hid (b1.trans T2.below)
  clear R1 R2 T2 b1 HS1
  go_wp2_with fail
  refine HS2.out.mono ?_
  rintro e w3 ⟨rfl, R3, T3⟩
  rw [aS2.1]
  rw [aS2.2] at R3
  have z3 := Nat.le_trans z2 T3.size
  have HS3 := Lib.hid (set_any p p A2 kc 10 w3 z3 R3)
  have b3 := Lib.hid (b2.out.trans T3.below)
  clear R3 T3 HS2
  go_wp2_with fail
  refine HS3.out.mono ?_
  rintro e w4 ⟨rfl, R4, T4⟩
  rw [aS3.1]
  rw [aS3.2] at R4
  have z4 := Nat.le_trans z3 T4.size
  have HM := Lib.hid (move_ok p p A3 ⟨ka, 10⟩ 1 (by decide +kernel) (by decide) (by decide) w4 z4 R4)
  have b4 := Lib.hid (b3.out.trans T4.below)
  clear R4 T4 HS3
  go_wp2_with fail
  refine HM.out.mono ?_
  rintro e w5 ⟨rfl, R5, T5⟩
  rw [aS4] at R5
  have z5 := Nat.le_trans z4 T5.size
  have HD := Lib.hid (due_any p p A4 10 (by decide) w5 z5 R5)
  have b5 := Lib.hid (b4.out.trans T5.below)
  clear R5 T5 HM
  go_wp2_with fail
  refine HD.out.mono ?_
  rintro e w6 ⟨A6, c6, rfl, W6, R6, T6⟩
  rw [aS5] at R6
  rw [aL5] at W6 ⊢
  have z6 := Nat.le_trans z5 T6.size
  have b6 := Lib.hid (b5.out.trans T6.below)
  have HW := Lib.hid W6
  have HR := Lib.hid R6
  clear R6 T6 HD W6
  go_wp2_with fail
  have WA := HW.out.alloc (.cells #[.string kb, .string kc, .string ka] 9)
  have BA : RD (w6.alloc (.cells #[.string kb, .string kc, .string ka] 9)) (some ⟨w6.heap.size, 0, none⟩) 3 ([kb, kc, ka].map Value.string) := RD.of_blk (Blk.new w6 9 #[.string kb, .string kc, .string ka])
  have HQ := same_ok A6 3 c6 [kb, kc, ka] _ 3 3 [kb, kc, ka] (by decide) _ (RD.of_rowL WA) BA
  rw [show decide ([kb, kc, ka] = [kb, kc, ka]) = true from rfl] at HQ
  refine HQ.mono ?_
  rintro e w7 ⟨rfl, q7⟩
  have b7 : Below w6.heap.size w6 w7 := ((Below.refl w6.heap.size w6).alloc (Nat.le_refl _) (.cells #[.string kb, .string kc, .string ka] 9)).trans (q7.mono (by simp))
  have R7 := HR.out.call b7
  have z7 := Nat.le_trans z6 b7.size
  have HB7 := Lib.hid (b6.out.trans (b7.mono z6))
  have HR7 := Lib.hid R7
  have HS8 := Lib.hid (set_any p p A5 kd 9 w7 z7 R7)
  clear WA BA HQ q7 b7 R7
  go_wp2_with (first
    | (go_at_call 25; refine (now_any p p A5 w7 HR7.out).mono ?_; rintro e w' ⟨rfl, rfl⟩; rw [show A5.now = 10 from rfl])
    | (go_at_call 12; refine HS8.out.mono ?_; rintro e w8 ⟨rfl, R8, T8⟩; rw [aS6]; have b8 := Lib.hid (HB7.out.trans T8.below)))
  go_ret
  exact ⟨rfl, by rw [HP.out]; exact b8.out⟩
end Go.Proofs.Ytmkcpgdjbbcigaa
