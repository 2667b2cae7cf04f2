/-
  Velocity: walks over the chapter's in, Count, Sum, Len and New. Condition: the state is one that the calls make.
-/
import Derived.Test.YtieimeahppmefaaWj
namespace Go.Proofs.Ytieimeahppmefaa
open Go.RowKit
set_option linter.unusedVariables false

theorem rnew_no (h : Int) (w : World) (hh : h < 1 ∨ 10000000 < h) : Calls Try.prog 16 #[.int .i64 h] w fun e w' => e = .returned (.tuple #[.pointer none, .int .i64 4]) ∧ w = w' := by
  rcases hh with hh | hh
  · go_enter Try.func16, Try.ntmps16
    go_wp2
    go_ret2
    exact ⟨rfl, rfl⟩
  · have h2 : ¬ h < 1 := by omega
    go_enter Try.func16, Try.ntmps16
    go_wp2
    go_ret2
    exact ⟨rfl, rfl⟩
theorem rnew_yes (h : Int) (w : World) (h1 : 1 ≤ h) (h2 : h ≤ 10000000) : Calls Try.prog 16 #[.int .i64 h] w fun e w' => e = .returned (.tuple #[.pointer (some ⟨w.heap.size, 0, none⟩), .int .i64 0]) ∧ RRep w' w.heap.size w.heap.size ⟨h, 0, []⟩ ∧ Below w.heap.size w w' := by
  go_enter Try.func16, Try.ntmps16
  go_wp2
  go_ret2
  refine ⟨rfl, ⟨Nat.le_refl _, none, 0, Blk.new _ _ _, World.ownsRow_nil _ _ _ _⟩, (Below.refl _ _).alloc (Nat.le_refl _) _⟩
theorem rlen_any (B p : Nat) (s : VS) (w : World) (r : RRep w B p s) :
    Calls Try.prog 24 #[.pointer (some ⟨p, 0, none⟩)] w fun e w' => e = .returned (.int .i64 (s.us.length : Nat)) ∧ w = w' := by
  obtain ⟨hBp, A, c, B0, hown⟩ := r
  have c1 := blk3_c1 B0
  go_enter Try.func24, Try.ntmps24
  go_wp2
  go_ret
  exact ⟨rfl, rfl⟩

theorem new1 (w : World) (o : Obj) (t : TypeId) (cs : Array Value) : Blk ((w.alloc o).alloc (.cells cs t)) (w.heap.size + 1) t cs := by
  have := Blk.new (w.alloc o) t cs
  rwa [World.size_alloc] at this
/-- The uses that 'in' returns. -/
def inL (s : VS) (key : ByteArray) (a win : Int) : List Us := if winOk s a win then winL key a win s.us else []
set_option maxHeartbeats 800000 in
theorem in_yes (B p : Nat) (s : VS) (o : s.Ok) (key : ByteArray) (a win : Int) (w : World) (r : RRep w B p s) (h : winOk s a win) :
    Calls Try.prog 31 #[.pointer (some ⟨p, 0, none⟩), .string key, .int .i64 a, .int .i64 win] w (RetU (winL key a win s.us) w) := by
  obtain ⟨hBp, A, c, B0, hown⟩ := r
  have HO := Lib.hid hown
  have hpl := B0.lt
  have c0 := blk3_c0 B0
  have c1 := blk3_c1 B0
  obtain ⟨h1, h2, h3⟩ := h
  have o1 := o.h1; have o2 := o.h2; have o3 := o.len
  have h3' := h3
  obtain ⟨h4, h5⟩ := h3'
  unfold maxTime at h5
  have d1 : decide (win < 1) = false := by simp; omega
  have d2 : decide (s.h < win) = false := by simp; omega
  have ht : decide (isT a) = true := decide_eq_true h3
  clear hown
  go_enter Try.func31, Try.ntmps31
  go_wp2_with (first | (go_at_call 29; refine (time_any a _).mono ?_; rintro e w' ⟨rfl, rfl⟩; rw [ht]))
  go_loopw [9, 10] (fun v i wr => ∃ k : Nat, k ≤ s.us.length ∧ i = .int .i64 k ∧ wr.ownsRow w.heap.size 64 3 v (winL key a win (s.us.take k)).length ((winL key a win (s.us.take k)).flatMap usC) ∧ Below w.heap.size w wr) (fun _ i _ => s.us.length - (intOf i).toNat)
  case atStart => exact ⟨0, by omega, rfl, World.ownsRow_nil _ _ _ _, Below.refl _ _⟩
  case round =>
    obtain ⟨k, hk, rfl, own, hb⟩ := hrel
    have d1 := (hb.cell (p := ⟨p, 1, none⟩) hpl).trans c1
    have hlen : (winL key a win (s.us.take k)).length ≤ 1000 := Nat.le_trans (win_len _ _ _ _) (by rw [List.length_take]; omega)
    have hz := hb.size
    by_cases hlt : k < s.us.length
    · obtain ⟨g, rfl, hBg, hg, _, hcell, _⟩ := own_cells HO.out (by omega)
      have hu : s.us[k]? = some s.us[k] := List.getElem?_eq_getElem hlt
      have g0 := (hb.cell (p := ⟨g, k * 3, none⟩) hg).trans (hcell (k * 3) (.string s.us[k].key) (by have := at3 usC usC3 s.us k _ 0 hu (by decide); simpa [usC] using this))
      have g1 := (hb.cell (p := ⟨g, k * 3 + 1, none⟩) hg).trans (hcell (k * 3 + 1) (.int .i64 s.us[k].at_) (by rw [at3 usC usC3 s.us k _ 1 hu (by decide)]; rfl))
      have g2 := (hb.cell (p := ⟨g, k * 3 + 2, none⟩) hg).trans (hcell (k * 3 + 2) (.int .i64 s.us[k].am) (by rw [at3 usC usC3 s.us k _ 2 hu (by decide)]; rfl))
      have hy := win_yes (key := key) (a := a) (win := win) hlt
      have hn := win_no (key := key) (a := a) (win := win) hlt
      generalize s.us[k] = u at g0 g1 g2 hy hn
      obtain ⟨uk, ua, um⟩ := u
      simp only at g0 g1 g2
      have HY := Lib.hid hy
      have HN := Lib.hid hn
      clear hcell hu c0 c1 B0 hy hn
      by_cases hke : uk = key
      · subst hke
        by_cases hw1 : a - win < ua
        · by_cases hw2 : ua ≤ a
          · have HW := Lib.hid (HY.out (by unfold inWin; simp [hw1, hw2]))
            clear HY HN
            go_wp2_with (
              at_builtin
              go_must (refine wpList_push rUseE _ _ rfl rfl w.heap.size _ _ _ rfl ((own.alloc _).alloc _) _ #[.string uk, .int .i64 ua, .int .i64 um] (new1 _ _ 64 _) rfl rfl (fun u hu => by simp at hu; rcases hu with rfl | rfl | rfl <;> rfl) (by unfold maxLen; omega) (by omega) (by simp; omega) ?_)
              intro g2 cap w2 own2 hg2 hor)
            go_roundw
            case rel =>
              refine ⟨k + 1, by omega, by go_num, ?_, ((hb.alloc hz _).alloc (by simp; omega) _).grown hg2 (by simp; omega) (fun q hq => (own.lt q hq).1)⟩
              rw [HW.out, flat_snoc, List.length_append]
              exact own2
            case measure => simp [intOf]; omega
          · have HW := Lib.hid (HN.out (by unfold inWin; simp [hw1, hw2]))
            clear HY HN
            go_wp2_with fail
            go_roundw
            case rel => exact ⟨k + 1, by omega, by go_num, by rw [HW.out]; exact own.alloc _, hb.alloc hz _⟩
            case measure => simp [intOf]; omega
        · have HW := Lib.hid (HN.out (by unfold inWin; simp [hw1]))
          clear HY HN
          go_wp2_with fail
          go_roundw
          case rel => exact ⟨k + 1, by omega, by go_num, by rw [HW.out]; exact own.alloc _, hb.alloc hz _⟩
          case measure => simp [intOf]; omega
      · have hkl : ¬ uk.toList = key.toList := fun h => hke (bytes_inj h)
        have HW := Lib.hid (HN.out (by unfold inWin; simp [hke]))
        clear HY HN
        go_wp2_with fail
        go_roundw
        case rel => exact ⟨k + 1, by omega, by go_num, by rw [HW.out]; exact own.alloc _, hb.alloc hz _⟩
        case measure => simp [intOf]; omega
    · have hkn : k = s.us.length := by omega
      have HT : Hid (s.us.take k = s.us) := Lib.hid (by rw [hkn, List.take_length])
      clear hkn
      go_wp2_with fail
      go_ret
      exact ⟨_, rfl, by rw [← HT.out]; exact own, hb⟩
theorem in_no (B p : Nat) (s : VS) (key : ByteArray) (a win : Int) (w : World) (r : RRep w B p s) (h : ¬ winOk s a win) :
    Calls Try.prog 31 #[.pointer (some ⟨p, 0, none⟩), .string key, .int .i64 a, .int .i64 win] w (RetU [] w) := by
  obtain ⟨hBp, A, c, B0, hown⟩ := r
  have c0 := blk3_c0 B0
  unfold winOk at h
  by_cases h3 : isT a
  · have ht : decide (isT a) = true := decide_eq_true h3
    by_cases h1 : 1 ≤ win
    · have d1 : decide (win < 1) = false := by simp; omega
      have h2 : ¬ win ≤ s.h := fun g => h ⟨h1, g, h3⟩
      have d2 : decide (s.h < win) = true := by simp; omega
      go_enter Try.func31, Try.ntmps31
      go_wp2_with (first | (go_at_call 29; refine (time_any a _).mono ?_; rintro e w' ⟨rfl, rfl⟩; rw [ht]))
      go_ret
      exact ⟨_, rfl, World.ownsRow_nil _ _ _ _, Below.refl _ _⟩
    · have d1 : decide (win < 1) = true := by simp; omega
      clear h
      go_enter Try.func31, Try.ntmps31
      go_wp2_with (first | (go_at_call 29; refine (time_any a _).mono ?_; rintro e w' ⟨rfl, rfl⟩; rw [ht]))
      go_ret
      exact ⟨_, rfl, World.ownsRow_nil _ _ _ _, Below.refl _ _⟩
  · have ht : decide (isT a) = false := decide_eq_false h3
    clear h
    go_enter Try.func31, Try.ntmps31
    go_wp2_with (first | (go_at_call 29; refine (time_any a _).mono ?_; rintro e w' ⟨rfl, rfl⟩; rw [ht]))
    go_ret
    exact ⟨_, rfl, World.ownsRow_nil _ _ _ _, Below.refl _ _⟩
theorem in_any (B p : Nat) (s : VS) (o : s.Ok) (key : ByteArray) (a win : Int) (w : World) (r : RRep w B p s) :
    Calls Try.prog 31 #[.pointer (some ⟨p, 0, none⟩), .string key, .int .i64 a, .int .i64 win] w (RetU (inL s key a win) w) := by
  unfold inL
  by_cases h : winOk s a win
  · rw [if_pos h]; exact in_yes B p s o key a win w r h
  · rw [if_neg h]; exact in_no B p s key a win w r h
theorem in_len (s : VS) (key : ByteArray) (a win : Int) : ((inL s key a win).length : Int) = cntN s key a win := by
  unfold inL cntN
  split <;> rfl
theorem in_sum (s : VS) (key : ByteArray) (a win : Int) : sumL (inL s key a win) = sumN s key a win := by
  unfold inL sumN
  split <;> rfl
theorem rcount_any (B p : Nat) (s : VS) (o : s.Ok) (key : ByteArray) (a win : Int) (w : World) (r : RRep w B p s) :
    Calls Try.prog 19 #[.pointer (some ⟨p, 0, none⟩), .string key, .int .i64 a, .int .i64 win] w fun e w' => e = .returned (.int .i64 (cntN s key a win)) ∧ Below w.heap.size w w' := by
  rw [← in_len]
  have hi := in_any B p s o key a win w r
  generalize inL s key a win = L at hi ⊢
  have HI := Lib.hid hi
  clear hi
  go_enter Try.func19, Try.ntmps19
  go_wp2_with (go_at_call 31; refine HI.out.mono ?_; rintro e w' ⟨v, rfl, own, hb⟩; obtain ⟨A, c, rfl⟩ := own_slice own)
  go_ret
  exact ⟨rfl, hb⟩
end Go.Proofs.Ytieimeahppmefaa
