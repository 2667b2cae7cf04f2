/-
  Velocity: walk over the chapter's Remove. Condition: the state is one that the calls make.
-/
import Derived.Test.YtieimeahppmefaaWm
import Derived.Test.YtieimeahppmefaaPlanE
import Derived.Test.YtieimeahppmefaaCat
namespace Go.Proofs.Ytieimeahppmefaa
open Go.RowKit
set_option linter.unusedVariables false

theorem eq64 (k1 k2 : ByteArray) (a1 a2 m1 m2 : Int) (w : World) : (Op.equalIn 10000 64 (.agg #[.string k1, .int .i64 a1, .int .i64 m1]) (.agg #[.string k2, .int .i64 a2, .int .i64 m2])).run Try.prog w = .ok (decide ((⟨k1, a1, m1⟩ : Us) = ⟨k2, a2, m2⟩)) w := by
  unfold Op.equalIn
  simp [run_underlying Try.underlying64, go_sem]
  by_cases h1 : k1 = k2
  · subst h1
    by_cases h2 : a1 = a2 <;> by_cases h3 : m1 = m2 <;> simp [h2, h3]
  · have h4 : ¬ k1.toList = k2.toList := fun h => h1 (bytes_inj h)
    simp [h1, h4]
/-- What a call of the chapter's Remove leaves. -/
def RRemRet (B p : Nat) (s : VS) (u : Us) (w : World) (e : Ending) (w' : World) : Prop :=
  e = .returned (.int .i64 (remE s u)) ∧ RRep w' B p (remS s u) ∧ Turn B [61, 64] false w w'

set_option maxRecDepth 100000 in
set_option maxHeartbeats 1600000 in
theorem rrem_any (B p : Nat) (s : VS) (o : s.Ok) (key : ByteArray) (a am : Int) (w : World) (hBw : B ≤ w.heap.size) (r : RRep w B p s) :
    Calls Try.prog 18 #[.pointer (some ⟨p, 0, none⟩), .string key, .int .i64 a, .int .i64 am] w (RRemRet B p s ⟨key, a, am⟩ w) := by
  have r' := r
  obtain ⟨hBp, A, c, B0, hown⟩ := r'
  obtain ⟨hnc, hcm⟩ := own_len hown
  replace hcm : c ≤ 9223372036854775807 := by unfold maxLen at hcm; omega
  have HO := Lib.hid hown
  have c1 := blk3_c1 B0
  have o3 := o.len
  have heq := eq64
  clear hown
  go_enter Try.func18, Try.ntmps18
  go_wp2_with fail
  go_loopw [9] (fun i wr => ∃ k : Nat, k ≤ s.us.length ∧ i = .int .i64 ((k : Int) - 1) ∧ lastIx ⟨key, a, am⟩ s.us s.us.length = lastIx ⟨key, a, am⟩ s.us k ∧ wr = w) (fun i _ => (intOf i + 1).toNat)
  case atStart => exact ⟨s.us.length, Nat.le_refl _, rfl, rfl, rfl⟩
  case round =>
    obtain ⟨k, hk, rfl, hL, rfl⟩ := hrel
    have HL := Lib.hid hL
    clear hL
    cases k with
    | zero =>
      rw [show (((0 : Nat) : Int) - 1) = -1 from rfl]
      go_wp2_with fail
      go_ret
      refine ⟨by unfold remE; rw [HL.out]; rfl, ?_, Turn.refl _ _ _ _⟩
      unfold remS
      rw [HL.out]
      exact r
    | succ j =>
      rw [show (((j + 1 : Nat) : Int) - 1) = (j : Int) by omega]
      have hlt : j < s.us.length := by omega
      obtain ⟨g, rfl, hBg, hg, _, hcell, _⟩ := own_cells HO.out (by omega)
      have hu : s.us[j]? = some s.us[j] := List.getElem?_eq_getElem hlt
      have g0 := hcell (j * 3) (.string s.us[j].key) (by have := at3 usC usC3 s.us j _ 0 hu (by decide); simpa [usC] using this)
      have g1 := hcell (j * 3 + 1) (.int .i64 s.us[j].at_) (by rw [at3 usC usC3 s.us j _ 1 hu (by decide)]; rfl)
      have g2 := hcell (j * 3 + 2) (.int .i64 s.us[j].am) (by rw [at3 usC usC3 s.us j _ 2 hu (by decide)]; rfl)
      have HE := Lib.hid (ix_eq (u := ⟨key, a, am⟩) hlt)
      clear hcell hu
      generalize s.us[j] = u at g0 g1 g2 HE
      obtain ⟨uk, ua, um⟩ := u
      simp only at g0 g1 g2
      by_cases hke : (⟨uk, ua, um⟩ : Us) = ⟨key, a, am⟩
      · have HF : Hid (lastIx ⟨key, a, am⟩ s.us s.us.length = some j) := Lib.hid (by rw [HL.out, HE.out, if_pos hke])
        injection hke with q1 q2 q3
        subst q1 q2 q3
        have i1 : IntKind.i64.wrap ((j : Int) + 1) = j + 1 := IntWalk.i64_in _ (by omega)
        have i2 : (0 : Int) ≤ (j : Int) + 1 := by omega
        have i3 : ((j : Int) + 1).toNat = j + 1 := by omega
        have i4 : (j : Int) ≤ c := by omega
        have i5 : (j : Int) + 1 ≤ s.us.length := by omega
        have L1 := fun n : Cls (UpC wr) => blk3_c1 (B0.call n.2)
        go_wp2_with fail
        refine wp_region_regE (UpC wr) 20 19 rfl (by kernel_rfl) ?_
        have T : UpC wr wr.drew := (Below.refl _ _).drew
        haveI : Nonempty (Cls (UpC wr)) := ⟨⟨_, T⟩⟩
        refine regE_seg (f := 6) (by kernel_rfl) [0, 2, 3, 4, 5, 6, 7, 9, 10, 11, 12, 13, 14, 15] _ _ _ T (by kernel_rfl) ?_
        simp only [pickL, List.filterMap_cons, List.filterMap_nil, List.getElem?_toArray, List.getElem?_cons_zero, List.getElem?_cons_succ]
        show wpQuiet _ _ _ _ [_, _, _, _, _, _, _, _, _, _, _, _, _, _] _
        repeat (go_big_quiet_step (fail))
        refine wpQuiet_nil ?_
        generalize hA2 : (if c = j + 1 then some (⟨g, 0, none⟩ : Addr) else some ⟨g, (j + 1) * 3, none⟩) = A2
        have A21 : Hid (j + 1 < s.us.length → A2 = some ⟨g, (j + 1) * 3, none⟩) := Lib.hid (by intro h; rw [← hA2, if_neg (by omega)])
        have A22 : Hid (A2 = none → s.us.length ≤ j + 1) := Lib.hid (by intro h; rw [← hA2] at h; split at h <;> cases h)
        clear hA2 L1
        rename_i K0 hKK
        refine regE_call 1 _ (by kernel_rfl) rfl rfl ?_
        go_simp
        have T : UpC wr (wr.alloc (.cells #[] 64)).drew := ((Below.refl _ _).alloc (Nat.le_refl _) _).drew
        have z1 := T.size
        have O1 := Lib.hid (show ((wr.alloc (.cells #[] 64)).drew).ownsRow wr.heap.size 64 3 _ 0 [] from own_empty wr wr.heap.size 64 3 (Nat.le_refl _))
        refine ⟨T, ?_⟩
        generalize (wr.alloc (.cells #[] 64)).drew = x1 at T O1 z1 ⊢
        refine regE_call 8 _ (by kernel_rfl) rfl rfl ?_
        refine wp_concatR rUseE (.tmp 35) (.tmp 41) rfl rfl rfl O1.out (RDn.of_take (own_call HO.out T) (k := j) (by omega)) (fun u hu => us_one u (List.mem_of_mem_take hu)) (by unfold maxLen; omega) (by omega) z1 ?_
        intro v2 x2 o2 hg2 _
        have T2 : UpC wr x2 := Below.grown T hg2 z1 (fun q hq => (O1.out.lt q hq).1)
        have z2 := T2.size
        have O2 := Lib.hid o2
        clear T O1 hg2 o2 z1
        refine ⟨T2, ?_⟩
        refine regE_call 16 _ (by kernel_rfl) rfl rfl ?_
        refine wp_concatR rUseE (.tmp 42) (.tmp 49) rfl rfl rfl O2.out (RDn.of_drop (own_call HO.out T2) A21.out A22.out) (fun u hu => us_one u (List.mem_of_mem_drop hu)) (by unfold maxLen; omega) (by omega) z2 ?_
        intro v3 x3 o3 hg3 _
        have T3 : UpC wr x3 := Below.grown T2 hg3 z2 (fun q hq => (O2.out.lt q hq).1)
        have O3 := Lib.hid o3
        clear T2 O2 hg3 o3 z2
        obtain ⟨A3, c3, rfl⟩ := own_slice O3.out
        have B3 := B0.call T3
        have e1 := blk3_c1 B3
        have f3 := B3.frozen
        have l3 := B3.lt
        have T := T3
        refine ⟨T3, ?_⟩
        go_simp
        refine regE_call 17 _ (by kernel_rfl) rfl rfl ?_
        go_simp
        refine regE_call 18 _ (by kernel_rfl) rfl rfl ?_
        go_simp
        refine regE_last _ (by kernel_rfl) rfl rfl ?_
        go_simp
        refine regE_end (by kernel_rfl) ?_
        refine hKK _ _ ?_
        have hS := remS_cut HF.out
        have hcl := Cut_len (s := s) (i := j) (k := 1) (by omega)
        have hcc := Cut_cells s j 1
        have hEE : remE s ⟨uk, ua, um⟩ = 0 := by unfold remE; rw [HF.out]
        have HS := Lib.hid hS; have HCL := Lib.hid hcl; have HCC := Lib.hid hcc; have HEE := Lib.hid hEE
        clear hS hcl hcc hEE
        go_wp2_with fail
        go_ret
        refine ⟨by rw [HEE.out]; rfl, ?_, (Turn.of_below T3 hBw).setB B3 rfl hBp 1 _⟩
        rw [HS.out]
        have e : (Cut s j 1).us.length = j + (s.us.length - (j + 1)) := by rw [HCL.out]; omega
        refine ⟨hBp, A3, c3, ?_, ?_⟩
        · rw [e]
          exact blk3_set1 B3 _
        · rw [e, HCC.out]
          have o4 := own_far (p := ⟨p, 1, none⟩) (own_mono O3.out hBw) (own_blk_ne O3.out B3 (by decide)) (.slice A3 (j + (s.us.length - (j + 1))) c3)
          simpa using o4
      · have hkb : decide ((⟨uk, ua, um⟩ : Us) = ⟨key, a, am⟩) = false := by simpa using hke
        have HF : Hid (lastIx ⟨key, a, am⟩ s.us (j + 1) = lastIx ⟨key, a, am⟩ s.us j) := Lib.hid (by rw [HE.out, if_neg hke])
        go_wp2_with fail
        go_roundw
        case rel => exact ⟨j, by omega, rfl, by rw [HL.out, HF.out], trivial⟩
        case measure => simp [intOf]
end Go.Proofs.Ytieimeahppmefaa
