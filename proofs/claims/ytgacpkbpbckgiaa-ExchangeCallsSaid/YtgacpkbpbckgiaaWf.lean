/-
  Exchange: walk over slices.DeleteFunc. Condition: the row holds pointers to requests.
-/
import Derived.Test.YtgacpkbpbckgiaaWe
namespace Go.Proofs.Ytgacpkbpbckgiaa
open Go.RowKit
set_option linter.unusedVariables false

/-- The requests behind a row of pointers, as blocks. -/
def KZ (w : World) (L : List (Nat × Im)) : Prop := ∀ z ∈ L, ∃ cs : Array Value, Blk w z.1 76 cs ∧ cs[0]? = some (.string z.2.key)
theorem KZ.turn {w w' : World} {L : List (Nat × Im)} {B : Nat} {T : List TypeId} {m : Bool} (h : KZ w L) (k : Turn B T m w w') (ht : T.contains 76 = false) : KZ w' L := fun z hz => by
  obtain ⟨cs, h1, h2⟩ := h z hz
  exact ⟨cs, h1.turn k ht, h2⟩
theorem KZ.keys {w : World} {L : List (Nat × Im)} (h : KZ w L) : KeysAt w L := fun z hz => by
  obtain ⟨cs, h1, h2⟩ := h z hz
  exact h1.c 0 _ h2
theorem filt_yes {key : ByteArray} {L : List (Nat × Im)} {j : Nat} {z : Nat × Im} (h : L[j]? = some z) (hk : keepB key z = true) : (L.take (j + 1)).filter (keepB key) = (L.take j).filter (keepB key) ++ [z] := by
  rw [List.take_add_one, h]
  simp [List.filter_append, hk]
theorem filt_no {key : ByteArray} {L : List (Nat × Im)} {j : Nat} {z : Nat × Im} (h : L[j]? = some z) (hk : keepB key z = false) : (L.take (j + 1)).filter (keepB key) = (L.take j).filter (keepB key) := by
  rw [List.take_add_one, h]
  simp [List.filter_append, hk]

def DFRet (B : Nat) (A : Option Addr) (c : Nat) (L : List (Nat × Im)) (key : ByteArray) (w : World) (e : Ending) (w' : World) : Prop :=
  e = .returned (.slice A (L.filter (keepB key)).length c) ∧ rowL w' B 69 1 A (L.filter (keepB key)).length c ((L.filter (keepB key)).map ptrZ) ∧ Turn B [69] false w w'
set_option maxRecDepth 100000 in
set_option maxHeartbeats 3200000 in
theorem deleteFunc_any (B : Nat) (A : Option Addr) (c : Nat) (L : List (Nat × Im)) (key : ByteArray) (bx : Nat) (w : World) (hBw : B ≤ w.heap.size) (hr : rowL w B 69 1 A L.length c (L.map ptrZ)) (hz : KZ w L) (hg : Blk w bx 9 #[.string key]) :
    Calls Try.prog 34 #[.slice A L.length c, .func (.func 35) #[] #[.pointer (some ⟨bx, 0, none⟩)]] w (DFRet B A c L key w) := by
  obtain ⟨hnc, hcm⟩ := hr.len
  have HI := Lib.hid (indexFunc_any B A c L key bx w hr hz.keys (hg.c 0 _ rfl))
  have HR := Lib.hid hr
  have HZ := Lib.hid hz
  have HG := Lib.hid hg
  clear hr hz hg
  cases hix : ixD key L with
  | none =>
    have hall : L.filter (keepB key) = L := by
      rw [List.filter_eq_self]
      intro z hz
      cases hk : keepB key z with
      | true => rfl
      | false =>
        obtain ⟨i, hi, hiz⟩ := List.mem_iff_getElem.1 hz
        exfalso
        have : ∀ (l : List (Nat × Im)), ixD key l = none → ∀ y ∈ l, keepB key y = true := by
          intro l
          induction l with
          | nil => intro _ y hy; cases hy
          | cons y l ih =>
            intro h x hx
            unfold ixD at h
            split at h
            · rename_i hy
              rcases List.mem_cons.1 hx with rfl | hx
              · exact hy
              · refine ih ?_ x hx
                cases hh : ixD key l with
                | none => rfl
                | some k => rw [hh] at h; cases h
            · cases h
        rw [this L hix z hz] at hk
        cases hk
    have HA := Lib.hid hall
    rw [hix] at HI
    clear hall hix
    go_enter Try.func34, Try.ntmps34
    go_wp2_with (go_at_call 36; refine HI.out.mono ?_; rintro e w1 ⟨rfl, b1⟩; rw [show idxI none = -1 from rfl])
    go_ret
    unfold DFRet
    rw [HA.out]
    exact ⟨rfl, HR.out.call b1, Turn.of_below b1 hBw⟩
  | some i =>
    obtain ⟨z0, hz0, hk0, hall0⟩ := ixD_spec hix
    have hi : i < L.length := (List.getElem?_eq_some_iff.1 hz0).1
    have hf0 : (L.take i).filter (keepB key) = L.take i := List.filter_eq_self.2 hall0
    have HS : Hid ((L.take (i + 1)).filter (keepB key) = L.take i) := Lib.hid (by rw [filt_no hz0 hk0, hf0])
    rw [hix] at HI
    clear hz0 hk0 hall0 hf0 hix
    have hne : ((i : Int) == -1) = false := by rw [beq_eq_false_iff_ne]; omega
    obtain ⟨g, rfl, _, _, _, _⟩ := HR.out.cells (by omega)
    go_enter Try.func34, Try.ntmps34
    go_wp2_with (go_at_call 36
                 refine HI.out.mono ?_
                 rintro e w1 ⟨rfl, b1⟩
                 rw [show idxI (some i) = (i : Int) from rfl]
                 have HR1 := Lib.hid (HR.out.call b1)
                 have HT1 := Lib.hid (Turn.of_below (T := [69]) (m := false) b1 hBw)
                 clear b1)
    go_loopw [5, 6] (fun a b wr => ∃ (j m : Nat) (X : List Value), i + 1 ≤ j ∧ j ≤ L.length ∧ a = .int .i64 m ∧ b = .int .i64 j ∧ m < j ∧ ((L.take j).filter (keepB key)).length = m ∧ rowL wr B 69 1 (some ⟨g, 0, none⟩) L.length c X ∧ X.take m = ((L.take j).filter (keepB key)).map ptrZ ∧ X.drop j = (L.drop j).map ptrZ ∧ Turn B [69] false w wr) (fun _ b _ => L.length - (intOf b).toNat)
    case atStart =>
      refine ⟨i + 1, i, L.map ptrZ, by omega, by omega, rfl, by go_num, by omega, ?_, HR1.out, ?_, by rw [List.map_drop], HT1.out⟩
      · rw [HS.out, List.length_take]; omega
      · rw [HS.out, List.map_take]
    case round =>
      obtain ⟨j, m, X, hij, hj, rfl, rfl, hmj, hm, hrow, hX1, hX2, hT⟩ := hrel
      have HX := Lib.hid hrow
      have HX1 := Lib.hid hX1
      have HX2 := Lib.hid hX2
      have HM := Lib.hid hm
      have HT := Lib.hid hT
      have zr := Nat.le_trans hBw hT.size
      clear hrow hX1 hX2 hT hm
      by_cases hlt : j < L.length
      · have hu : L[j]? = some L[j] := List.getElem?_eq_getElem hlt
        obtain ⟨g', e', _, hgl, hcell, hfr⟩ := HX.out.cells (by omega)
        injection e' with e'
        injection e' with e'
        subst e'
        have g0 : wr.cell? ⟨g, j, none⟩ = some (ptrZ L[j]) := hcell j _ (by
          have h := congrArg (fun l => l[0]?) HX2.out
          simp only [List.getElem?_drop, List.getElem?_map, Nat.add_zero, hu] at h
          exact h)
        have gm := fun u (h : X[m]? = some u) => hcell m u h
        have hXl : X.length = L.length := by have := HX.out.1; omega
        have gm2 : wr.cell? ⟨g, m, none⟩ = some (X[m]'(by omega)) := hcell m _ (List.getElem?_eq_getElem (by omega))
        have fm := hfr m
        have HC := del_any L[j].1 bx L[j].2.key key wr ((HZ.out.turn HT.out rfl).keys _ (List.getElem_mem hlt)) ((HG.out.turn HT.out rfl).c 0 _ rfl)
        have HU := Lib.hid hu
        clear hcell hu gm hfr
        generalize L[j] = z at g0 HU HC
        unfold ptrZ at g0
        cases hq : keepB key z with
        | false =>
          have hbq : (z.2.key.toList == key.toList) = true := by unfold keepB at hq; simpa using hq
          rw [hbq] at HC
          replace HC := Lib.hid HC
          have HE := Lib.hid (filt_no HU.out hq)
          clear hbq hq gm2 fm
          go_wp2_with (go_at_call 35; refine HC.out.mono ?_; rintro e w2 ⟨rfl, hb2⟩; have HR2 := Lib.hid (HX.out.call hb2); have HT2 := Lib.hid (HT.out.call hb2 hBw); clear hb2)
          go_roundw
          case rel =>
            refine ⟨j + 1, m, X, by omega, by omega, rfl, by go_num, by omega, by rw [HE.out]; exact HM.out, HR2.out, by rw [HE.out]; exact HX1.out, ?_, HT2.out⟩
            have h := congrArg (fun l => l.drop 1) HX2.out
            simpa [List.drop_drop] using h
          case measure => simp [intOf]; omega
        | true =>
          have hbq : (z.2.key.toList == key.toList) = false := by unfold keepB at hq; simpa using hq
          rw [hbq] at HC
          replace HC := Lib.hid HC
          have HE := Lib.hid (filt_yes HU.out hq)
          clear hbq hq
          have HG2 := Lib.hid gm2
          clear gm2 fm
          go_wp2_with (go_at_call 35
                       refine HC.out.mono ?_
                       rintro e w2 ⟨rfl, hb2⟩
                       have R2 := HX.out.call hb2
                       obtain ⟨g2, e2, _, l2, hc2, f2⟩ := R2.cells (by omega)
                       injection e2 with e2
                       injection e2 with e2
                       subst e2
                       have gm2 := hc2 m _ (List.getElem?_eq_getElem (show m < X.length by omega))
                       have fm := f2 m
                       have HR2 := Lib.hid R2
                       have HT2 := Lib.hid (HT.out.call hb2 hBw)
                       clear hb2 R2 hc2 f2)
          go_roundw
          case rel =>
            refine ⟨j + 1, m + 1, X.set m (ptrZ z), by omega, by omega, by go_num, by go_num, by omega, by rw [HE.out, List.length_append, HM.out]; rfl, HR2.out.set_ m _, ?_, ?_, HT2.out.setL HR2.out rfl m _⟩
            · rw [HE.out, List.map_append, ← HX1.out, List.take_add_one, List.take_set_of_le (Nat.le_refl _), List.getElem?_set_self (by omega)]
              rfl
            · have h := congrArg (fun l => l.drop 1) HX2.out
              simp only [List.drop_drop, ← List.map_drop] at h
              rw [List.drop_set_of_lt (by omega)]
              exact h
          case measure => simp [intOf]; omega
      · have hjn : j = L.length := by omega
        have hm2 : m < L.length := by omega
        have hXl : X.length = L.length := by have := HX.out.1; omega
        have RT := HX.out.to (k := m) (by omega)
        rw [Nat.mul_one, HX1.out, hjn, List.take_length] at RT
        have HE : Hid ((L.filter (keepB key)).length = m) := Lib.hid (by rw [← HM.out, hjn, List.take_length])
        obtain ⟨w3, hcl, hr3, hg3⟩ := run_clearL (c' := c - m) ptrE 0 zero69 (by intro u hu; simp [Value.cells] at hu; subst hu; rfl) RT (m := L.length - m) (by omega) (by omega)
        rw [Nat.mul_one] at hcl
        have HR3 := Lib.hid hr3
        have T3 := Lib.hid (HT.out.grownL RT hg3 rfl hBw)
        have n1 : ¬ c = m := by omega
        have n2 : (m : Int) ≤ L.length := by omega
        have n3 : (m : Int) ≤ c := by omega
        clear hr3 hg3 RT
        go_wp2_with fail
        go_ret
        unfold DFRet
        rw [HE.out]
        exact ⟨rfl, HR3.out, T3.out⟩
end Go.Proofs.Ytgacpkbpbckgiaa
