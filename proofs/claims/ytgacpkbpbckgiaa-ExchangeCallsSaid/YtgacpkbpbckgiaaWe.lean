/-
  Exchange: walks over slices.DeleteFunc and what it calls. Condition: the row holds pointers to requests.
-/
import Derived.Test.YtgacpkbpbckgiaaWd
import Derived.Test.YtgacpkbpbckgiaaDel
namespace Go.Proofs.Ytgacpkbpbckgiaa
open Go.RowKit
set_option linter.unusedVariables false

def keepB (key : ByteArray) (z : Nat × Im) : Bool := !(z.2.key.toList == key.toList)
set_option maxHeartbeats 800000 in
/-- What the closure captured: the key. -/
theorem del_any (g bx : Nat) (k key : ByteArray) (w : World) (h1 : w.cell? ⟨g, 0, none⟩ = some (.string k)) (h2 : w.cell? ⟨bx, 0, none⟩ = some (.string key)) :
    Calls Try.prog 35 #[.pointer (some ⟨g, 0, none⟩), .pointer (some ⟨bx, 0, none⟩)] w fun e w' => e = .returned (.bool (k.toList == key.toList)) ∧ Below w.heap.size w w' := by
  have l1 := World.block_lt_of_cell? _ _ h1
  have l2 := World.block_lt_of_cell? _ _ h2
  have e0 := fun n : Cls (UpC w) => (Below.cell n.2 (p := ⟨g, 0, none⟩) l1).trans h1
  have e1 := fun n : Cls (UpC w) => (Below.cell n.2 (p := ⟨bx, 0, none⟩) l2).trans h2
  go_enter Try.func35, Try.ntmps35
  go_wp2_with fail
  rename_i K0 hKK
  refine wp_region_reg (UpC w) 7 rfl (by kernel_rfl) ?_
  have T : UpC w w.drew := (Below.refl _ _).drew
  haveI : Nonempty (Cls (UpC w)) := ⟨⟨_, T⟩⟩
  refine reg_seg (f := 0) (by kernel_rfl) [0, 1, 2, 3, 4, 5, 6] _ _ _ T (by kernel_rfl) ?_
  simp only [pickL, List.filterMap_cons, List.filterMap_nil, List.getElem?_toArray, List.getElem?_cons_zero, List.getElem?_cons_succ]
  show wpQuiet _ _ _ _ [_, _, _, _, _, _, _] _
  repeat (go_big_quiet_step (fail))
  refine wpQuiet_nil ?_
  refine reg_end (by kernel_rfl) ?_
  refine hKK _ _ ?_
  clear e0 e1
  go_wp2_with fail
  go_ret
  exact ⟨rfl, T⟩

def idxI (o : Option Nat) : Int := match o with | some k => (k : Int) | none => -1
/-- The index of the first that goes. -/
def ixD (key : ByteArray) : List (Nat × Im) → Option Nat
  | [] => none
  | z :: l => if keepB key z then (ixD key l).map (· + 1) else some 0
theorem ixD_none {key : ByteArray} : ∀ {l : List (Nat × Im)}, (∀ z ∈ l, keepB key z = true) → ixD key l = none
  | [], _ => rfl
  | z :: l, h => by
    rw [ixD, if_pos (h z (by simp)), ixD_none (l := l) (fun y hy => h y (by simp [hy]))]
    rfl
theorem ixD_some {key : ByteArray} : ∀ {l : List (Nat × Im)} {i : Nat} {z : Nat × Im}, (∀ y ∈ l.take i, keepB key y = true) → l[i]? = some z → keepB key z = false → ixD key l = some i
  | [], _, _, _, h, _ => by simp at h
  | y :: l, 0, z, _, h, e => by
    simp at h
    subst h
    rw [ixD, if_neg (by rw [e]; decide)]
  | y :: l, i + 1, z, hn, h, e => by
    rw [ixD, if_pos (hn y (by simp)), ixD_some (l := l) (i := i) (z := z) (fun x hx => hn x (by simp [hx])) (by simpa using h) e]
    rfl
theorem ixD_spec {key : ByteArray} : ∀ {l : List (Nat × Im)} {i : Nat}, ixD key l = some i → ∃ z, l[i]? = some z ∧ keepB key z = false ∧ ∀ y ∈ l.take i, keepB key y = true
  | [], _, h => by simp [ixD] at h
  | y :: l, i, h => by
    unfold ixD at h
    split at h
    · rename_i hy
      cases hf : ixD key l with
      | none => rw [hf] at h; simp at h
      | some k =>
        rw [hf] at h
        obtain ⟨z, h1, h2, h3⟩ := ixD_spec hf
        simp at h
        subst h
        refine ⟨z, by simpa using h1, h2, fun x hx => ?_⟩
        rw [List.take_succ_cons] at hx
        rcases List.mem_cons.1 hx with rfl | hx
        · exact hy
        · exact h3 x hx
    · rename_i hy
      injection h with h
      subst h
      exact ⟨y, rfl, by simpa using hy, by simp⟩
/-- The requests behind a row of pointers bear their keys. -/
def KeysAt (w : World) (L : List (Nat × Im)) : Prop := ∀ z ∈ L, w.cell? ⟨z.1, 0, none⟩ = some (.string z.2.key)
theorem KeysAt.below {w w' : World} {L : List (Nat × Im)} (h : KeysAt w L) (hb : Below w.heap.size w w') : KeysAt w' L := fun z hz => (hb.cell (p := ⟨z.1, 0, none⟩) (World.block_lt_of_cell? _ _ (h z hz))).trans (h z hz)

theorem indexFunc_any (B : Nat) (A : Option Addr) (c : Nat) (L : List (Nat × Im)) (key : ByteArray) (bx : Nat) (w : World) (hr : rowL w B 69 1 A L.length c (L.map ptrZ)) (hz : KeysAt w L) (hg : w.cell? ⟨bx, 0, none⟩ = some (.string key)) :
    Calls Try.prog 36 #[.slice A L.length c, .func (.func 35) #[] #[.pointer (some ⟨bx, 0, none⟩)]] w fun e w' => e = .returned (.int .i64 (idxI (ixD key L))) ∧ Below w.heap.size w w' := by
  have hglt := World.block_lt_of_cell? _ _ hg
  have HR := Lib.hid hr
  have HG := Lib.hid hg
  have HZ := Lib.hid hz
  have hlen := hr.len
  clear hr hg hz
  go_enter Try.func36, Try.ntmps36
  go_wp2_with fail
  go_loopw [8] (fun i wr => ∃ k : Nat, k ≤ L.length ∧ i = .int .i64 k ∧ (∀ y ∈ L.take k, keepB key y = true) ∧ Below w.heap.size w wr) (fun i _ => L.length - (intOf i).toNat)
  case atStart => exact ⟨0, by omega, rfl, by simp, Below.refl _ _⟩
  case round =>
    obtain ⟨k, hk, rfl, hno, hb⟩ := hrel
    have HB := Lib.hid hb
    have HN := Lib.hid hno
    clear hb hno
    by_cases hlt : k < L.length
    · obtain ⟨ga, rfl, hBg, hgs, hcell, _⟩ := (HR.out.call HB.out).cells (by omega)
      have hu : L[k]? = some L[k] := List.getElem?_eq_getElem hlt
      have g0 : wr.cell? ⟨ga, k, none⟩ = some (ptrZ L[k]) := hcell k _ (by rw [List.getElem?_map, hu]; rfl)
      have HU := Lib.hid hu
      have HC := del_any L[k].1 bx L[k].2.key key wr (HZ.out.below HB.out _ (List.getElem_mem hlt)) ((HB.out.cell hglt).trans HG.out)
      clear hcell hu
      generalize L[k] = z at g0 HU HC
      unfold ptrZ at g0
      cases hq : keepB key z with
      | false =>
        have hbq : (z.2.key.toList == key.toList) = true := by unfold keepB at hq; simpa using hq
        rw [hbq] at HC
        replace HC := Lib.hid HC
        have HE := Lib.hid hq
        clear hbq hq
        go_wp2_with (go_at_call 35; refine HC.out.mono ?_; rintro e w2 ⟨rfl, hb2⟩)
        go_ret
        exact ⟨by rw [ixD_some HN.out HU.out HE.out]; rfl, HB.out.trans (hb2.mono HB.out.size)⟩
      | true =>
        have hbq : (z.2.key.toList == key.toList) = false := by unfold keepB at hq; simpa using hq
        rw [hbq] at HC
        replace HC := Lib.hid HC
        have HE := Lib.hid hq
        clear hbq hq
        go_wp2_with (go_at_call 35; refine HC.out.mono ?_; rintro e w2 ⟨rfl, hb2⟩)
        go_roundw
        case rel =>
          refine ⟨k + 1, by omega, by go_num, fun y hy => ?_, HB.out.trans (hb2.mono HB.out.size)⟩
          rw [List.take_add_one, HU.out] at hy
          rcases List.mem_append.1 hy with hy | hy
          · exact HN.out y hy
          · simp at hy
            subst hy
            exact HE.out
        case measure => simp [intOf]; omega
    · have hkn : k = L.length := by omega
      have HT : Hid (ixD key L = none) := Lib.hid (ixD_none (fun z hz => HN.out z (by rw [hkn, List.take_length]; exact hz)))
      clear hkn
      go_wp2_with fail
      go_ret
      exact ⟨by rw [HT.out]; rfl, HB.out⟩
end Go.Proofs.Ytgacpkbpbckgiaa
