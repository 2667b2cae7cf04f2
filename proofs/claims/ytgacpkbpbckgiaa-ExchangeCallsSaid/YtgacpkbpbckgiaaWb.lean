/-
  Exchange: walks over Waiting, Next and the nil receivers. Condition: the state is one that the calls make.
-/
import Derived.Test.YtgacpkbpbckgiaaWa
namespace Go.Proofs.Ytgacpkbpbckgiaa
open Go.RowKit
set_option linter.unusedVariables false

theorem strE : ElemT Try.prog 42 9 (.string ⟨#[]⟩) 1 16 := ⟨Try.underlying42, by kernel_rfl, rfl, by decide⟩
theorem str_one (k : ByteArray) : ∀ u ∈ [Value.string k], u.oneCell' = true := by
  intro u hu
  simp at hu
  subst hu
  rfl
theorem pnd_len (zs : List (Nat × Im)) : (pnd zs).length ≤ zs.length := List.length_filter_le _ _
theorem pnd_mem {zs : List (Nat × Im)} {z : Nat × Im} (h : z ∈ pnd zs) : z ∈ zs ∧ pendB z.2 = true := by
  have := List.mem_filter.1 h
  exact ⟨this.1, this.2⟩
theorem map_flat (l : List (Nat × Im)) : l.map ptrZ = l.flatMap fun z => [ptrZ z] := by
  induction l with
  | nil => rfl
  | cons z l ih => rw [List.map_cons, List.flatMap_cons, ih]; rfl
theorem its_pnd (zs : List (Nat × Im)) : (pnd zs).map Prod.snd = (zs.map Prod.snd).filter pendB := by
  unfold pnd
  rw [List.filter_map]
  rfl
theorem waiL_pnd (zs : List (Nat × Im)) : waiL (zs.map Prod.snd) = ((pnd zs).filter fun z => waitB z.2).map fun z => z.2.key := by
  unfold waiL pnd
  rw [List.filter_filter, List.filter_map, List.map_map]
  have : (fun z : Nat × Im => waitB z.2 && pendB z.2) = waitB ∘ Prod.snd := by
    funext z
    show (waitB z.2 && pendB z.2) = waitB z.2
    unfold waitB pendB
    cases h : z.2.st == 0 <;> simp
  rw [this]
  rfl
/-- The keys of those among the first k that wait. -/
def wkK (L : List (Nat × Im)) (k : Nat) : List ByteArray := ((L.take k).filter fun z => waitB z.2).map fun z => z.2.key
theorem wkK_yes {L : List (Nat × Im)} {k : Nat} {z : Nat × Im} (h : L[k]? = some z) (hw : waitB z.2 = true) : wkK L (k + 1) = wkK L k ++ [z.2.key] := by
  unfold wkK
  rw [List.take_add_one, h]
  simp [List.filter_append, hw]
theorem wkK_no {L : List (Nat × Im)} {k : Nat} {z : Nat × Im} (h : L[k]? = some z) (hw : waitB z.2 = false) : wkK L (k + 1) = wkK L k := by
  unfold wkK
  rw [List.take_add_one, h]
  simp [List.filter_append, hw]
theorem wkK_len (L : List (Nat × Im)) (k : Nat) : (wkK L k).length ≤ k := by
  unfold wkK
  rw [List.length_map]
  exact Nat.le_trans (List.length_filter_le _ _) (by rw [List.length_take]; omega)

def WaiRet (s : XS) (w : World) (e : Ending) (w' : World) : Prop :=
  ∃ A c, e = .returned (.slice A (waiL s.its).length c) ∧ rowL w' w.heap.size 9 1 A (waiL s.its).length c ((waiL s.its).map Value.string) ∧ Below w.heap.size w w'
set_option maxRecDepth 100000 in
set_option maxHeartbeats 1600000 in
theorem waiting_any (B p : Nat) (s : XS) (hl : s.its.length ≤ 100000) (w : World) (r : PRep w B p s) : Calls Try.prog 26 #[.pointer (some ⟨p, 0, none⟩)] w (WaiRet s w) := by
  obtain ⟨h1, mb, zs, A, c, B0, h3, h4, h5, h6, h7⟩ := r
  have c3 : w.cell? ⟨p, 3, none⟩ = some (.slice A (pnd zs).length c) := B0.c 3 _ rfl
  obtain ⟨hnc, hcm⟩ := h7.len
  have hl2 : (pnd zs).length ≤ 100000 := by have := pnd_len zs; have e : zs.length = s.its.length := by rw [← h5, List.length_map]
                                            omega
  have H5 := Lib.hid h5
  have H6 : Hid (∀ z ∈ pnd zs, Blk w z.1 76 (imC s.tmo z.2)) := Lib.hid (fun z hz => (h6.2 z (pnd_mem hz).1).2)
  have H7 := Lib.hid h7
  have hmf := makeF
  clear h3 h4 h5 h6 h7 B0
  obtain ⟨L, hL⟩ : ∃ L, pnd zs = L := ⟨_, rfl⟩
  have HL := Lib.hid hL
  rw [hL] at c3 hnc hl2 H6 H7
  clear hL
  go_enter Try.func26, Try.ntmps26
  go_wp2_with fail
  go_loopw [3, 14] (fun d i wr => ∃ (k : Nat) (A2 : Option Addr) (c2 : Nat), k ≤ L.length ∧ i = .int .i64 k ∧ d = .slice A2 (wkK L k).length c2 ∧ rowL wr w.heap.size 9 1 A2 (wkK L k).length c2 ((wkK L k).map Value.string) ∧ Below w.heap.size w wr) (fun _ i _ => L.length - (intOf i).toNat)
  case atStart => exact ⟨0, none, 0, by omega, rfl, rfl, rowL.nil _ _ _ _, Below.refl _ _⟩
  case round =>
    obtain ⟨k, A2, C2, hk, rfl, rfl, hrow, hb⟩ := hrel
    have HI := Lib.hid hrow
    have HB := Lib.hid hb
    have zb := hb.size
    clear hrow hb
    by_cases hlt : k < L.length
    · obtain ⟨g, rfl, hBg, hgs, hcell, _⟩ := (H7.out.call HB.out).cells (by omega)
      have hu : L[k]? = some L[k] := List.getElem?_eq_getElem hlt
      have g0 : wr.cell? ⟨g, k, none⟩ = some (ptrZ L[k]) := hcell k _ (by rw [List.getElem?_map, hu]; rfl)
      have BZ := (H6.out _ (List.getElem_mem hlt)).call HB.out
      have HU := Lib.hid hu
      clear hcell hu
      generalize L[k] = z at g0 BZ HU
      unfold ptrZ at g0
      have d0 : wr.cell? ⟨z.1, 0, none⟩ = some (.string z.2.key) := BZ.c 0 _ rfl
      have d4 : wr.cell? ⟨z.1, 4, none⟩ = some (.int .i64 (oc z.2.st)) := BZ.c 4 _ rfl
      have hwl := wkK_len L k
      by_cases hw : waitB z.2 = true
      · have hst : z.2.st = 0 := by unfold waitB at hw; simpa using hw
        have HIS := is_any wr z.1 (oc z.2.st) 0 d4
        rw [hst, show decide (oc 0 = 0) = true from rfl] at HIS
        have HX := Lib.hid HIS
        have HW := Lib.hid (wkK_yes HU.out hw)
        clear HIS hst hw d4 BZ
        go_wp2_with (first
          | (go_at_call 33; refine HX.out.mono ?_; rintro e w' ⟨rfl, rfl⟩)
          | (at_builtin
             go_must (refine wpList_appL strE _ _ rfl rfl (m := 1) (c' := 1) (ys := [Value.string z.2.key]) rfl rfl (HI.out.alloc (.cells #[.string z.2.key] 9)) (RDn.of_box (Blk.new wr 9 #[.string z.2.key])) (str_one z.2.key) (by unfold maxLen; omega) (by omega) (by simp; omega) ?_)
             intro A3 c3' w3 hr3 hg3 hor
             have RA := HI.out.alloc (.cells #[.string z.2.key] 9)
             have HR3 := Lib.hid hr3
             have b3 := Lib.hid (below_grownL (HB.out.alloc zb (.cells #[.string z.2.key] 9)) RA (Nat.le_refl _) (by simp; omega) hg3)
             clear hr3 hg3 hor RA))
        go_roundw
        case rel =>
          refine ⟨k + 1, A3, c3', by omega, by go_num, by rw [HW.out]; simp, ?_, b3.out⟩
          rw [HW.out, List.map_append]
          simpa using HR3.out
        case measure => simp [intOf]; omega
      · have hw' : waitB z.2 = false := by simpa using hw
        have hst : ¬ z.2.st = 0 := by unfold waitB at hw'; simpa using hw'
        have hoc : decide (oc z.2.st = 0) = false := by
          unfold oc
          rw [if_neg hst]
          split <;> decide
        have HIS := is_any wr z.1 (oc z.2.st) 0 d4
        rw [hoc] at HIS
        have HX := Lib.hid HIS
        have HW := Lib.hid (wkK_no HU.out hw')
        clear HIS hst hw hw' hoc d4 BZ
        go_wp2_with (go_at_call 33; refine HX.out.mono ?_; rintro e w' ⟨rfl, rfl⟩)
        go_roundw
        case rel => exact ⟨k + 1, A2, C2, by omega, by go_num, by rw [HW.out], by rw [HW.out]; exact HI.out, HB.out⟩
        case measure => simp [intOf]; omega
    · have hkl : k = L.length := by omega
      have hE : wkK L k = waiL s.its := by
        rw [← H5.out, waiL_pnd, HL.out, hkl]
        unfold wkK
        rw [List.take_length]
      have HE := Lib.hid hE
      clear hE hkl
      go_wp2_with fail
      go_ret
      refine ⟨A2, C2, by rw [← HE.out]; rfl, by rw [← HE.out]; exact HI.out, HB.out⟩

theorem next_none (B p : Nat) (s : XS) (w : World) (hn : s.its.find? pendB = none) (r : PRep w B p s) : Calls Try.prog 24 #[.pointer (some ⟨p, 0, none⟩)] w fun e w' => e = .returned (.tuple #[.int .i64 0, .bool false]) ∧ w = w' := by
  obtain ⟨h1, mb, zs, A, c, B0, h3, h4, h5, h6, h7⟩ := r
  have c3 : w.cell? ⟨p, 3, none⟩ = some (.slice A (pnd zs).length c) := B0.c 3 _ rfl
  have hz : (pnd zs).length = 0 := by
    have : (pnd zs).map Prod.snd = [] := by
      rw [its_pnd, h5, List.filter_eq_nil_iff]
      intro x hx
      have := List.find?_eq_none.1 hn x hx
      simpa using this
    have h2 := congrArg List.length this
    simpa using h2
  rw [hz] at c3
  clear h3 h4 h5 h6 h7 B0
  go_enter Try.func24, Try.ntmps24
  go_wp2
  go_ret2
  exact ⟨rfl, rfl⟩
theorem find_head {l : List Im} {x : Im} (h : l.find? pendB = some x) : ∃ r, l.filter pendB = x :: r := by
  induction l with
  | nil => simp at h
  | cons y l ih =>
    rw [List.find?_cons] at h
    cases hy : pendB y with
    | true =>
      rw [hy] at h
      injection h with h
      subst h
      exact ⟨l.filter pendB, by rw [List.filter_cons_of_pos hy]⟩
    | false =>
      rw [hy] at h
      obtain ⟨r, e⟩ := ih h
      exact ⟨r, by rw [List.filter_cons_of_neg (by rw [hy]; decide)]; exact e⟩
set_option maxRecDepth 100000 in
theorem next_some (B p : Nat) (s : XS) (o : s.Ok) (hl : s.its.length ≤ 100000) (w : World) (x : Im) (hn : s.its.find? pendB = some x) (r : PRep w B p s) : Calls Try.prog 24 #[.pointer (some ⟨p, 0, none⟩)] w fun e w' => e = .returned (.tuple #[.int .i64 (x.at_ + s.tmo), .bool true]) ∧ w = w' := by
  obtain ⟨h1, mb, zs, A, c, B0, h3, h4, h5, h6, h7⟩ := r
  have c3 : w.cell? ⟨p, 3, none⟩ = some (.slice A (pnd zs).length c) := B0.c 3 _ rfl
  obtain ⟨hnc, hcm⟩ := h7.len
  have hl2 : (pnd zs).length ≤ 100000 := by have := pnd_len zs; have e : zs.length = s.its.length := by rw [← h5, List.length_map]
                                            omega
  obtain ⟨R, hR⟩ := find_head hn
  rw [← h5, ← its_pnd] at hR
  have hsort : ∀ z ∈ pnd zs, x.at_ ≤ z.2.at_ := by
    have h0 : ((pnd zs).map Prod.snd).Pairwise fun x y => x.at_ ≤ y.at_ := by
      rw [its_pnd, h5]
      exact o.sort.filter _
    rw [hR] at h0
    intro z hz
    have hm : z.2 ∈ (pnd zs).map Prod.snd := List.mem_map_of_mem hz
    rw [hR] at hm
    rcases List.mem_cons.1 hm with e | e
    · rw [e]; exact Int.le_refl _
    · exact List.rel_of_pairwise_cons h0 e
  have hpos : 0 < (pnd zs).length := by
    have := congrArg List.length hR
    rw [List.length_map] at this
    rw [this]
    simp
  have HS := Lib.hid hsort
  have H6 : Hid (∀ z ∈ pnd zs, Blk w z.1 76 (imC s.tmo z.2)) := Lib.hid (fun z hz => (h6.2 z (pnd_mem hz).1).2)
  obtain ⟨g, rfl, _, _, hcell, _⟩ := h7.cells hpos
  have H7 : Hid (∀ (k : Nat) (hk : k < (pnd zs).length), w.cell? ⟨g, k, none⟩ = some (.pointer (some ⟨(pnd zs)[k].1, 0, none⟩)) ∧ w.cell? ⟨(pnd zs)[k].1, 3, none⟩ = some (.int .i64 ((pnd zs)[k].2.at_ + s.tmo)) ∧ x.at_ ≤ (pnd zs)[k].2.at_) := Lib.hid (fun k hk => by
    have hu : (pnd zs)[k]? = some (pnd zs)[k] := List.getElem?_eq_getElem hk
    refine ⟨hcell k _ (by rw [List.getElem?_map, hu]; rfl), ?_, HS.out _ (List.getElem_mem hk)⟩
    exact (H6.out _ (List.getElem_mem hk)).c 3 _ rfl)
  have hx0 : (pnd zs)[0].2 = x := by
    have hh : ((pnd zs).map Prod.snd)[0]? = some x := by rw [hR]; rfl
    rw [List.getElem?_map, List.getElem?_eq_getElem hpos] at hh
    injection hh
  obtain ⟨g0, d0, _⟩ := H7.out 0 hpos
  rw [hx0] at d0
  clear hcell h3 h4 h5 h6 h7 B0 hsort hx0 hR hn
  obtain ⟨D, hD⟩ : ∃ D, x.at_ + s.tmo = D := ⟨_, rfl⟩
  have HD := Lib.hid hD
  rw [hD] at d0 ⊢
  clear hD
  generalize (pnd zs)[0].1 = b0 at g0 d0
  have n1 : ¬ (pnd zs).length = 0 := by omega
  have n2 : (0 : Int) < (pnd zs).length := by omega
  go_enter Try.func24, Try.ntmps24
  go_wp2_with fail
  go_loopw [4, 31] (fun m i wr => ∃ k : Nat, k ≤ (pnd zs).length ∧ i = .int .i64 k ∧ m = .int .i64 D ∧ wr = w) (fun _ i _ => (pnd zs).length - (intOf i).toNat)
  case atStart => exact ⟨0, by omega, rfl, rfl, rfl⟩
  case round =>
    obtain ⟨k, hk, rfl, rfl, rfl⟩ := hrel
    by_cases hlt : k < (pnd zs).length
    · obtain ⟨k0, k1, k2⟩ := H7.out k hlt
      have hmin : D ≤ (pnd zs)[k].2.at_ + s.tmo := by rw [← HD.out]; omega
      generalize (pnd zs)[k].2.at_ + s.tmo = E at k1 hmin
      generalize (pnd zs)[k].1 = bk at k0 k1
      clear k2
      go_wp2_with fail
      go_roundw
      case rel => exact ⟨k + 1, by omega, by go_num, rfl, trivial⟩
      case measure => simp [intOf]; omega
    · go_wp2_with fail
      go_ret2
      exact ⟨rfl, rfl⟩
theorem next_any (B p : Nat) (s : XS) (o : s.Ok) (hl : s.its.length ≤ 100000) (w : World) (r : PRep w B p s) : Calls Try.prog 24 #[.pointer (some ⟨p, 0, none⟩)] w fun e w' => e = .returned (.tuple #[.int .i64 (nexN s), .bool (nexB s)]) ∧ w = w' := by
  unfold nexN nexB
  cases h : s.its.find? pendB with
  | none => exact next_none B p s w h r
  | some x => exact next_some B p s o hl w x h r

/-! ### A nil exchange -/
theorem begin_nil (a : Int) (k t : ByteArray) (w : World) : Calls Try.prog 13 #[.pointer none, .int .i64 a, .string k, .string t] w fun e w' => e = .returned (.int .i64 6) ∧ w = w' := by
  go_enter Try.func13, Try.ntmps13
  go_wp2
  go_ret
  exact ⟨rfl, rfl⟩
theorem reply_nil (a : Int) (k t : ByteArray) (w : World) : Calls Try.prog 15 #[.pointer none, .int .i64 a, .string k, .string t] w fun e w' => e = .returned (.tuple #[.int .i64 0, .int .i64 6]) ∧ Below w.heap.size w w' := by
  go_enter Try.func15, Try.ntmps15
  go_wp2
  go_ret2
  exact ⟨rfl, (Below.refl _ _).alloc (Nat.le_refl _) _⟩
theorem lost_nil (a : Int) (w : World) : Calls Try.prog 18 #[.pointer none, .int .i64 a] w fun e w' => e = .returned (.slice none 0 0) ∧ w = w' := by
  go_enter Try.func18, Try.ntmps18
  go_wp2
  go_ret
  exact ⟨rfl, rfl⟩
theorem result_nil (k : ByteArray) (w : World) : Calls Try.prog 20 #[.pointer none, .string k] w fun e w' => e = .returned (.tuple #[.string ⟨#[]⟩, .int .i64 6]) ∧ w = w' := by
  go_enter Try.func20, Try.ntmps20
  go_wp2
  go_ret2
  exact ⟨rfl, rfl⟩
theorem request_nil (k : ByteArray) (w : World) : Calls Try.prog 22 #[.pointer none, .string k] w fun e w' => e = .returned (.tuple #[.string ⟨#[]⟩, .bool false]) ∧ w = w' := by
  go_enter Try.func22, Try.ntmps22
  go_wp2
  go_ret2
  exact ⟨rfl, rfl⟩
theorem next_nil (w : World) : Calls Try.prog 24 #[.pointer none] w fun e w' => e = .returned (.tuple #[.int .i64 0, .bool false]) ∧ w = w' := by
  go_enter Try.func24, Try.ntmps24
  go_wp2
  go_ret2
  exact ⟨rfl, rfl⟩
theorem waiting_nil (w : World) : Calls Try.prog 26 #[.pointer none] w fun e w' => e = .returned (.slice none 0 0) ∧ w = w' := by
  go_enter Try.func26, Try.ntmps26
  go_wp2
  go_ret
  exact ⟨rfl, rfl⟩
end Go.Proofs.Ytgacpkbpbckgiaa
